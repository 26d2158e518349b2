/- The program's functions, run by the rewriting evaluator: what each answers and leaves (ShaC). -/
import Derived.Test.YtgmjbnhndhggmaaDoorShaB
set_option linter.all false
open Go Go.Cl Go.Proofs
namespace Go.Cl.Sh
variable {σ : Sums}
set_option maxRecDepth 1000000

def be8 (c : BitVec 64) : Nat → List Nat
  | 0 => []
  | i + 1 => be8 c i ++ [(c >>> (8 * (7 - i))).toNat % 256]
def fullL (xs : List Nat) : List Nat := xs ++ [128] ++ zs (zn xs.length) ++ be8 (cnt xs.length) 8
def rendS (xs : List Nat) : S8 := stA (fullL xs) s0 ((fullL xs).length / 64)
def rdigest (xs : List Nat) : List Nat := (rendS xs).l.flatMap wbN
theorem be8_len (c : BitVec 64) : ∀ i, (be8 c i).length = i
  | 0 => rfl
  | i + 1 => by simp [be8, be8_len c i]
theorem fullL_len (xs : List Nat) : (fullL xs).length % 64 = 0 ∧ (fullL xs).length ≤ xs.length + 128 ∧ 64 ≤ (fullL xs).length := by
  unfold fullL zs zn
  simp only [List.length_append, List.length_replicate, List.length_cons, List.length_nil, be8_len]
  omega
theorem fullL_byte (xs : List Nat) (h : ∀ b ∈ xs, b < 256) : ∀ b ∈ fullL xs, b < 256 := by
  have hb : ∀ (c : BitVec 64) i, ∀ b ∈ be8 c i, b < 256 := fun c i => by
    induction i with
    | zero => intro b hb; cases hb
    | succ i ih =>
      intro b hb
      rcases List.mem_append.1 hb with hb | hb
      · exact ih b hb
      · rw [List.mem_singleton.1 hb]; exact Nat.mod_lt _ (by decide)
  intro b hm
  unfold fullL at hm
  rcases List.mem_append.1 hm with hm | hm
  · rcases List.mem_append.1 hm with hm | hm
    · rcases List.mem_append.1 hm with hm | hm
      · exact h b hm
      · rw [List.mem_singleton.1 hm]; decide
    · rw [(List.mem_replicate.1 hm).2]; decide
  · exact hb _ _ b hm
theorem wb_at (x : BitVec 32) {r : Nat} (hr : r < 4) : nth (wb x) r = some (u8 ((x >>> (24 - 8 * r)).toNat % 256)) := by
  have h2 : r = 0 ∨ r = 1 ∨ r = 2 ∨ r = 3 := by omega
  rcases h2 with rfl | rfl | rfl | rfl
  · rfl
  · rfl
  · rfl
  · rw [show 24 - 8 * 3 = 0 from rfl, BitVec.ushiftRight_zero]; rfl
theorem cv341 (h) (n : Nat) : convT Tryd.prog h 3 41 (.int .i64 (Int.ofNat n)) = some (.val (w64 (BitVec.ofNat 64 n))) := by
  rw [← w64_of]; exact cv_3_41 h .i64 _
theorem cv315 (h x) : convT Tryd.prog h 31 5 (w64 x) = some (.val (u8 (x.toNat % 256))) := by
  unfold u8; rw [← wrapU8]; exact cv_31_5 h .u64 _
theorem quo4i {n : Nat} (h : n < 1000000000) : ∀ t xo yo, binT Tryd.prog .quo t xo yo (.int .i64 (Int.ofNat n)) (.int .i64 4) = some (.int .i64 (Int.ofNat (n / 4))) := fun t xo yo => by
  rw [bin_quo]
  show some (CV.int .i64 (IntKind.wrap .i64 (Int.ofNat (n / 4)))) = _
  rw [wrap_n rfl (by omega)]
theorem rem4i {n : Nat} : ∀ t xo yo, binT Tryd.prog .rem t xo yo (.int .i64 (Int.ofNat n)) (.int .i64 4) = some (.int .i64 (Int.ofNat (n % 4))) := fun _ _ _ => rfl

theorem rsum_run (hσ : ∀ f a h, σ f a h = none) {h : H} {v : CV} {xs : List Nat} (B : BV h v xs) (hx : xs.length ≤ 100000) (h256 : ∀ b ∈ xs, b < 256) : RetQ h (.agg (bc (rdigest xs))) ((lim Tryd.prog σ).call 8 [v] h) := by
  obtain ⟨Q, hQ⟩ : ∃ Q, Q = RetQ h (.agg (bc (rdigest xs))) := ⟨_, rfl⟩
  rw [← hQ]
  rw [call_eq (hσ _ _ _) fn_8 rfl rfl, Tryd.ntmps8, Tryd.results8]
  simp only [go_sem, Nat.reduceLT, Nat.reduceLeDiff, Nat.reduceEqDiff, Nat.reduceAdd, Nat.reduceSub, Nat.reduceMul, reduceCtorEq, Int.reduceBEq, Int.reduceLT, Int.reduceLE, Int.reduceAdd, Int.reduceSub, Int.reduceEq, Int.reduceNeg, Int.reduceToNat, Int.reduceGT, Int.reduceGE]
  obtain ⟨ob, hob⟩ : ∃ ob, ob = newBlk [CV.int IntKind.u8 0, CV.int IntKind.u8 0, CV.int IntKind.u8 0, CV.int IntKind.u8 0, CV.int IntKind.u8 0, CV.int IntKind.u8 0, CV.int IntKind.u8 0, CV.int IntKind.u8 0, CV.int IntKind.u8 0, CV.int IntKind.u8 0, CV.int IntKind.u8 0, CV.int IntKind.u8 0, CV.int IntKind.u8 0, CV.int IntKind.u8 0, CV.int IntKind.u8 0, CV.int IntKind.u8 0, CV.int IntKind.u8 0, CV.int IntKind.u8 0, CV.int IntKind.u8 0, CV.int IntKind.u8 0, CV.int IntKind.u8 0, CV.int IntKind.u8 0, CV.int IntKind.u8 0, CV.int IntKind.u8 0, CV.int IntKind.u8 0, CV.int IntKind.u8 0, CV.int IntKind.u8 0, CV.int IntKind.u8 0, CV.int IntKind.u8 0, CV.int IntKind.u8 0, CV.int IntKind.u8 0, CV.int IntKind.u8 0] := ⟨_, rfl⟩
  have on : ob.n = 32 := by rw [hob, wnewBlk_n]; rfl
  have ow : ob.ro = false := by rw [hob, newBlk_ro]
  rw [← hob]
  clear hob
  obtain ⟨X, hX⟩ : ∃ X, X = h.lo.alloc (.cells ob) := ⟨_, rfl⟩
  have Xnx : X.nx = h.nx + 1 := by rw [hX]; rfl
  have Xlow : X.low = h.nx := by rw [hX]; rfl
  have XE : Ext h X := by rw [hX]; exact (Ext.lo h).alloc' _
  have Xo : X.blk h.nx = some ob := by rw [hX]; exact alloc_blk_same _ _ _ rfl
  rw [← hX]
  clear hX
  have BX := B.ext XE
  simp only [BX.app]
  refine copy_step (Q := Q) (xs := xs) (by omega) fun v1 h1 L1 E1 hlow1 hnx1 hval1 => ?_
  clear hval1
  have G1 : G X h1 v1 xs X.nx := ⟨Nat.le_refl _, L1, E1, hlow1, by omega⟩
  clear L1 E1 hlow1 hnx1
  simp only [go_sem, Nat.reduceLT, Nat.reduceLeDiff, Nat.reduceEqDiff, Nat.reduceAdd, Nat.reduceSub, Nat.reduceMul, reduceCtorEq, Int.reduceBEq, Int.reduceLT, Int.reduceLE, Int.reduceAdd, Int.reduceSub, Int.reduceEq, Int.reduceNeg, Int.reduceToNat, Int.reduceGT, Int.reduceGE]
  have G2 := G1.alloc (.cells ({ n := 1, d := [CV.int IntKind.u8 0], t := T.nil, ro := false : Blk }.st 0 (CV.int IntKind.u8 128)))
  refine grow_step (Q := Q) (ns := [128]) G2 (by decide) (by simp; omega) fun h2 v2 hv2 G3 hlt => ?_
  simp only [go_sem, Nat.reduceLT, Nat.reduceLeDiff, Nat.reduceEqDiff, Nat.reduceAdd, Nat.reduceSub, Nat.reduceMul, reduceCtorEq, Int.reduceBEq, Int.reduceLT, Int.reduceLE, Int.reduceAdd, Int.reduceSub, Int.reduceEq, Int.reduceNeg, Int.reduceToNat, Int.reduceGT, Int.reduceGE]
  have hz : ∀ i, (xs ++ [128] ++ zs i).length = xs.length + 1 + i := fun i => by simp [zs]; omega
  refine loop_ind (Q := Q) (fun i env h' => evT env 0 = v ∧ evT env 2 = .ptr h.nx 0 ∧ ∃ lid, G X h' (evT env 3) (xs ++ [128] ++ zs i) lid) (zn xs.length) 0 ?_ (Nat.zero_le _) ?_ ?_
  · have G3' : ∃ lid, G X h2 v2 (xs ++ [128] ++ zs 0) lid := ⟨_, by rw [show zs 0 = [] from rfl, List.append_nil]; exact G3⟩
    obtain ⟨lid, G3'⟩ := G3'
    exact ⟨by simp only [go_sem, Nat.reduceLT, Nat.reduceLeDiff, Nat.reduceEqDiff, Nat.reduceAdd, Nat.reduceSub, Nat.reduceMul, reduceCtorEq, Int.reduceBEq, Int.reduceLT, Int.reduceLE, Int.reduceAdd, Int.reduceSub, Int.reduceEq, Int.reduceNeg, Int.reduceToNat, Int.reduceGT, Int.reduceGE], by simp only [go_sem, Nat.reduceLT, Nat.reduceLeDiff, Nat.reduceEqDiff, Nat.reduceAdd, Nat.reduceSub, Nat.reduceMul, reduceCtorEq, Int.reduceBEq, Int.reduceLT, Int.reduceLE, Int.reduceAdd, Int.reduceSub, Int.reduceEq, Int.reduceNeg, Int.reduceToNat, Int.reduceGT, Int.reduceGE], lid, by simp only [go_sem, Nat.reduceLT, Nat.reduceLeDiff, Nat.reduceEqDiff, Nat.reduceAdd, Nat.reduceSub, Nat.reduceMul, reduceCtorEq, Int.reduceBEq, Int.reduceLT, Int.reduceLE, Int.reduceAdd, Int.reduceSub, Int.reduceEq, Int.reduceNeg, Int.reduceToNat, Int.reduceGT, Int.reduceGE]; exact G3'⟩
  · rintro i env h' ⟨e0, e2, lid, G4⟩ hi next
    have hzn : zn xs.length < 64 := Nat.mod_lt _ (by decide)
    have c1 : ¬ Int.ofNat ((xs.length + 1 + i) % 64) = 56 := by
      unfold zn at hi hzn
      intro q
      have : (xs.length + 1 + i) % 64 = 56 := Int.ofNat.inj q
      omega
    simp only [go_sem, Nat.reduceLT, Nat.reduceLeDiff, Nat.reduceEqDiff, Nat.reduceAdd, Nat.reduceSub, Nat.reduceMul, reduceCtorEq, Int.reduceBEq, Int.reduceLT, Int.reduceLE, Int.reduceAdd, Int.reduceSub, Int.reduceEq, Int.reduceNeg, Int.reduceToNat, Int.reduceGT, Int.reduceGE, e0, e2, G4.bv.len, hz, rem64i, c1]
    have G5 := G4.alloc (.cells ({ n := 1, d := [CV.int IntKind.u8 0], t := T.nil, ro := false : Blk }.st 0 (CV.int IntKind.u8 0)))
    refine grow_step (Q := Q) (ns := [0]) G5 (by decide) (by rw [hz]; simp; omega) fun h2 v2 hv2 G6 hlt => ?_
    simp only [go_sem, Nat.reduceLT, Nat.reduceLeDiff, Nat.reduceEqDiff, Nat.reduceAdd, Nat.reduceSub, Nat.reduceMul, reduceCtorEq, Int.reduceBEq, Int.reduceLT, Int.reduceLE, Int.reduceAdd, Int.reduceSub, Int.reduceEq, Int.reduceNeg, Int.reduceToNat, Int.reduceGT, Int.reduceGE]
    rw [show xs ++ [128] ++ zs i ++ [0] = xs ++ [128] ++ zs (i + 1) by simp [zs, List.replicate_succ']] at G6
    exact next _ _ ⟨by simp only [go_sem, Nat.reduceLT, Nat.reduceLeDiff, Nat.reduceEqDiff, Nat.reduceAdd, Nat.reduceSub, Nat.reduceMul, reduceCtorEq, Int.reduceBEq, Int.reduceLT, Int.reduceLE, Int.reduceAdd, Int.reduceSub, Int.reduceEq, Int.reduceNeg, Int.reduceToNat, Int.reduceGT, Int.reduceGE, e0], by simp only [go_sem, Nat.reduceLT, Nat.reduceLeDiff, Nat.reduceEqDiff, Nat.reduceAdd, Nat.reduceSub, Nat.reduceMul, reduceCtorEq, Int.reduceBEq, Int.reduceLT, Int.reduceLE, Int.reduceAdd, Int.reduceSub, Int.reduceEq, Int.reduceNeg, Int.reduceToNat, Int.reduceGT, Int.reduceGE, e2], _, by simp only [go_sem, Nat.reduceLT, Nat.reduceLeDiff, Nat.reduceEqDiff, Nat.reduceAdd, Nat.reduceSub, Nat.reduceMul, reduceCtorEq, Int.reduceBEq, Int.reduceLT, Int.reduceLE, Int.reduceAdd, Int.reduceSub, Int.reduceEq, Int.reduceNeg, Int.reduceToNat, Int.reduceGT, Int.reduceGE]; exact G6⟩
  clear G1 G2 G3 hlt hv2 v2 h2 h1 v1
  rintro env h' ⟨e0, e2, lid, G4⟩
  have hzn : zn xs.length < 64 := Nat.mod_lt _ (by decide)
  have c1 : Int.ofNat ((xs.length + 1 + zn xs.length) % 64) = 56 := by
    have : (xs.length + 1 + zn xs.length) % 64 = 56 := by unfold zn; omega
    rw [this]; rfl
  have l8 : CV.int .u64 8 = w64 (BitVec.ofNat 64 8) := rfl
  have ecnt : BitVec.ofNat 64 xs.length * BitVec.ofNat 64 8 = cnt xs.length := rfl
  simp only [go_sem, Nat.reduceLT, Nat.reduceLeDiff, Nat.reduceEqDiff, Nat.reduceAdd, Nat.reduceSub, Nat.reduceMul, reduceCtorEq, Int.reduceBEq, Int.reduceLT, Int.reduceLE, Int.reduceAdd, Int.reduceSub, Int.reduceEq, Int.reduceNeg, Int.reduceToNat, Int.reduceGT, Int.reduceGE, wadd32, wmul32, wadd64, wmul64, wand32, wor32, wxor32, wand64, wor64, wnot32, wsub32, wsub64, wshr32l, wshl32l, wshr64l, wshl64l, wshr32w, wshl32w, wshr64w, wlt64, wgt64, weq64, wne64, e0, e2, G4.bv.len, hz, rem64i, c1, cv331, l8, B.len, ecnt]
  refine loop_ind (Q := Q) (fun i env h' => evT env 2 = .ptr h.nx 0 ∧ evT env 4 = w64 (cnt xs.length) ∧ evT env 5 = .int .i64 (7 - Int.ofNat i) ∧ ∃ lid, G X h' (evT env 3) (xs ++ [128] ++ zs (zn xs.length) ++ be8 (cnt xs.length) i) lid) 8 0 ?_ (by decide) ?_ ?_
  · exact ⟨by simp only [go_sem, Nat.reduceLT, Nat.reduceLeDiff, Nat.reduceEqDiff, Nat.reduceAdd, Nat.reduceSub, Nat.reduceMul, reduceCtorEq, Int.reduceBEq, Int.reduceLT, Int.reduceLE, Int.reduceAdd, Int.reduceSub, Int.reduceEq, Int.reduceNeg, Int.reduceToNat, Int.reduceGT, Int.reduceGE, e2], by simp only [go_sem, Nat.reduceLT, Nat.reduceLeDiff, Nat.reduceEqDiff, Nat.reduceAdd, Nat.reduceSub, Nat.reduceMul, reduceCtorEq, Int.reduceBEq, Int.reduceLT, Int.reduceLE, Int.reduceAdd, Int.reduceSub, Int.reduceEq, Int.reduceNeg, Int.reduceToNat, Int.reduceGT, Int.reduceGE], by simp only [go_sem, Nat.reduceLT, Nat.reduceLeDiff, Nat.reduceEqDiff, Nat.reduceAdd, Nat.reduceSub, Nat.reduceMul, reduceCtorEq, Int.reduceBEq, Int.reduceLT, Int.reduceLE, Int.reduceAdd, Int.reduceSub, Int.reduceEq, Int.reduceNeg, Int.reduceToNat, Int.reduceGT, Int.reduceGE]; rfl, lid, by simp only [go_sem, Nat.reduceLT, Nat.reduceLeDiff, Nat.reduceEqDiff, Nat.reduceAdd, Nat.reduceSub, Nat.reduceMul, reduceCtorEq, Int.reduceBEq, Int.reduceLT, Int.reduceLE, Int.reduceAdd, Int.reduceSub, Int.reduceEq, Int.reduceNeg, Int.reduceToNat, Int.reduceGT, Int.reduceGE, be8]; exact G4⟩
  · clear e0 e2 G4 c1 lid env h'
    rintro i env h' ⟨e2, e4, e5, lid, G4⟩ hi next
    obtain ⟨j, hj⟩ : ∃ j, 7 - i = j := ⟨_, rfl⟩
    have e5' : evT env 5 = .int .i64 (Int.ofNat j) := by rw [e5]; congr 1; simp; omega
    have c1 : Int.ofNat j ≥ 0 := Int.natCast_nonneg _
    have c3 : IntKind.wrap .i64 (Int.ofNat j - 1) = 7 - Int.ofNat (i + 1) := by
      rw [wrap_i64 (by simp; omega) (by simp; omega)]; simp; omega
    have w1 : IntKind.wrap .i64 (8 * Int.ofNat j) = Int.ofNat (8 * j) := wrap_n (by simp) (by omega)
    have ht : (BitVec.ofNat 64 (8 * j)).toNat = 8 * j := by simp; omega
    simp only [go_sem, Nat.reduceLT, Nat.reduceLeDiff, Nat.reduceEqDiff, Nat.reduceAdd, Nat.reduceSub, Nat.reduceMul, reduceCtorEq, Int.reduceBEq, Int.reduceLT, Int.reduceLE, Int.reduceAdd, Int.reduceSub, Int.reduceEq, Int.reduceNeg, Int.reduceToNat, Int.reduceGT, Int.reduceGE, wadd32, wmul32, wadd64, wmul64, wand32, wor32, wxor32, wand64, wor64, wnot32, wsub32, wsub64, wshr32l, wshl32l, wshr64l, wshl64l, wshr32w, wshl32w, wshr64w, wlt64, wgt64, weq64, wne64, e2, e4, e5', c1, c3, w1, cv341, ht, cv315]
    have G5 := G4.alloc (.cells ({ n := 1, d := [CV.int IntKind.u8 0], t := T.nil, ro := false : Blk }.st 0 (u8 ((cnt xs.length >>> (8 * j)).toNat % 256))))
    refine grow_step (Q := Q) (ns := [(cnt xs.length >>> (8 * j)).toNat % 256]) G5 (Nat.zero_lt_one) (by rw [List.length_append, hz, be8_len]; simp; omega) fun h2 v2 hv2 G6 hlt => ?_
    simp only [go_sem, Nat.reduceLT, Nat.reduceLeDiff, Nat.reduceEqDiff, Nat.reduceAdd, Nat.reduceSub, Nat.reduceMul, reduceCtorEq, Int.reduceBEq, Int.reduceLT, Int.reduceLE, Int.reduceAdd, Int.reduceSub, Int.reduceEq, Int.reduceNeg, Int.reduceToNat, Int.reduceGT, Int.reduceGE, e5', c3]
    rw [List.append_assoc, show be8 (cnt xs.length) i ++ [(cnt xs.length >>> (8 * j)).toNat % 256] = be8 (cnt xs.length) (i + 1) by rw [← hj]; rfl] at G6
    exact next _ _ ⟨by simp only [go_sem, Nat.reduceLT, Nat.reduceLeDiff, Nat.reduceEqDiff, Nat.reduceAdd, Nat.reduceSub, Nat.reduceMul, reduceCtorEq, Int.reduceBEq, Int.reduceLT, Int.reduceLE, Int.reduceAdd, Int.reduceSub, Int.reduceEq, Int.reduceNeg, Int.reduceToNat, Int.reduceGT, Int.reduceGE, e2], by simp only [go_sem, Nat.reduceLT, Nat.reduceLeDiff, Nat.reduceEqDiff, Nat.reduceAdd, Nat.reduceSub, Nat.reduceMul, reduceCtorEq, Int.reduceBEq, Int.reduceLT, Int.reduceLE, Int.reduceAdd, Int.reduceSub, Int.reduceEq, Int.reduceNeg, Int.reduceToNat, Int.reduceGT, Int.reduceGE, e4], by simp only [go_sem, Nat.reduceLT, Nat.reduceLeDiff, Nat.reduceEqDiff, Nat.reduceAdd, Nat.reduceSub, Nat.reduceMul, reduceCtorEq, Int.reduceBEq, Int.reduceLT, Int.reduceLE, Int.reduceAdd, Int.reduceSub, Int.reduceEq, Int.reduceNeg, Int.reduceToNat, Int.reduceGT, Int.reduceGE], _, by simp only [go_sem, Nat.reduceLT, Nat.reduceLeDiff, Nat.reduceEqDiff, Nat.reduceAdd, Nat.reduceSub, Nat.reduceMul, reduceCtorEq, Int.reduceBEq, Int.reduceLT, Int.reduceLE, Int.reduceAdd, Int.reduceSub, Int.reduceEq, Int.reduceNeg, Int.reduceToNat, Int.reduceGT, Int.reduceGE]; exact G6⟩
  clear e0 e2 G4 c1 lid env h'
  rintro env h' ⟨e2, e4, e5, lid, G4⟩
  have e5' : evT env 5 = .int .i64 (-1) := by rw [e5]; rfl
  obtain ⟨ys, hys⟩ : ∃ ys, ys = fullL xs := ⟨_, rfl⟩
  have hys' : xs ++ [128] ++ zs (zn xs.length) ++ be8 (cnt xs.length) 8 = ys := by rw [hys]; rfl
  rw [hys'] at G4
  obtain ⟨hf1, hf2, hf3⟩ := fullL_len xs
  rw [← hys] at hf1 hf2 hf3
  obtain ⟨w, hw⟩ : ∃ w, w = evT env 3 := ⟨_, rfl⟩
  have hw' : evT env 3 = w := hw.symm
  rw [hw'] at G4
  have BY := G4.bv
  have XE2 : Ext h h' := XE.trans G4.ext
  have hlow : h'.low = h.nx := G4.low.trans Xlow
  have hnx : h.nx < h'.nx := by have := G4.ext.nx; omega
  have hout : h'.blk h.nx = some ob := (G4.ext.blk (by omega)).trans Xo
  clear G4 hys' e5 hw
  simp only [go_sem, Nat.reduceLT, Nat.reduceLeDiff, Nat.reduceEqDiff, Nat.reduceAdd, Nat.reduceSub, Nat.reduceMul, reduceCtorEq, Int.reduceBEq, Int.reduceLT, Int.reduceLE, Int.reduceAdd, Int.reduceSub, Int.reduceEq, Int.reduceNeg, Int.reduceToNat, Int.reduceGT, Int.reduceGE, wadd32, wmul32, wadd64, wmul64, wand32, wor32, wxor32, wand64, wor64, wnot32, wsub32, wsub64, wshr32l, wshl32l, wshr64l, wshl64l, wshr32w, wshl32w, wshr64w, wlt64, wgt64, weq64, wne64, e2, e4, e5', hw', BY.len]
  refine store_step (Q := Q) (by rw [wnewBlk_n]; rfl) rfl fun b1 hn1 hr1 hl1 hg1 => ?_
  simp only [go_sem, Nat.reduceLT, Nat.reduceLeDiff, Nat.reduceEqDiff, Nat.reduceAdd, Nat.reduceSub, Nat.reduceMul, reduceCtorEq, Int.reduceBEq, Int.reduceLT, Int.reduceLE, Int.reduceAdd, Int.reduceSub, Int.reduceEq, Int.reduceNeg, Int.reduceToNat, Int.reduceGT, Int.reduceGE, wadd32, wmul32, wadd64, wmul64, wand32, wor32, wxor32, wand64, wor64, wnot32, wsub32, wsub64, wshr32l, wshl32l, wshr64l, wshl64l, wshr32w, wshl32w, wshr64w, wlt64, wgt64, weq64, wne64, e2, e4, e5', hw', BY.len]
  refine loop_ind (Q := Q) (fun i env h3 => evT env 2 = .ptr h.nx 0 ∧ evT env 3 = w ∧ evT env 6 = .ptr h'.nx 0 ∧ evT env 7 = .int .i64 (Int.ofNat (64 * i)) ∧ h'.nx < h3.nx ∧ Ext h' h3 ∧ h3.low = h.nx ∧
    ∃ b, h3.blk h'.nx = some b ∧ b.n = 8 ∧ b.ro = false ∧ ∀ j, b.get j = nth ((stA ys s0 i).l.map w32) j) (ys.length / 64) 0 ?_ (Nat.zero_le _) ?_ ?_
  · exact ⟨by simp only [go_sem, Nat.reduceLT, Nat.reduceLeDiff, Nat.reduceEqDiff, Nat.reduceAdd, Nat.reduceSub, Nat.reduceMul, reduceCtorEq, Int.reduceBEq, Int.reduceLT, Int.reduceLE, Int.reduceAdd, Int.reduceSub, Int.reduceEq, Int.reduceNeg, Int.reduceToNat, Int.reduceGT, Int.reduceGE, e2], by simp only [go_sem, Nat.reduceLT, Nat.reduceLeDiff, Nat.reduceEqDiff, Nat.reduceAdd, Nat.reduceSub, Nat.reduceMul, reduceCtorEq, Int.reduceBEq, Int.reduceLT, Int.reduceLE, Int.reduceAdd, Int.reduceSub, Int.reduceEq, Int.reduceNeg, Int.reduceToNat, Int.reduceGT, Int.reduceGE, hw'], by simp only [go_sem, Nat.reduceLT, Nat.reduceLeDiff, Nat.reduceEqDiff, Nat.reduceAdd, Nat.reduceSub, Nat.reduceMul, reduceCtorEq, Int.reduceBEq, Int.reduceLT, Int.reduceLE, Int.reduceAdd, Int.reduceSub, Int.reduceEq, Int.reduceNeg, Int.reduceToNat, Int.reduceGT, Int.reduceGE], by simp only [go_sem, Nat.reduceLT, Nat.reduceLeDiff, Nat.reduceEqDiff, Nat.reduceAdd, Nat.reduceSub, Nat.reduceMul, reduceCtorEq, Int.reduceBEq, Int.reduceLT, Int.reduceLE, Int.reduceAdd, Int.reduceSub, Int.reduceEq, Int.reduceNeg, Int.reduceToNat, Int.reduceGT, Int.reduceGE]; rfl, by simp only [go_sem, Nat.reduceLT, Nat.reduceLeDiff, Nat.reduceEqDiff, Nat.reduceAdd, Nat.reduceSub, Nat.reduceMul, reduceCtorEq, Int.reduceBEq, Int.reduceLT, Int.reduceLE, Int.reduceAdd, Int.reduceSub, Int.reduceEq, Int.reduceNeg, Int.reduceToNat, Int.reduceGT, Int.reduceGE], (Ext.alloc _ _).put _ (Nat.le_refl _), by simp only [go_sem, Nat.reduceLT, Nat.reduceLeDiff, Nat.reduceEqDiff, Nat.reduceAdd, Nat.reduceSub, Nat.reduceMul, reduceCtorEq, Int.reduceBEq, Int.reduceLT, Int.reduceLE, Int.reduceAdd, Int.reduceSub, Int.reduceEq, Int.reduceNeg, Int.reduceToNat, Int.reduceGT, Int.reduceGE, hlow]; omega, b1, by simp only [go_sem, Nat.reduceLT, Nat.reduceLeDiff, Nat.reduceEqDiff, Nat.reduceAdd, Nat.reduceSub, Nat.reduceMul, reduceCtorEq, Int.reduceBEq, Int.reduceLT, Int.reduceLE, Int.reduceAdd, Int.reduceSub, Int.reduceEq, Int.reduceNeg, Int.reduceToNat, Int.reduceGT, Int.reduceGE], by rw [hn1, wnewBlk_n]; rfl, by rw [hr1, newBlk_ro], hg1⟩
  · clear e2 e4 e5' hw' hg1 hl1 hn1 hr1 b1 env
    rintro i env h3 ⟨e2, e3, e6, e7, hlt, E3, hlow3, b, hb1, hb2, hb3, hb4⟩ hi next
    have c1 : Int.ofNat (64 * i) < Int.ofNat ys.length := by simp; omega
    have w1 : IntKind.wrap .i64 (Int.ofNat (64 * i) + 64) = Int.ofNat (64 * i + 64) := wrap_n (by simp) (by omega)
    obtain ⟨id', off, c, bx, es, q1, q2, q3, q4⟩ := (BY.ext E3).cut (lo := 64 * i) (hi := 64 * i + 64) (by omega) (by omega)
    rw [show 64 * i + 64 - 64 * i = 64 by omega] at es q3 q4
    have hl64 : ((ys.drop (64 * i)).take 64).length = 64 := by rw [List.length_take, List.length_drop]; omega
    have hld : b.loadN 0 8 = some ((stA ys s0 i).l.map w32) := loadN_of _ _ _ rfl fun j v hv => by rw [Nat.zero_add, hb4, hv]
    have ep : (lim Tryd.prog σ).call 18 [.agg ((stA ys s0 i).l.map w32), .sl id' off 64 c] h3 = some (.agg ((stA ys s0 (i + 1)).l.map w32), none) :=
      rpress_run hσ q2 hl64 (by rw [hl64]; exact q3) (fun b hb => fullL_byte xs h256 b (by rw [← hys]; exact List.mem_of_mem_drop (List.mem_of_mem_take hb))) q1
    have hl8 : ((stA ys s0 (i + 1)).l.map w32).length = 8 := rfl
    simp only [go_sem, Nat.reduceLT, Nat.reduceLeDiff, Nat.reduceEqDiff, Nat.reduceAdd, Nat.reduceSub, Nat.reduceMul, reduceCtorEq, Int.reduceBEq, Int.reduceLT, Int.reduceLE, Int.reduceAdd, Int.reduceSub, Int.reduceEq, Int.reduceNeg, Int.reduceToNat, Int.reduceGT, Int.reduceGE, wadd32, wmul32, wadd64, wmul64, wand32, wor32, wxor32, wand64, wor64, wnot32, wsub32, wsub64, wshr32l, wshl32l, wshr64l, wshl64l, wshr32w, wshl32w, wshr64w, wlt64, wgt64, weq64, wne64, e2, e3, e6, e7, (BY.ext E3).len, c1, w1, es, hb1, hb2, hb3, hld, ep, hl8]
    refine cnd_go (Q := Q) (by kernel_rfl) ?_
    simp only [go_sem, Nat.reduceLT, Nat.reduceLeDiff, Nat.reduceEqDiff, Nat.reduceAdd, Nat.reduceSub, Nat.reduceMul, reduceCtorEq, Int.reduceBEq, Int.reduceLT, Int.reduceLE, Int.reduceAdd, Int.reduceSub, Int.reduceEq, Int.reduceNeg, Int.reduceToNat, Int.reduceGT, Int.reduceGE, wadd32, wmul32, wadd64, wmul64, wand32, wor32, wxor32, wand64, wor64, wnot32, wsub32, wsub64, wshr32l, wshl32l, wshr64l, wshl64l, wshr32w, wshl32w, wshr64w, wlt64, wgt64, weq64, wne64, e2, e3, e6, e7, (BY.ext E3).len, c1, w1, es, hb1, hb2, hb3, hld, ep, hl8]
    refine store_step (Q := Q) (by rw [hb2]; rfl) (one_ws _) fun b' r1 r2 r3 r4 => ?_
    simp only [go_sem, Nat.reduceLT, Nat.reduceLeDiff, Nat.reduceEqDiff, Nat.reduceAdd, Nat.reduceSub, Nat.reduceMul, reduceCtorEq, Int.reduceBEq, Int.reduceLT, Int.reduceLE, Int.reduceAdd, Int.reduceSub, Int.reduceEq, Int.reduceNeg, Int.reduceToNat, Int.reduceGT, Int.reduceGE]
    refine cnd_go (Q := Q) (by kernel_rfl) ?_
    refine quiet_go (Q := Q) (by kernel_rfl) ?_
    simp only [go_sem, Nat.reduceLT, Nat.reduceLeDiff, Nat.reduceEqDiff, Nat.reduceAdd, Nat.reduceSub, Nat.reduceMul, reduceCtorEq, Int.reduceBEq, Int.reduceLT, Int.reduceLE, Int.reduceAdd, Int.reduceSub, Int.reduceEq, Int.reduceNeg, Int.reduceToNat, Int.reduceGT, Int.reduceGE, wadd32, wmul32, wadd64, wmul64, wand32, wor32, wxor32, wand64, wor64, wnot32, wsub32, wsub64, wshr32l, wshl32l, wshr64l, wshl64l, wshr32w, wshl32w, wshr64w, wlt64, wgt64, weq64, wne64, e2, e3, e6, e7, w1]
    refine next _ _ ⟨by simp only [go_sem, Nat.reduceLT, Nat.reduceLeDiff, Nat.reduceEqDiff, Nat.reduceAdd, Nat.reduceSub, Nat.reduceMul, reduceCtorEq, Int.reduceBEq, Int.reduceLT, Int.reduceLE, Int.reduceAdd, Int.reduceSub, Int.reduceEq, Int.reduceNeg, Int.reduceToNat, Int.reduceGT, Int.reduceGE, e2], by simp only [go_sem, Nat.reduceLT, Nat.reduceLeDiff, Nat.reduceEqDiff, Nat.reduceAdd, Nat.reduceSub, Nat.reduceMul, reduceCtorEq, Int.reduceBEq, Int.reduceLT, Int.reduceLE, Int.reduceAdd, Int.reduceSub, Int.reduceEq, Int.reduceNeg, Int.reduceToNat, Int.reduceGT, Int.reduceGE, e3], by simp only [go_sem, Nat.reduceLT, Nat.reduceLeDiff, Nat.reduceEqDiff, Nat.reduceAdd, Nat.reduceSub, Nat.reduceMul, reduceCtorEq, Int.reduceBEq, Int.reduceLT, Int.reduceLE, Int.reduceAdd, Int.reduceSub, Int.reduceEq, Int.reduceNeg, Int.reduceToNat, Int.reduceGT, Int.reduceGE, e6], by simp only [go_sem, Nat.reduceLT, Nat.reduceLeDiff, Nat.reduceEqDiff, Nat.reduceAdd, Nat.reduceSub, Nat.reduceMul, reduceCtorEq, Int.reduceBEq, Int.reduceLT, Int.reduceLE, Int.reduceAdd, Int.reduceSub, Int.reduceEq, Int.reduceNeg, Int.reduceToNat, Int.reduceGT, Int.reduceGE]; rfl, hlt, E3.put _ (Nat.le_refl _), by simp only [go_sem, Nat.reduceLT, Nat.reduceLeDiff, Nat.reduceEqDiff, Nat.reduceAdd, Nat.reduceSub, Nat.reduceMul, reduceCtorEq, Int.reduceBEq, Int.reduceLT, Int.reduceLE, Int.reduceAdd, Int.reduceSub, Int.reduceEq, Int.reduceNeg, Int.reduceToNat, Int.reduceGT, Int.reduceGE, hlow3]; omega, b', by simp only [go_sem, Nat.reduceLT, Nat.reduceLeDiff, Nat.reduceEqDiff, Nat.reduceAdd, Nat.reduceSub, Nat.reduceMul, reduceCtorEq, Int.reduceBEq, Int.reduceLT, Int.reduceLE, Int.reduceAdd, Int.reduceSub, Int.reduceEq, Int.reduceNeg, Int.reduceToNat, Int.reduceGT, Int.reduceGE], r1.trans hb2, r2.trans hb3, r4⟩
  clear e2 e4 e5' hw' hg1 hl1 hn1 hr1 b1 env
  rintro env h3 ⟨e2, e3, e6, e7, hlt, E3, hlow3, b, hb1, hb2, hb3, hb4⟩
  have c1 : ¬ Int.ofNat (64 * (ys.length / 64)) < Int.ofNat ys.length := by simp; omega
  obtain ⟨r, hr⟩ : ∃ r, r = stA ys s0 (ys.length / 64) := ⟨_, rfl⟩
  rw [← hr] at hb4
  have hrd : r = rendS xs := by rw [hr, hys]; rfl
  simp only [go_sem, Nat.reduceLT, Nat.reduceLeDiff, Nat.reduceEqDiff, Nat.reduceAdd, Nat.reduceSub, Nat.reduceMul, reduceCtorEq, Int.reduceBEq, Int.reduceLT, Int.reduceLE, Int.reduceAdd, Int.reduceSub, Int.reduceEq, Int.reduceNeg, Int.reduceToNat, Int.reduceGT, Int.reduceGE, wadd32, wmul32, wadd64, wmul64, wand32, wor32, wxor32, wand64, wor64, wnot32, wsub32, wsub64, wshr32l, wshl32l, wshr64l, wshl64l, wshr32w, wshl32w, wshr64w, wlt64, wgt64, weq64, wne64, e2, e3, e6, e7, (BY.ext E3).len, c1]
  obtain ⟨o, ho⟩ : ∃ o, o = h3.nx := ⟨_, rfl⟩
  refine loop_ind (Q := Q) (fun i env h4 => evT env 2 = .ptr h.nx 0 ∧ evT env 6 = .ptr h'.nx 0 ∧ evT env 8 = .ptr o 0 ∧ evT env 9 = .int .i64 (Int.ofNat i) ∧ o < h4.nx ∧ Ext h3 h4 ∧ h4.low = h.nx ∧
    ∃ b, h4.blk o = some b ∧ b.n = 32 ∧ b.ro = false ∧ ∀ j, j < i → b.get j = nth (bc (rdigest xs)) j) 32 0 ?_ (by decide) ?_ ?_
  · exact ⟨by simp only [go_sem, Nat.reduceLT, Nat.reduceLeDiff, Nat.reduceEqDiff, Nat.reduceAdd, Nat.reduceSub, Nat.reduceMul, reduceCtorEq, Int.reduceBEq, Int.reduceLT, Int.reduceLE, Int.reduceAdd, Int.reduceSub, Int.reduceEq, Int.reduceNeg, Int.reduceToNat, Int.reduceGT, Int.reduceGE, e2], by simp only [go_sem, Nat.reduceLT, Nat.reduceLeDiff, Nat.reduceEqDiff, Nat.reduceAdd, Nat.reduceSub, Nat.reduceMul, reduceCtorEq, Int.reduceBEq, Int.reduceLT, Int.reduceLE, Int.reduceAdd, Int.reduceSub, Int.reduceEq, Int.reduceNeg, Int.reduceToNat, Int.reduceGT, Int.reduceGE, e6], by simp only [go_sem, Nat.reduceLT, Nat.reduceLeDiff, Nat.reduceEqDiff, Nat.reduceAdd, Nat.reduceSub, Nat.reduceMul, reduceCtorEq, Int.reduceBEq, Int.reduceLT, Int.reduceLE, Int.reduceAdd, Int.reduceSub, Int.reduceEq, Int.reduceNeg, Int.reduceToNat, Int.reduceGT, Int.reduceGE, ho], by simp only [go_sem, Nat.reduceLT, Nat.reduceLeDiff, Nat.reduceEqDiff, Nat.reduceAdd, Nat.reduceSub, Nat.reduceMul, reduceCtorEq, Int.reduceBEq, Int.reduceLT, Int.reduceLE, Int.reduceAdd, Int.reduceSub, Int.reduceEq, Int.reduceNeg, Int.reduceToNat, Int.reduceGT, Int.reduceGE]; rfl, by simp only [go_sem, Nat.reduceLT, Nat.reduceLeDiff, Nat.reduceEqDiff, Nat.reduceAdd, Nat.reduceSub, Nat.reduceMul, reduceCtorEq, Int.reduceBEq, Int.reduceLT, Int.reduceLE, Int.reduceAdd, Int.reduceSub, Int.reduceEq, Int.reduceNeg, Int.reduceToNat, Int.reduceGT, Int.reduceGE]; omega, Ext.alloc _ _, by simp only [go_sem, Nat.reduceLT, Nat.reduceLeDiff, Nat.reduceEqDiff, Nat.reduceAdd, Nat.reduceSub, Nat.reduceMul, reduceCtorEq, Int.reduceBEq, Int.reduceLT, Int.reduceLE, Int.reduceAdd, Int.reduceSub, Int.reduceEq, Int.reduceNeg, Int.reduceToNat, Int.reduceGT, Int.reduceGE, hlow3], _, by rw [ho]; exact alloc_blk_same _ _ _ rfl, wnewBlk_n _, newBlk_ro _, fun j hj => absurd hj (Nat.not_lt_zero _)⟩
  · clear e2 e3 e6 e7 c1 env
    rintro i env h4 ⟨e2, e6, e8, e9, hon, E4, hlow4, bo, ho1, ho2, ho3, ho4⟩ hi next
    have c0 : Int.ofNat i < 32 := by simp; omega
    have w1 : IntKind.wrap .i64 (Int.ofNat i + 1) = Int.ofNat (i + 1) := wrap_n (by simp) (by omega)
    have w2 : IntKind.wrap .i64 (8 * Int.ofNat (i % 4)) = Int.ofNat (8 * (i % 4)) := wrap_n (by simp) (by omega)
    have w3 : IntKind.wrap .i64 (24 - Int.ofNat (8 * (i % 4))) = Int.ofNat (24 - 8 * (i % 4)) := wrap_n (by simp; omega) (by omega)
    have hi4 : i / 4 < 8 := by omega
    have hb1' : h4.blk h'.nx = some b := (E4.blk hlt).trans hb1
    have gi : b.get (i / 4) = some (w32 (r.at (i / 4))) := by rw [hb4, S8.nth _ hi4]
    have ht : (BitVec.ofNat 64 (24 - 8 * (i % 4))).toNat = 24 - 8 * (i % 4) := by simp; omega
    have q4 := quo4i (n := i) (by omega)
    simp only [go_sem, Nat.reduceLT, Nat.reduceLeDiff, Nat.reduceEqDiff, Nat.reduceAdd, Nat.reduceSub, Nat.reduceMul, reduceCtorEq, Int.reduceBEq, Int.reduceLT, Int.reduceLE, Int.reduceAdd, Int.reduceSub, Int.reduceEq, Int.reduceNeg, Int.reduceToNat, Int.reduceGT, Int.reduceGE, wadd32, wmul32, wadd64, wmul64, wand32, wor32, wxor32, wand64, wor64, wnot32, wsub32, wsub64, wshr32l, wshl32l, wshr64l, wshl64l, wshr32w, wshl32w, wshr64w, wlt64, wgt64, weq64, wne64, e2, e6, e8, e9, c0, w1, w2, w3, hi, hi4, hb1', gi, ht, q4, rem4i, cv341, cv265, ho1, ho2, ho3, Nat.mul_one]
    refine next _ _ ⟨by simp only [go_sem, Nat.reduceLT, Nat.reduceLeDiff, Nat.reduceEqDiff, Nat.reduceAdd, Nat.reduceSub, Nat.reduceMul, reduceCtorEq, Int.reduceBEq, Int.reduceLT, Int.reduceLE, Int.reduceAdd, Int.reduceSub, Int.reduceEq, Int.reduceNeg, Int.reduceToNat, Int.reduceGT, Int.reduceGE, e2], by simp only [go_sem, Nat.reduceLT, Nat.reduceLeDiff, Nat.reduceEqDiff, Nat.reduceAdd, Nat.reduceSub, Nat.reduceMul, reduceCtorEq, Int.reduceBEq, Int.reduceLT, Int.reduceLE, Int.reduceAdd, Int.reduceSub, Int.reduceEq, Int.reduceNeg, Int.reduceToNat, Int.reduceGT, Int.reduceGE, e6], by simp only [go_sem, Nat.reduceLT, Nat.reduceLeDiff, Nat.reduceEqDiff, Nat.reduceAdd, Nat.reduceSub, Nat.reduceMul, reduceCtorEq, Int.reduceBEq, Int.reduceLT, Int.reduceLE, Int.reduceAdd, Int.reduceSub, Int.reduceEq, Int.reduceNeg, Int.reduceToNat, Int.reduceGT, Int.reduceGE, e8], by simp only [go_sem, Nat.reduceLT, Nat.reduceLeDiff, Nat.reduceEqDiff, Nat.reduceAdd, Nat.reduceSub, Nat.reduceMul, reduceCtorEq, Int.reduceBEq, Int.reduceLT, Int.reduceLE, Int.reduceAdd, Int.reduceSub, Int.reduceEq, Int.reduceNeg, Int.reduceToNat, Int.reduceGT, Int.reduceGE], hon, E4.put _ (by omega), by simp only [go_sem, Nat.reduceLT, Nat.reduceLeDiff, Nat.reduceEqDiff, Nat.reduceAdd, Nat.reduceSub, Nat.reduceMul, reduceCtorEq, Int.reduceBEq, Int.reduceLT, Int.reduceLE, Int.reduceAdd, Int.reduceSub, Int.reduceEq, Int.reduceNeg, Int.reduceToNat, Int.reduceGT, Int.reduceGE, hlow4]; omega, _, put_blk_same _ _ _, by rw [st_n]; exact ho2, by rw [st_ro]; exact ho3, fun j hj => ?_⟩
    by_cases q : j = i
    · subst q
      rw [st_get_same _ _ _ (by omega)]
      have := dig_at r hi4 (r := j % 4) (Nat.mod_lt _ (by decide))
      rw [show 4 * (j / 4) + j % 4 = j by omega, wb_at _ (Nat.mod_lt _ (by decide))] at this
      rw [← this, hrd]; rfl
    · rw [st_get_ne _ _ _ _ q]; exact ho4 j (by omega)
  clear e2 e3 e6 e7 c1 env
  rintro env h4 ⟨e2, e6, e8, e9, hon, E4, hlow4, bo, ho1, ho2, ho3, ho4⟩
  have c0 : ¬ Int.ofNat 32 < 32 := by decide
  have hl32 : (bc (rdigest xs)).length = 32 := bc_len _
  have hld : bo.loadN 0 32 = some (bc (rdigest xs)) := loadN_of _ _ _ hl32 fun i v hv => by
    have hi := nlt hv
    rw [hl32] at hi
    rw [Nat.zero_add, ho4 i hi, hv]
  have hh1 := E3.nx
  have hh2 := E4.nx
  have hout4 : h4.blk h.nx = some ob := (E4.blk (by omega)).trans ((E3.blk hnx).trans hout)
  simp only [go_sem, Nat.reduceLT, Nat.reduceLeDiff, Nat.reduceEqDiff, Nat.reduceAdd, Nat.reduceSub, Nat.reduceMul, reduceCtorEq, Int.reduceBEq, Int.reduceLT, Int.reduceLE, Int.reduceAdd, Int.reduceSub, Int.reduceEq, Int.reduceNeg, Int.reduceToNat, Int.reduceGT, Int.reduceGE, e2, e8, e9, c0, ho1, hld, hout4, on, ow, hl32]
  refine store_step (Q := Q) (by rw [hl32, on]) (bc_one _) fun b' q1 q2 q3 _ => ?_
  rw [on] at q3
  simp only [go_sem, Nat.reduceLT, Nat.reduceLeDiff, Nat.reduceEqDiff, Nat.reduceAdd, Nat.reduceSub, Nat.reduceMul, reduceCtorEq, Int.reduceBEq, Int.reduceLT, Int.reduceLE, Int.reduceAdd, Int.reduceSub, Int.reduceEq, Int.reduceNeg, Int.reduceToNat, Int.reduceGT, Int.reduceGE, e2, q3]
  rw [fin_q _ _ _ (by simp only [go_sem, Nat.reduceLT, Nat.reduceLeDiff, Nat.reduceEqDiff, Nat.reduceAdd, Nat.reduceSub, Nat.reduceMul, reduceCtorEq, Int.reduceBEq, Int.reduceLT, Int.reduceLE, Int.reduceAdd, Int.reduceSub, Int.reduceEq, Int.reduceNeg, Int.reduceToNat, Int.reduceGT, Int.reduceGE, hlow4]; omega) (by rw [okB_agg]; exact okBL_all fun c hc => by obtain ⟨p, _, rfl⟩ := List.mem_map.1 hc; rfl), hQ]
  rfl
end Go.Cl.Sh

namespace Go.Cl.Sh
variable {σ : Sums}
set_option maxRecDepth 1000000

theorem stA_lo (A T : List Nat) (s : S8) : ∀ k, 64 * k ≤ A.length → stA (A ++ T) s k = stA A s k
  | 0, _ => rfl
  | k + 1, h => by
    simp only [stA]
    rw [stA_lo A T s k (by omega)]
    congr 1
    rw [List.drop_append_of_le_length (by omega), List.take_append_of_le_length (by rw [List.length_drop]; omega)]
theorem stA_hi (A T : List Nat) (s : S8) (n : Nat) (h : A.length = 64 * n) : ∀ k, stA (A ++ T) s (n + k) = stA T (stA A s n) k
  | 0 => stA_lo A T s n (by omega)
  | k + 1 => by
    rw [← Nat.add_assoc]
    simp only [stA]
    rw [stA_hi A T s n h k]
    congr 1
    rw [show 64 * (n + k) = A.length + 64 * k by omega, ← List.drop_drop, List.drop_left]
theorem shr_byte (c : BitVec 64) (a b : Nat) (hb : b + 8 ≤ 32) : ((BitVec.ofNat 32 (c >>> a).toNat) >>> b).toNat % 256 = (c >>> (a + b)).toNat % 256 := by
  rw [BitVec.toNat_ushiftRight, BitVec.toNat_ofNat, BitVec.toNat_ushiftRight, BitVec.toNat_ushiftRight, Nat.shiftRight_eq_div_pow, Nat.shiftRight_eq_div_pow, Nat.shiftRight_eq_div_pow, Nat.pow_add, ← Nat.div_div_eq_div_mul]
  generalize c.toNat / 2 ^ a = x
  have h1 : (2 : Nat) ^ 32 = 2 ^ b * 2 ^ (32 - b) := by rw [← Nat.pow_add]; congr 1; omega
  have h2 : (2 : Nat) ^ (32 - b) = 256 * 2 ^ (32 - b - 8) := by
    rw [show (256 : Nat) = 2 ^ 8 from rfl, ← Nat.pow_add]; congr 1; omega
  rw [h1, Nat.mod_mul_right_div_self, h2, Nat.mod_mul_right_mod]
theorem be8_wb (c : BitVec 64) : be8 c 8 = wbN (BitVec.ofNat 32 (c >>> 32).toNat) ++ wbN (BitVec.ofNat 32 c.toNat) := by
  have z : ∀ x : BitVec 32, x.toNat = (x >>> 0).toNat := fun x => by rw [BitVec.ushiftRight_zero]
  have z2 : c.toNat = (c >>> 0).toNat := by rw [BitVec.ushiftRight_zero]
  have e : ∀ b, b + 8 ≤ 32 → ((BitVec.ofNat 32 c.toNat) >>> b).toNat % 256 = (c >>> (0 + b)).toNat % 256 := fun b hb => by
    have := shr_byte c 0 b hb
    rwa [BitVec.ushiftRight_zero] at this
  simp only [wbN]
  rw [z (BitVec.ofNat 32 (c >>> 32).toNat), z (BitVec.ofNat 32 c.toNat)]
  rw [shr_byte c 32 24 (by decide), shr_byte c 32 16 (by decide), shr_byte c 32 8 (by decide), shr_byte c 32 0 (by decide), e 24 (by decide), e 16 (by decide), e 8 (by decide), e 0 (by decide)]
  rfl
theorem digest_same (xs : List Nat) : rdigest xs = digest xs := by
  have hA : (xs.take (64 * (xs.length / 64))).length = 64 * (xs.length / 64) := by rw [List.length_take]; omega
  have hxs : xs.take (64 * (xs.length / 64)) ++ xs.drop (64 * (xs.length / 64)) = xs := List.take_append_drop _ _
  have hz : zn (xs.drop (64 * (xs.length / 64))).length = zn xs.length := by
    unfold zn; rw [List.length_drop]; omega
  have hfull : fullL xs = xs.take (64 * (xs.length / 64)) ++ tailL xs := by
    unfold fullL tailL padL
    rw [hz, be8_wb]
    simp only [← List.append_assoc]
    rw [hxs]
  obtain ⟨h1, h2⟩ := tailL_len xs
  have hlen : (fullL xs).length / 64 = xs.length / 64 + (tailL xs).length / 64 := by rw [hfull, List.length_append, hA]; omega
  have : rendS xs = endS xs := by
    unfold rendS endS
    rw [hlen, hfull, stA_hi _ _ _ _ hA]
    congr 1
    have := stA_lo (xs.take (64 * (xs.length / 64))) (xs.drop (64 * (xs.length / 64))) s0 (xs.length / 64) (by omega)
    rw [hxs] at this
    exact this.symm
  unfold rdigest digest
  rw [this]

/-! ### the beginning of a hash, as a number -/
def shV (D : List Nat) : Nat → BitVec 64
  | 0 => BitVec.ofNat 64 0
  | i + 1 => shV D i <<< 8 ||| BitVec.ofNat 64 (D[i]?.getD 0)
def rshV (D : List Nat) : Nat → BitVec 64
  | 0 => BitVec.ofNat 64 0
  | i + 1 => BitVec.ofNat 64 256 * rshV D i + BitVec.ofNat 64 (D[i]?.getD 0)
theorem byte_bit64 {y i : Nat} (hy : y < 256) (hi : 8 ≤ i) : (BitVec.ofNat 64 y).getLsbD i = false := by
  rw [BitVec.getLsbD_ofNat, Nat.testBit_lt_two_pow (Nat.lt_of_lt_of_le hy (Nat.pow_le_pow_right (n := 2) (by decide) hi))]
  simp
theorem shV_same (D : List Nat) (h : ∀ b ∈ D, b < 256) : ∀ i, rshV D i = shV D i
  | 0 => rfl
  | i + 1 => by
    simp only [rshV, shV]
    rw [shV_same D h i, BitVec.mul_comm, show BitVec.ofNat 64 256 = BitVec.twoPow 64 8 from rfl, ← BitVec.shiftLeft_eq_mul_twoPow, BitVec.add_eq_or_of_and_eq_zero]
    apply BitVec.eq_of_getLsbD_eq
    intro j hj
    have hy : D[i]?.getD 0 < 256 := by
      cases hd : D[i]? with
      | none => decide
      | some y => exact h y (List.mem_of_getElem? hd)
    simp only [BitVec.getLsbD_and, BitVec.getLsbD_shiftLeft, BitVec.getLsbD_zero]
    by_cases q : 8 ≤ j
    · rw [byte_bit64 hy q]; simp
    · simp [show j < 8 by omega]
theorem digest_byte (xs : List Nat) : ∀ b ∈ digest xs, b < 256 := by
  intro b hb
  unfold digest at hb
  obtain ⟨x, _, hx⟩ := List.mem_flatMap.1 hb
  simp only [wbN, List.mem_cons, List.not_mem_nil, or_false] at hx
  rcases hx with rfl | rfl | rfl | rfl <;> exact Nat.mod_lt _ (by decide)
theorem cv531 (h n) : convT Tryd.prog h 5 31 (u8 n) = some (.val (w64 (BitVec.ofNat 64 n))) := by
  rw [← w64_of]; exact cv_5_31 h .u8 _

theorem short_run (hσ : ∀ f a h, σ f a h = none) {h : H} {v : CV} {xs : List Nat} (B : BV h v xs) (g : HG h) (hx : xs.length ≤ 100000) : RetQ h (w64 (shV (digest xs) 8)) ((lim Tryd.prog σ).call 12 [v] h) := by
  obtain ⟨Q, hQ⟩ : ∃ Q, Q = RetQ h (w64 (shV (digest xs) 8)) := ⟨_, rfl⟩
  rw [← hQ]
  rw [call_eq (hσ _ _ _) fn_12 rfl rfl, Tryd.ntmps12, Tryd.results12]
  have e1 : (lim Tryd.prog σ).call 7 [v] h.lo = some (.agg (bc (digest xs)), none) := sum_run hσ (B.ext (Ext.lo h)) (g.ext (Ext.lo h)) hx
  have hl : (bc (digest xs)).length = 32 := bc_len _
  have l0 : CV.int .u64 0 = w64 (BitVec.ofNat 64 0) := rfl
  simp only [go_sem, Nat.reduceLT, Nat.reduceLeDiff, Nat.reduceEqDiff, Nat.reduceAdd, Nat.reduceSub, Nat.reduceMul, reduceCtorEq, Int.reduceBEq, Int.reduceLT, Int.reduceLE, Int.reduceAdd, Int.reduceSub, Int.reduceEq, Int.reduceNeg, Int.reduceToNat, Int.reduceGT, Int.reduceGE, wadd32, wmul32, wadd64, wmul64, wand32, wor32, wxor32, wand64, wor64, wnot32, wsub32, wsub64, wshr32l, wshl32l, wshr64l, wshl64l, wshr32w, wshl32w, wshr64w, wlt64, wgt64, weq64, wne64, e1, hl, l0]
  refine store_step (Q := Q) (by rw [hl, wnewBlk_n]; rfl) (bc_one _) fun b hn hr hld hg => ?_
  have es : ∀ h : H, sliceT Tryd.prog h 23 (.ptr h.nx 0) none (some (.int .i64 8)) none = some (.sl h.nx 0 8 (.exact 32)) := fun h => by kernel_rfl
  have es' : ∀ (h : H) o, sliceT Tryd.prog h 23 (.ptr o 0) none (some (.int .i64 8)) none = some (.sl o 0 8 (.exact 32)) := fun h o => by kernel_rfl
  simp only [go_sem, Nat.reduceLT, Nat.reduceLeDiff, Nat.reduceEqDiff, Nat.reduceAdd, Nat.reduceSub, Nat.reduceMul, reduceCtorEq, Int.reduceBEq, Int.reduceLT, Int.reduceLE, Int.reduceAdd, Int.reduceSub, Int.reduceEq, Int.reduceNeg, Int.reduceToNat, Int.reduceGT, Int.reduceGE, wadd32, wmul32, wadd64, wmul64, wand32, wor32, wxor32, wand64, wor64, wnot32, wsub32, wsub64, wshr32l, wshl32l, wshr64l, wshl64l, wshr32w, wshl32w, wshr64w, wlt64, wgt64, weq64, wne64, e1, hl, l0, es']
  refine loop_ind (Q := Q) (fun i env h' => evT env 4 = w64 (shV (digest xs) i) ∧ evT env 9 = .sl h.nx 0 8 (.exact 32) ∧ evT env 10 = .int .i64 8 ∧ evT env 11 = .int .i64 (Int.ofNat i) ∧ h'.low = h.nx ∧ h'.blk h.nx = some b) 8 0 ?_ (by decide) ?_ ?_
  · exact ⟨by simp only [go_sem, Nat.reduceLT, Nat.reduceLeDiff, Nat.reduceEqDiff, Nat.reduceAdd, Nat.reduceSub, Nat.reduceMul, reduceCtorEq, Int.reduceBEq, Int.reduceLT, Int.reduceLE, Int.reduceAdd, Int.reduceSub, Int.reduceEq, Int.reduceNeg, Int.reduceToNat, Int.reduceGT, Int.reduceGE]; rfl, by simp only [go_sem, Nat.reduceLT, Nat.reduceLeDiff, Nat.reduceEqDiff, Nat.reduceAdd, Nat.reduceSub, Nat.reduceMul, reduceCtorEq, Int.reduceBEq, Int.reduceLT, Int.reduceLE, Int.reduceAdd, Int.reduceSub, Int.reduceEq, Int.reduceNeg, Int.reduceToNat, Int.reduceGT, Int.reduceGE], by simp only [go_sem, Nat.reduceLT, Nat.reduceLeDiff, Nat.reduceEqDiff, Nat.reduceAdd, Nat.reduceSub, Nat.reduceMul, reduceCtorEq, Int.reduceBEq, Int.reduceLT, Int.reduceLE, Int.reduceAdd, Int.reduceSub, Int.reduceEq, Int.reduceNeg, Int.reduceToNat, Int.reduceGT, Int.reduceGE]; rfl, by simp only [go_sem, Nat.reduceLT, Nat.reduceLeDiff, Nat.reduceEqDiff, Nat.reduceAdd, Nat.reduceSub, Nat.reduceMul, reduceCtorEq, Int.reduceBEq, Int.reduceLT, Int.reduceLE, Int.reduceAdd, Int.reduceSub, Int.reduceEq, Int.reduceNeg, Int.reduceToNat, Int.reduceGT, Int.reduceGE]; rfl, by simp only [go_sem, Nat.reduceLT, Nat.reduceLeDiff, Nat.reduceEqDiff, Nat.reduceAdd, Nat.reduceSub, Nat.reduceMul, reduceCtorEq, Int.reduceBEq, Int.reduceLT, Int.reduceLE, Int.reduceAdd, Int.reduceSub, Int.reduceEq, Int.reduceNeg, Int.reduceToNat, Int.reduceGT, Int.reduceGE]; omega, by simp only [go_sem, Nat.reduceLT, Nat.reduceLeDiff, Nat.reduceEqDiff, Nat.reduceAdd, Nat.reduceSub, Nat.reduceMul, reduceCtorEq, Int.reduceBEq, Int.reduceLT, Int.reduceLE, Int.reduceAdd, Int.reduceSub, Int.reduceEq, Int.reduceNeg, Int.reduceToNat, Int.reduceGT, Int.reduceGE]⟩
  · rintro i env h' ⟨e4, e9, e10, e11, hlow, hb⟩ hi next
    have c0 : Int.ofNat i < 8 := by simp; omega
    have w1 : IntKind.wrap .i64 (Int.ofNat i + 1) = Int.ofNat (i + 1) := wrap_n (by simp) (by omega)
    obtain ⟨y, hy⟩ : ∃ y, (digest xs)[i]? = some y := ⟨_, List.getElem?_eq_getElem (by rw [digest_len]; omega)⟩
    have gi : b.get i = some (u8 y) := by rw [hg, nth_eq]; unfold bc; rw [List.getElem?_map, hy]; rfl
    simp only [go_sem, Nat.reduceLT, Nat.reduceLeDiff, Nat.reduceEqDiff, Nat.reduceAdd, Nat.reduceSub, Nat.reduceMul, reduceCtorEq, Int.reduceBEq, Int.reduceLT, Int.reduceLE, Int.reduceAdd, Int.reduceSub, Int.reduceEq, Int.reduceNeg, Int.reduceToNat, Int.reduceGT, Int.reduceGE, wadd32, wmul32, wadd64, wmul64, wand32, wor32, wxor32, wand64, wor64, wnot32, wsub32, wsub64, wshr32l, wshl32l, wshr64l, wshl64l, wshr32w, wshl32w, wshr64w, wlt64, wgt64, weq64, wne64, e4, e9, e10, e11, c0, w1, hi, hb, gi, cv531, Nat.mul_one, Nat.zero_add]
    refine next _ _ ⟨by simp only [go_sem, Nat.reduceLT, Nat.reduceLeDiff, Nat.reduceEqDiff, Nat.reduceAdd, Nat.reduceSub, Nat.reduceMul, reduceCtorEq, Int.reduceBEq, Int.reduceLT, Int.reduceLE, Int.reduceAdd, Int.reduceSub, Int.reduceEq, Int.reduceNeg, Int.reduceToNat, Int.reduceGT, Int.reduceGE, shV, hy], by simp only [go_sem, Nat.reduceLT, Nat.reduceLeDiff, Nat.reduceEqDiff, Nat.reduceAdd, Nat.reduceSub, Nat.reduceMul, reduceCtorEq, Int.reduceBEq, Int.reduceLT, Int.reduceLE, Int.reduceAdd, Int.reduceSub, Int.reduceEq, Int.reduceNeg, Int.reduceToNat, Int.reduceGT, Int.reduceGE, e9], by simp only [go_sem, Nat.reduceLT, Nat.reduceLeDiff, Nat.reduceEqDiff, Nat.reduceAdd, Nat.reduceSub, Nat.reduceMul, reduceCtorEq, Int.reduceBEq, Int.reduceLT, Int.reduceLE, Int.reduceAdd, Int.reduceSub, Int.reduceEq, Int.reduceNeg, Int.reduceToNat, Int.reduceGT, Int.reduceGE, e10], by simp only [go_sem, Nat.reduceLT, Nat.reduceLeDiff, Nat.reduceEqDiff, Nat.reduceAdd, Nat.reduceSub, Nat.reduceMul, reduceCtorEq, Int.reduceBEq, Int.reduceLT, Int.reduceLE, Int.reduceAdd, Int.reduceSub, Int.reduceEq, Int.reduceNeg, Int.reduceToNat, Int.reduceGT, Int.reduceGE], hlow, hb⟩
  · rintro env h' ⟨e4, e9, e10, e11, hlow, hb⟩
    have c0 : ¬ Int.ofNat 8 < 8 := by decide
    simp only [go_sem, Nat.reduceLT, Nat.reduceLeDiff, Nat.reduceEqDiff, Nat.reduceAdd, Nat.reduceSub, Nat.reduceMul, reduceCtorEq, Int.reduceBEq, Int.reduceLT, Int.reduceLE, Int.reduceAdd, Int.reduceSub, Int.reduceEq, Int.reduceNeg, Int.reduceToNat, Int.reduceGT, Int.reduceGE, wadd32, wmul32, wadd64, wmul64, wand32, wor32, wxor32, wand64, wor64, wnot32, wsub32, wsub64, wshr32l, wshl32l, wshr64l, wshl64l, wshr32w, wshl32w, wshr64w, wlt64, wgt64, weq64, wne64, e4, e9, e10, e11, c0]
    rw [fin_q _ _ _ hlow rfl, hQ]
    rfl
theorem rshort_run (hσ : ∀ f a h, σ f a h = none) {h : H} {v : CV} {xs : List Nat} (B : BV h v xs) (hx : xs.length ≤ 100000) (h256 : ∀ b ∈ xs, b < 256) : RetQ h (w64 (shV (digest xs) 8)) ((lim Tryd.prog σ).call 13 [v] h) := by
  obtain ⟨Q, hQ⟩ : ∃ Q, Q = RetQ h (w64 (shV (digest xs) 8)) := ⟨_, rfl⟩
  rw [← hQ]
  rw [call_eq (hσ _ _ _) fn_13 rfl rfl, Tryd.ntmps13, Tryd.results13]
  have e1 : (lim Tryd.prog σ).call 8 [v] h.lo = some (.agg (bc (digest xs)), none) := by
    rw [← digest_same]; exact rsum_run hσ (B.ext (Ext.lo h)) hx h256
  have hl : (bc (digest xs)).length = 32 := bc_len _
  have l0 : CV.int .u64 0 = w64 (BitVec.ofNat 64 0) := rfl
  simp only [go_sem, Nat.reduceLT, Nat.reduceLeDiff, Nat.reduceEqDiff, Nat.reduceAdd, Nat.reduceSub, Nat.reduceMul, reduceCtorEq, Int.reduceBEq, Int.reduceLT, Int.reduceLE, Int.reduceAdd, Int.reduceSub, Int.reduceEq, Int.reduceNeg, Int.reduceToNat, Int.reduceGT, Int.reduceGE, wadd32, wmul32, wadd64, wmul64, wand32, wor32, wxor32, wand64, wor64, wnot32, wsub32, wsub64, wshr32l, wshl32l, wshr64l, wshl64l, wshr32w, wshl32w, wshr64w, wlt64, wgt64, weq64, wne64, e1, hl, l0]
  refine store_step (Q := Q) (by rw [hl, wnewBlk_n]; rfl) (bc_one _) fun b hn hr hld hg => ?_
  simp only [go_sem, Nat.reduceLT, Nat.reduceLeDiff, Nat.reduceEqDiff, Nat.reduceAdd, Nat.reduceSub, Nat.reduceMul, reduceCtorEq, Int.reduceBEq, Int.reduceLT, Int.reduceLE, Int.reduceAdd, Int.reduceSub, Int.reduceEq, Int.reduceNeg, Int.reduceToNat, Int.reduceGT, Int.reduceGE, wadd32, wmul32, wadd64, wmul64, wand32, wor32, wxor32, wand64, wor64, wnot32, wsub32, wsub64, wshr32l, wshl32l, wshr64l, wshl64l, wshr32w, wshl32w, wshr64w, wlt64, wgt64, weq64, wne64, e1, hl, l0]
  have l256 : CV.int .u64 256 = w64 (BitVec.ofNat 64 256) := rfl
  refine loop_ind (Q := Q) (fun i env h' => evT env 4 = w64 (rshV (digest xs) i) ∧ evT env 3 = .ptr h.nx 0 ∧ evT env 5 = .int .i64 (Int.ofNat i) ∧ h'.low = h.nx ∧ h'.blk h.nx = some b) 8 0 ?_ (by decide) ?_ ?_
  · exact ⟨by simp only [go_sem, Nat.reduceLT, Nat.reduceLeDiff, Nat.reduceEqDiff, Nat.reduceAdd, Nat.reduceSub, Nat.reduceMul, reduceCtorEq, Int.reduceBEq, Int.reduceLT, Int.reduceLE, Int.reduceAdd, Int.reduceSub, Int.reduceEq, Int.reduceNeg, Int.reduceToNat, Int.reduceGT, Int.reduceGE]; rfl, by simp only [go_sem, Nat.reduceLT, Nat.reduceLeDiff, Nat.reduceEqDiff, Nat.reduceAdd, Nat.reduceSub, Nat.reduceMul, reduceCtorEq, Int.reduceBEq, Int.reduceLT, Int.reduceLE, Int.reduceAdd, Int.reduceSub, Int.reduceEq, Int.reduceNeg, Int.reduceToNat, Int.reduceGT, Int.reduceGE], by simp only [go_sem, Nat.reduceLT, Nat.reduceLeDiff, Nat.reduceEqDiff, Nat.reduceAdd, Nat.reduceSub, Nat.reduceMul, reduceCtorEq, Int.reduceBEq, Int.reduceLT, Int.reduceLE, Int.reduceAdd, Int.reduceSub, Int.reduceEq, Int.reduceNeg, Int.reduceToNat, Int.reduceGT, Int.reduceGE]; rfl, by simp only [go_sem, Nat.reduceLT, Nat.reduceLeDiff, Nat.reduceEqDiff, Nat.reduceAdd, Nat.reduceSub, Nat.reduceMul, reduceCtorEq, Int.reduceBEq, Int.reduceLT, Int.reduceLE, Int.reduceAdd, Int.reduceSub, Int.reduceEq, Int.reduceNeg, Int.reduceToNat, Int.reduceGT, Int.reduceGE]; omega, by simp only [go_sem, Nat.reduceLT, Nat.reduceLeDiff, Nat.reduceEqDiff, Nat.reduceAdd, Nat.reduceSub, Nat.reduceMul, reduceCtorEq, Int.reduceBEq, Int.reduceLT, Int.reduceLE, Int.reduceAdd, Int.reduceSub, Int.reduceEq, Int.reduceNeg, Int.reduceToNat, Int.reduceGT, Int.reduceGE]⟩
  · rintro i env h' ⟨e4, e3, e5, hlow, hb⟩ hi next
    have c0 : Int.ofNat i < 8 := by simp; omega
    have c1 : i < 32 := by omega
    have w1 : IntKind.wrap .i64 (Int.ofNat i + 1) = Int.ofNat (i + 1) := wrap_n (by simp) (by omega)
    obtain ⟨y, hy⟩ : ∃ y, (digest xs)[i]? = some y := ⟨_, List.getElem?_eq_getElem (by rw [digest_len]; omega)⟩
    have gi : b.get i = some (u8 y) := by rw [hg, nth_eq]; unfold bc; rw [List.getElem?_map, hy]; rfl
    simp only [go_sem, Nat.reduceLT, Nat.reduceLeDiff, Nat.reduceEqDiff, Nat.reduceAdd, Nat.reduceSub, Nat.reduceMul, reduceCtorEq, Int.reduceBEq, Int.reduceLT, Int.reduceLE, Int.reduceAdd, Int.reduceSub, Int.reduceEq, Int.reduceNeg, Int.reduceToNat, Int.reduceGT, Int.reduceGE, wadd32, wmul32, wadd64, wmul64, wand32, wor32, wxor32, wand64, wor64, wnot32, wsub32, wsub64, wshr32l, wshl32l, wshr64l, wshl64l, wshr32w, wshl32w, wshr64w, wlt64, wgt64, weq64, wne64, e4, e3, e5, c0, c1, w1, hi, hb, gi, cv531, l256, Nat.mul_one, Nat.zero_add]
    refine next _ _ ⟨by simp only [go_sem, Nat.reduceLT, Nat.reduceLeDiff, Nat.reduceEqDiff, Nat.reduceAdd, Nat.reduceSub, Nat.reduceMul, reduceCtorEq, Int.reduceBEq, Int.reduceLT, Int.reduceLE, Int.reduceAdd, Int.reduceSub, Int.reduceEq, Int.reduceNeg, Int.reduceToNat, Int.reduceGT, Int.reduceGE, rshV, hy], by simp only [go_sem, Nat.reduceLT, Nat.reduceLeDiff, Nat.reduceEqDiff, Nat.reduceAdd, Nat.reduceSub, Nat.reduceMul, reduceCtorEq, Int.reduceBEq, Int.reduceLT, Int.reduceLE, Int.reduceAdd, Int.reduceSub, Int.reduceEq, Int.reduceNeg, Int.reduceToNat, Int.reduceGT, Int.reduceGE, e3], by simp only [go_sem, Nat.reduceLT, Nat.reduceLeDiff, Nat.reduceEqDiff, Nat.reduceAdd, Nat.reduceSub, Nat.reduceMul, reduceCtorEq, Int.reduceBEq, Int.reduceLT, Int.reduceLE, Int.reduceAdd, Int.reduceSub, Int.reduceEq, Int.reduceNeg, Int.reduceToNat, Int.reduceGT, Int.reduceGE], hlow, hb⟩
  · rintro env h' ⟨e4, e3, e5, hlow, hb⟩
    have c0 : ¬ Int.ofNat 8 < 8 := by decide
    simp only [go_sem, Nat.reduceLT, Nat.reduceLeDiff, Nat.reduceEqDiff, Nat.reduceAdd, Nat.reduceSub, Nat.reduceMul, reduceCtorEq, Int.reduceBEq, Int.reduceLT, Int.reduceLE, Int.reduceAdd, Int.reduceSub, Int.reduceEq, Int.reduceNeg, Int.reduceToNat, Int.reduceGT, Int.reduceGE, wadd32, wmul32, wadd64, wmul64, wand32, wor32, wxor32, wand64, wor64, wnot32, wsub32, wsub64, wshr32l, wshl32l, wshr64l, wshl64l, wshr32w, wshl32w, wshr64w, wlt64, wgt64, weq64, wne64, e4, e3, e5, c0, shV_same _ (digest_byte xs)]
    rw [fin_q _ _ _ hlow rfl, hQ]
    rfl
end Go.Cl.Sh

namespace Go.Cl.Sh
variable {σ : Sums}
set_option maxRecDepth 1000000
theorem abc : (digest [97, 98, 99]).take 4 = [186, 120, 22, 191] := by decide +kernel

theorem bytesOf_bc : ∀ bs : List Nat, (∀ b ∈ bs, b < 256) → bytesOf (bc bs) = some bs
  | [], _ => rfl
  | b :: bs, h => by
    have ih := bytesOf_bc bs fun x hx => h x (List.mem_cons_of_mem _ hx)
    have hb := h b List.mem_cons_self
    show cond (Nat.blt b 256) ((bytesOf (bc bs)).bind fun r => some (b :: r)) none = _
    rw [blt_eq', decide_eq_true hb, ih]; rfl
theorem cvse (h : H) (a b c d : Nat) : convT Tryd.prog h 22 9 (.slend a b c d) = some (.val (.str [])) := by kernel_rfl
theorem BV.str {h : H} {v : CV} {xs : List Nat} (B : BV h v xs) (h256 : ∀ b ∈ xs, b < 256) : convT Tryd.prog h 22 9 v = some (.val (.str xs)) := by
  rcases B with ⟨rfl, rfl | ⟨a, b, c, d, rfl⟩ | ⟨a, b, c, d, rfl⟩⟩ | ⟨id, off, c, b, rfl, h1, h2, h3, _⟩
  · exact cv_22_9_n h
  · exact cv_22_9_z h _ _ _ _
  · exact cvse h _ _ _ _
  · rw [cv_22_9, h2]
    show ((b.loadN off xs.length).bind fun cs => (bytesOf cs).map fun l => Out.val (.str l)) = _
    rw [h3, bind_some', bytesOf_bc xs h256]; rfl

theorem allN_dec {g : Nat → Option Bool} {p : Nat → Bool} : ∀ (n i : Nat), (∀ j, i ≤ j → j < i + n → g j = some (p j)) → allN g n i = some ((List.range' i n).all p)
  | 0, _, _ => rfl
  | n + 1, i, h => by
    simp only [allN, List.range'_succ, List.all_cons]
    rw [h i (Nat.le_refl _) (by omega)]
    cases p i
    · rfl
    · simp only [Option.bind_some, cond_true, Bool.true_and]
      exact allN_dec n (i + 1) fun j h1 h2 => h j (by omega) (by omega)
theorem bc_inj {a b : List Nat} (h : bc a = bc b) : a = b := by
  have : ∀ a b : List Nat, bc a = bc b → a = b := fun a => by
    induction a with
    | nil => intro b h; cases b with
      | nil => rfl
      | cons y b => cases h
    | cons x a ih => intro b h; cases b with
      | nil => cases h
      | cons y b =>
        have h1 : u8 x :: bc a = u8 y :: bc b := h
        simp only [List.cons.injEq] at h1
        have h2 : x = y := by
          have := (CV.int.inj h1.1).2
          exact Int.ofNat.inj this
        rw [h2, ih b h1.2]
  exact this a b h
theorem eqIn_a {P : Program} {fuel n : Nat} {t e : TypeId} {xs ys : List CV} (hu : P.underlying t = some (.array n e)) (hs : szOf P e = some 1) :
    eqIn P (fuel + 1) t (.agg xs) (.agg ys) = allN (fun i => (partT P e xs (i * 1)).bind fun a => (partT P e ys (i * 1)).bind fun b => eqIn P fuel e a b) n 0 := by
  simp only [eqIn, hu, Option.bind_some, hs]
theorem eqIn_i {P : Program} {fuel : Nat} {t : TypeId} {k : IntKind} {a b : Int} (hu : P.underlying t = some (.int k)) : eqIn P (fuel + 1) t (.int k a) (.int k b) = some (a == b) := by
  simp [eqIn, hu]
theorem eq32 (xo yo : Operand) (D E : List Nat) (hD : D.length = 32) (hE : E.length = 32) : binT Tryd.prog .eql 23 xo yo (.agg (bc D)) (.agg (bc E)) = some (.bool (decide (D = E))) := by
  have h1 : eqOk Tryd.prog 23 xo yo (.agg (bc D)) (.agg (bc E)) = true := by kernel_rfl
  have h2 : eqIn Tryd.prog 100 23 (.agg (bc D)) (.agg (bc E)) = some (decide (D = E)) := by
    rw [eqIn_a (fuel := 99) Tryd.underlying23 sz_5, allN_dec (p := fun i => decide (D[i]? = E[i]?)) 32 0]
    · congr 1
      rw [Bool.eq_iff_iff, List.all_eq_true, decide_eq_true_eq]
      constructor
      · intro h
        refine List.ext_getElem? fun i => ?_
        by_cases hi : i < 32
        · exact of_decide_eq_true (h i (by simp; omega))
        · rw [List.getElem?_eq_none (by omega), List.getElem?_eq_none (by omega)]
      · rintro rfl i _
        exact decide_eq_true rfl
    · intro j _ hj
      have hd : D[j]? = some D[j] := List.getElem?_eq_getElem (by omega)
      have he : E[j]? = some E[j] := List.getElem?_eq_getElem (by omega)
      rw [part_5, part_5, Nat.mul_one, nth_eq, nth_eq]
      unfold bc
      rw [List.getElem?_map, List.getElem?_map, hd, he]
      show eqIn Tryd.prog 99 5 (.int .u8 (Int.ofNat D[j])) (.int .u8 (Int.ofNat E[j])) = _
      rw [eqIn_i (fuel := 98) Tryd.underlying5]
      congr 1
      by_cases q : D[j] = E[j]
      · simp [q]
      · simp [q]; omega
  show cond (eqOk Tryd.prog 23 xo yo (.agg (bc D)) (.agg (bc E))) ((eqIn Tryd.prog 100 23 (.agg (bc D)) (.agg (bc E))).map fun b => CV.bool b) none = _
  rw [h1, h2]; rfl
theorem ne32 (xo yo : Operand) (D E : List Nat) (hD : D.length = 32) (hE : E.length = 32) : binT Tryd.prog .neq 23 xo yo (.agg (bc D)) (.agg (bc E)) = some (.bool (!decide (D = E))) := by
  have h1 : eqOk Tryd.prog 23 xo yo (.agg (bc D)) (.agg (bc E)) = true := by kernel_rfl
  have h2 : eqIn Tryd.prog 100 23 (.agg (bc D)) (.agg (bc E)) = some (decide (D = E)) := by
    have := eq32 xo yo D E hD hE
    have h3 : binT Tryd.prog .eql 23 xo yo (.agg (bc D)) (.agg (bc E)) = cond (eqOk Tryd.prog 23 xo yo (.agg (bc D)) (.agg (bc E))) ((eqIn Tryd.prog 100 23 (.agg (bc D)) (.agg (bc E))).map fun b => CV.bool b) none := rfl
    rw [h3, h1] at this
    cases he : eqIn Tryd.prog 100 23 (.agg (bc D)) (.agg (bc E)) with
    | none => rw [he] at this; cases this
    | some q => rw [he] at this; simpa using this
  show cond (eqOk Tryd.prog 23 xo yo (.agg (bc D)) (.agg (bc E))) ((eqIn Tryd.prog 100 23 (.agg (bc D)) (.agg (bc E))).map fun b => CV.bool (!b)) none = _
  rw [h1, h2]; rfl

theorem known_run (hσ : ∀ f a h, σ f a h = none) {h : H} (g : HG h) : RetQ h (.bool true) ((lim Tryd.prog σ).call 9 [] h) := by
  obtain ⟨Q, hQ⟩ : ∃ Q, Q = RetQ h (.bool true) := ⟨_, rfl⟩
  rw [← hQ]
  rw [call_eq (hσ _ _ _) fn_9 rfl rfl, Tryd.ntmps9, Tryd.results9]
  have hcv : ∀ (X : H) (id : Nat) (b : Blk), X.blk id = some b → b.ro = false → convT Tryd.prog X 22 22 (.sl id 0 3 (.exact 3)) = some (.val (.sl id 0 3 (.exact 3))) := fun X id b h1 h2 => by
    simp [convT, Tryd.underlying22, Tryd.underlying5, h1, h2]
  simp only [go_sem, Nat.reduceLT, Nat.reduceLeDiff, Nat.reduceEqDiff, Nat.reduceAdd, Nat.reduceSub, Nat.reduceMul, reduceCtorEq, Int.reduceBEq, Int.reduceLT, Int.reduceLE, Int.reduceAdd, Int.reduceSub, Int.reduceEq, Int.reduceNeg, Int.reduceToNat, Int.reduceGT, Int.reduceGE]
  obtain ⟨b3, hb3⟩ : ∃ b3, b3 = (((({ n := 3, d := [CV.int IntKind.u8 0], t := T.nil } : Blk).st 0 (CV.int IntKind.u8 97)).st 1 (CV.int IntKind.u8 98)).st 2 (CV.int IntKind.u8 99)) := ⟨_, rfl⟩
  rw [← hb3]
  have hl3 : b3.loadN 0 3 = some (bc [97, 98, 99]) := by rw [hb3]; rfl
  have hr3 : b3.ro = false := by rw [hb3]; rfl
  have hn3 : b3.n = 3 := by rw [hb3]; rfl
  clear hb3
  have hc := hcv (h.lo.alloc (.cells b3)) h.nx b3 (alloc_blk_same _ _ _ rfl) hr3
  have B : BV (h.lo.alloc (.cells b3)) (.sl h.nx 0 3 (.exact 3)) [97, 98, 99] := .inr ⟨h.nx, 0, .exact 3, b3, rfl, by simp only [go_sem, Nat.reduceLT, Nat.reduceLeDiff, Nat.reduceEqDiff, Nat.reduceAdd, Nat.reduceSub, Nat.reduceMul, reduceCtorEq, Int.reduceBEq, Int.reduceLT, Int.reduceLE, Int.reduceAdd, Int.reduceSub, Int.reduceEq, Int.reduceNeg, Int.reduceToNat, Int.reduceGT, Int.reduceGE], alloc_blk_same _ _ _ rfl, hl3, .inl ⟨3, rfl, by decide⟩⟩
  have e : (lim Tryd.prog σ).call 7 [.sl h.nx 0 3 (.exact 3)] (h.lo.alloc (.cells b3)) = some (.agg (bc (digest [97, 98, 99])), none) := sum_run hσ B (g.ext ((Ext.lo h).alloc' _)) (by decide)
  have hl : (bc (digest [97, 98, 99])).length = 32 := bc_len _
  simp only [go_sem, Nat.reduceLT, Nat.reduceLeDiff, Nat.reduceEqDiff, Nat.reduceAdd, Nat.reduceSub, Nat.reduceMul, reduceCtorEq, Int.reduceBEq, Int.reduceLT, Int.reduceLE, Int.reduceAdd, Int.reduceSub, Int.reduceEq, Int.reduceNeg, Int.reduceToNat, Int.reduceGT, Int.reduceGE, hc, e, hl]
  refine store_step (Q := Q) (by rw [hl, wnewBlk_n]; rfl) (bc_one _) fun b hn hr hld hg => ?_
  have t4 := abc
  have g0 : b.get 0 = some (.int .u8 186) := by
    rw [hg, nth_eq]; unfold bc; rw [List.getElem?_map]
    have : (digest [97, 98, 99])[0]? = ((digest [97, 98, 99]).take 4)[0]? := by rw [List.getElem?_take]; rfl
    rw [this, t4]; rfl
  have g1 : b.get 1 = some (.int .u8 120) := by
    rw [hg, nth_eq]; unfold bc; rw [List.getElem?_map]
    have : (digest [97, 98, 99])[1]? = ((digest [97, 98, 99]).take 4)[1]? := by rw [List.getElem?_take]; rfl
    rw [this, t4]; rfl
  have g2 : b.get 2 = some (.int .u8 22) := by
    rw [hg, nth_eq]; unfold bc; rw [List.getElem?_map]
    have : (digest [97, 98, 99])[2]? = ((digest [97, 98, 99]).take 4)[2]? := by rw [List.getElem?_take]; rfl
    rw [this, t4]; rfl
  have g3 : b.get 3 = some (.int .u8 191) := by
    rw [hg, nth_eq]; unfold bc; rw [List.getElem?_map]
    have : (digest [97, 98, 99])[3]? = ((digest [97, 98, 99]).take 4)[3]? := by rw [List.getElem?_take]; rfl
    rw [this, t4]; rfl
  have x0 : ∀ o kd, indexAddrT Tryd.prog 23 (.ptr o 0) (.int kd 0) = some (.ptr o 0) := fun o kd => by kernel_rfl
  have x1 : ∀ o kd, indexAddrT Tryd.prog 23 (.ptr o 0) (.int kd 1) = some (.ptr o 1) := fun o kd => by kernel_rfl
  have x2 : ∀ o kd, indexAddrT Tryd.prog 23 (.ptr o 0) (.int kd 2) = some (.ptr o 2) := fun o kd => by kernel_rfl
  have x3 : ∀ o kd, indexAddrT Tryd.prog 23 (.ptr o 0) (.int kd 3) = some (.ptr o 3) := fun o kd => by kernel_rfl
  simp only [go_sem, Nat.reduceLT, Nat.reduceLeDiff, Nat.reduceEqDiff, Nat.reduceAdd, Nat.reduceSub, Nat.reduceMul, reduceCtorEq, Int.reduceBEq, Int.reduceLT, Int.reduceLE, Int.reduceAdd, Int.reduceSub, Int.reduceEq, Int.reduceNeg, Int.reduceToNat, Int.reduceGT, Int.reduceGE, x0, x1, x2, x3, g0, g1, g2, g3]
  rw [fin_q _ _ _ (by simp only [go_sem, Nat.reduceLT, Nat.reduceLeDiff, Nat.reduceEqDiff, Nat.reduceAdd, Nat.reduceSub, Nat.reduceMul, reduceCtorEq, Int.reduceBEq, Int.reduceLT, Int.reduceLE, Int.reduceAdd, Int.reduceSub, Int.reduceEq, Int.reduceNeg, Int.reduceToNat, Int.reduceGT, Int.reduceGE]; omega) rfl, hQ]
  rfl

theorem constantsLaw_run (hσ : ∀ f a h, σ f a h = none) {h : H} (g : HG h) (i : Int) : Tru ((lim Tryd.prog σ).call 4 [.int .i64 i] h) := by
  have hk : ∀ X, Ext h X → (lim Tryd.prog σ).call 9 [] X = some (.bool true, none) := fun X E => known_run hσ (g.ext E)
  have hc : ∀ X, (lim Tryd.prog σ).call 11 [.int .i64 i] X = some (w32 (if 0 ≤ i then (KL[i.toNat]?).getD 0 else 0), none) := fun X => constant_run hσ X i
  have hr : ∀ X, (lim Tryd.prog σ).call 10 [] X = some (.agg (KL.map w32), none) := fun X => refK_run hσ X
  have hk' := hk h.lo (Ext.lo h)
  have z : CV.int .u32 0 = w32 0 := rfl
  have eqw : ∀ t xo yo x, binT Tryd.prog .eql t xo yo (w32 x) (w32 x) = some (.bool true) := fun t xo yo x => by
    show some (CV.bool (Int.ofNat x.toNat == Int.ofNat x.toNat)) = _
    simp
  rw [call_eq (hσ _ _ _) fn_4 rfl rfl, Tryd.ntmps4, Tryd.results4]
  by_cases c1 : i ≥ 0
  · by_cases c2 : i < 64
    · obtain ⟨n, rfl⟩ : ∃ n : Nat, i = Int.ofNat n := ⟨i.toNat, by simp; omega⟩
      have hn : n < 64 := Int.ofNat_lt.1 c2
      obtain ⟨w, hw⟩ : ∃ w, KL[n]? = some w := ⟨_, List.getElem?_eq_getElem (by rw [KL_len]; exact hn)⟩
      have hnw : nth (KL.map w32) n = some (w32 w) := by rw [nth_eq, List.getElem?_map, hw]; rfl
      have hc' : ∀ X, (lim Tryd.prog σ).call 11 [.int .i64 (Int.ofNat n)] X = some (w32 w, none) := fun X => by
        rw [hc, if_pos c1, show (Int.ofNat n).toNat = n from rfl, hw]; rfl
      simp only [go_sem, Nat.reduceLT, Nat.reduceLeDiff, Nat.reduceEqDiff, Nat.reduceAdd, Nat.reduceSub, Nat.reduceMul, reduceCtorEq, Int.reduceBEq, Int.reduceLT, Int.reduceLE, Int.reduceAdd, Int.reduceSub, Int.reduceEq, Int.reduceNeg, Int.reduceToNat, Int.reduceGT, Int.reduceGE, wadd32, wmul32, wadd64, wmul64, wand32, wor32, wxor32, wand64, wor64, wnot32, wsub32, wsub64, wshr32l, wshl32l, wshr64l, wshl64l, wshr32w, wshl32w, wshr64w, wlt64, wgt64, weq64, wne64, c1, c2, hr, hc', hn, hnw, eqw, hk', Nat.mul_one]
      exact tru_fin _ _
    · have hc' : ∀ X, (lim Tryd.prog σ).call 11 [.int .i64 i] X = some (w32 0, none) := fun X => by
        rw [hc, if_pos c1, List.getElem?_eq_none (by rw [KL_len]; omega)]; rfl
      simp only [go_sem, Nat.reduceLT, Nat.reduceLeDiff, Nat.reduceEqDiff, Nat.reduceAdd, Nat.reduceSub, Nat.reduceMul, reduceCtorEq, Int.reduceBEq, Int.reduceLT, Int.reduceLE, Int.reduceAdd, Int.reduceSub, Int.reduceEq, Int.reduceNeg, Int.reduceToNat, Int.reduceGT, Int.reduceGE, wadd32, wmul32, wadd64, wmul64, wand32, wor32, wxor32, wand64, wor64, wnot32, wsub32, wsub64, wshr32l, wshl32l, wshr64l, wshl64l, wshr32w, wshl32w, wshr64w, wlt64, wgt64, weq64, wne64, c1, c2, hr, hc', z, eqw, hk', Nat.mul_one]
      exact tru_fin _ _
  · have hc' : ∀ X, (lim Tryd.prog σ).call 11 [.int .i64 i] X = some (w32 0, none) := fun X => by
      rw [hc, if_neg (by omega)]
    simp only [go_sem, Nat.reduceLT, Nat.reduceLeDiff, Nat.reduceEqDiff, Nat.reduceAdd, Nat.reduceSub, Nat.reduceMul, reduceCtorEq, Int.reduceBEq, Int.reduceLT, Int.reduceLE, Int.reduceAdd, Int.reduceSub, Int.reduceEq, Int.reduceNeg, Int.reduceToNat, Int.reduceGT, Int.reduceGE, wadd32, wmul32, wadd64, wmul64, wand32, wor32, wxor32, wand64, wor64, wnot32, wsub32, wsub64, wshr32l, wshl32l, wshr64l, wshl64l, wshr32w, wshl32w, wshr64w, wlt64, wgt64, weq64, wne64, c1, hr, hc', z, eqw, hk', Nat.mul_one]
    exact tru_fin _ _

theorem seq_self (xs : List Nat) : ∀ t xo yo, binT Tryd.prog .eql t xo yo (.str xs) (.str xs) = some (.bool true) := fun t xo yo => by
  rw [bin_seq]; simp
theorem weq_self (x : BitVec 64) : ∀ t xo yo, binT Tryd.prog .eql t xo yo (w64 x) (w64 x) = some (.bool true) := fun t xo yo => by
  rw [weq64]; simp
theorem sumsLaw_run (hσ : ∀ f a h, σ f a h = none) {h : H} (g : HG h) {v : CV} {xs : List Nat} (B : BV h v xs) (h256 : ∀ b ∈ xs, b < 256) : Tru ((lim Tryd.prog σ).call 5 [v] h) := by
  have hk : ∀ X, Ext h X → (lim Tryd.prog σ).call 9 [] X = some (.bool true, none) := fun X E => known_run hσ (g.ext E)
  rw [call_eq (hσ _ _ _) fn_5 rfl rfl, Tryd.ntmps5, Tryd.results5]
  by_cases c : xs.length > 5000
  · have c1 : Int.ofNat xs.length > 5000 := by simp; omega
    simp only [go_sem, Nat.reduceLT, Nat.reduceLeDiff, Nat.reduceEqDiff, Nat.reduceAdd, Nat.reduceSub, Nat.reduceMul, reduceCtorEq, Int.reduceBEq, Int.reduceLT, Int.reduceLE, Int.reduceAdd, Int.reduceSub, Int.reduceEq, Int.reduceNeg, Int.reduceToNat, Int.reduceGT, Int.reduceGE, B.len, c1, hk h.lo (Ext.lo h)]
    exact tru_fin _ _
  · have c1 : ¬ Int.ofNat xs.length > 5000 := by simp; omega
    have BX := B.ext (Ext.lo h)
    simp only [go_sem, Nat.reduceLT, Nat.reduceLeDiff, Nat.reduceEqDiff, Nat.reduceAdd, Nat.reduceSub, Nat.reduceMul, reduceCtorEq, Int.reduceBEq, Int.reduceLT, Int.reduceLE, Int.reduceAdd, Int.reduceSub, Int.reduceEq, Int.reduceNeg, Int.reduceToNat, Int.reduceGT, Int.reduceGE, B.len, c1, BX.app]
    refine copy_step (Q := Tru) (xs := xs) (by omega) fun v1 h1 L1 E1 hlow1 hnx1 hval1 => ?_
    have E : Ext h h1 := (Ext.lo h).trans E1
    have B1 : BV h1 v1 xs := lst_bv L1
    have B0 : BV h1 v xs := B.ext E
    have e1 : (lim Tryd.prog σ).call 7 [v1] h1 = some (.agg (bc (digest xs)), none) := sum_run hσ B1 (g.ext E) (by omega)
    have e2 : (lim Tryd.prog σ).call 8 [v] h1 = some (.agg (bc (digest xs)), none) := by rw [← digest_same]; exact rsum_run hσ B0 (by omega) h256
    have e3 : (lim Tryd.prog σ).call 12 [v1] h1 = some (w64 (shV (digest xs) 8), none) := short_run hσ B1 (g.ext E) (by omega)
    have e4 : (lim Tryd.prog σ).call 13 [v] h1 = some (w64 (shV (digest xs) 8), none) := rshort_run hσ B0 (by omega) h256
    have q1 := fun xo yo => eq32 xo yo (digest xs) (digest xs) (digest_len xs) (digest_len xs)
    simp only [go_sem, Nat.reduceLT, Nat.reduceLeDiff, Nat.reduceEqDiff, Nat.reduceAdd, Nat.reduceSub, Nat.reduceMul, reduceCtorEq, Int.reduceBEq, Int.reduceLT, Int.reduceLE, Int.reduceAdd, Int.reduceSub, Int.reduceEq, Int.reduceNeg, Int.reduceToNat, Int.reduceGT, Int.reduceGE, e1, e2, e3, e4, q1, weq_self, seq_self, B1.str h256, B0.str h256, hk h1 E]
    exact tru_fin _ _

theorem allLaw_run (hσ : ∀ f a h, σ f a h = none) {h : H} (g : HG h) : Tru ((lim Tryd.prog σ).call 3 [] h) := by
  have hk : ∀ X, Ext h X → (lim Tryd.prog σ).call 9 [] X = some (.bool true, none) := fun X E => known_run hσ (g.ext E)
  rw [call_eq (hσ _ _ _) fn_3 rfl rfl, Tryd.ntmps3, Tryd.results3]
  simp only [go_sem, Nat.reduceLT, Nat.reduceLeDiff, Nat.reduceEqDiff, Nat.reduceAdd, Nat.reduceSub, Nat.reduceMul, reduceCtorEq, Int.reduceBEq, Int.reduceLT, Int.reduceLE, Int.reduceAdd, Int.reduceSub, Int.reduceEq, Int.reduceNeg, Int.reduceToNat, Int.reduceGT, Int.reduceGE]
  refine loop_ind (Q := Tru) (fun i env h' => evT env 2 = .int .i64 (Int.ofNat i) ∧ ∃ lid, G h.lo h' (evT env 1) (List.range i) lid) 201 0 ?_ (by decide) ?_ ?_
  · exact ⟨by simp only [go_sem, Nat.reduceLT, Nat.reduceLeDiff, Nat.reduceEqDiff, Nat.reduceAdd, Nat.reduceSub, Nat.reduceMul, reduceCtorEq, Int.reduceBEq, Int.reduceLT, Int.reduceLE, Int.reduceAdd, Int.reduceSub, Int.reduceEq, Int.reduceNeg, Int.reduceToNat, Int.reduceGT, Int.reduceGE]; rfl, h.nx, by simp only [go_sem, Nat.reduceLT, Nat.reduceLeDiff, Nat.reduceEqDiff, Nat.reduceAdd, Nat.reduceSub, Nat.reduceMul, reduceCtorEq, Int.reduceBEq, Int.reduceLT, Int.reduceLE, Int.reduceAdd, Int.reduceSub, Int.reduceEq, Int.reduceNeg, Int.reduceToNat, Int.reduceGT, Int.reduceGE]; exact ⟨Nat.le_refl _, Lst.nil _ _ _, Ext.refl _, rfl, Nat.le_refl _⟩⟩
  · rintro i env h' ⟨e2, lid, G1⟩ hi next
    have E : Ext h h' := (Ext.lo h).trans G1.ext
    have B := G1.bv
    have h256 : ∀ b ∈ List.range i, b < 256 := fun b hb => by have := List.mem_range.1 hb; omega
    have c1 : Int.ofNat i ≤ 200 := by simp; omega
    have w1 : IntKind.wrap .i64 (Int.ofNat i + 1) = Int.ofNat (i + 1) := wrap_n (by simp) (by omega)
    have hlr : (List.range i).length ≤ 100000 := by simp; omega
    have s1 : (lim Tryd.prog σ).call 7 [evT env 1] h' = some (.agg (bc (digest (List.range i))), none) := sum_run hσ B (g.ext E) hlr
    have s2 : (lim Tryd.prog σ).call 8 [evT env 1] h' = some (.agg (bc (digest (List.range i))), none) := by rw [← digest_same]; exact rsum_run hσ B hlr h256
    have q1 := fun xo yo => ne32 xo yo (digest (List.range i)) (digest (List.range i)) (digest_len _) (digest_len _)
    have cv : ∀ X : H, convT Tryd.prog X 3 5 (.int .i64 (Int.ofNat i)) = some (.val (u8 i)) := fun X => by
      rw [cv_3_5, wrapU8, Nat.mod_eq_of_lt (by omega)]; rfl
    simp only [go_sem, Nat.reduceLT, Nat.reduceLeDiff, Nat.reduceEqDiff, Nat.reduceAdd, Nat.reduceSub, Nat.reduceMul, reduceCtorEq, Int.reduceBEq, Int.reduceLT, Int.reduceLE, Int.reduceAdd, Int.reduceSub, Int.reduceEq, Int.reduceNeg, Int.reduceToNat, Int.reduceGT, Int.reduceGE, e2, c1, s1, s2, q1, cv]
    have G2 := G1.alloc (.cells ({ n := 1, d := [CV.int IntKind.u8 0], t := T.nil, ro := false : Blk }.st 0 (u8 i)))
    refine grow_step (Q := Tru) (ns := [i]) G2 (Nat.zero_lt_one) (by simp; omega) fun h2 v2 hv2 G3 hlt => ?_
    simp only [go_sem, Nat.reduceLT, Nat.reduceLeDiff, Nat.reduceEqDiff, Nat.reduceAdd, Nat.reduceSub, Nat.reduceMul, reduceCtorEq, Int.reduceBEq, Int.reduceLT, Int.reduceLE, Int.reduceAdd, Int.reduceSub, Int.reduceEq, Int.reduceNeg, Int.reduceToNat, Int.reduceGT, Int.reduceGE, e2, w1]
    exact next _ _ ⟨by simp only [go_sem, Nat.reduceLT, Nat.reduceLeDiff, Nat.reduceEqDiff, Nat.reduceAdd, Nat.reduceSub, Nat.reduceMul, reduceCtorEq, Int.reduceBEq, Int.reduceLT, Int.reduceLE, Int.reduceAdd, Int.reduceSub, Int.reduceEq, Int.reduceNeg, Int.reduceToNat, Int.reduceGT, Int.reduceGE], _, by rw [List.range_succ]; simp only [go_sem, Nat.reduceLT, Nat.reduceLeDiff, Nat.reduceEqDiff, Nat.reduceAdd, Nat.reduceSub, Nat.reduceMul, reduceCtorEq, Int.reduceBEq, Int.reduceLT, Int.reduceLE, Int.reduceAdd, Int.reduceSub, Int.reduceEq, Int.reduceNeg, Int.reduceToNat, Int.reduceGT, Int.reduceGE]; exact G3⟩
  · rintro env h' ⟨e2, lid, G1⟩
    have E : Ext h h' := (Ext.lo h).trans G1.ext
    have c1 : ¬ Int.ofNat 201 ≤ 200 := by decide
    simp only [go_sem, Nat.reduceLT, Nat.reduceLeDiff, Nat.reduceEqDiff, Nat.reduceAdd, Nat.reduceSub, Nat.reduceMul, reduceCtorEq, Int.reduceBEq, Int.reduceLT, Int.reduceLE, Int.reduceAdd, Int.reduceSub, Int.reduceEq, Int.reduceNeg, Int.reduceToNat, Int.reduceGT, Int.reduceGE, e2, c1, hk h' E]
    exact tru_fin _ _
end Go.Cl.Sh

namespace Go.Cl.Sh
variable {σ : Sums}
set_option maxRecDepth 1000000

/-- what stands ahead of a place -/
theorem BV.take {h : H} {v : CV} {xs : List Nat} (B : BV h v xs) {hi : Nat} (hl : hi ≤ xs.length) : ∃ v', sliceT Tryd.prog h 22 v none (some (.int .i64 (Int.ofNat hi))) none = some v' ∧ BV h v' (xs.take hi) := by
  rcases B with ⟨rfl, hv⟩ | ⟨id, off, c, b, rfl, h1, h2, h3, h4⟩
  · have : hi = 0 := by simpa using hl
    subst this
    rcases hv with rfl | ⟨a, b, c, d, rfl⟩ | ⟨a, b, c, d, rfl⟩
    · exact ⟨.nils, by kernel_rfl, .inl ⟨rfl, .inl rfl⟩⟩
    · exact ⟨.sl0 a b c d, by kernel_rfl, .inl ⟨rfl, .inr (.inl ⟨_, _, _, _, rfl⟩)⟩⟩
    · exact ⟨.slend a b c d, by kernel_rfl, .inl ⟨rfl, .inr (.inr ⟨_, _, _, _, rfl⟩)⟩⟩
  · have htl : (xs.take hi).length = hi := by rw [List.length_take]; omega
    have hld : b.loadN off hi = some (bc (xs.take hi)) := by
      have := load_cut h3 (lo := 0) (n := hi) (by omega)
      rwa [Nat.add_zero, List.drop_zero] at this
    rcases h4 with ⟨n, rfl, hn⟩ | ⟨rfl, b', hb', hbn⟩
    · by_cases q : n = 0
      · refine ⟨.sl id off hi (.exact n), ?_, .inr ⟨id, off, .exact n, b, by rw [htl], h1, h2, by rw [htl]; exact hld, .inl ⟨_, rfl, by rw [htl]; omega⟩⟩⟩
        simp only [sliceT, Tryd.underlying22, Option.bind_some, sz_5, sliceExact, bnd, toN, Int.ofNat_eq_natCast, Nat.mul_one]
        simp [ble_eq', beq_eq', q, show hi = 0 by omega]
      · refine ⟨.sl id (off + 0) hi (.exact n), ?_, .inr ⟨id, off, .exact n, b, by rw [htl, Nat.add_zero], h1, h2, by rw [htl]; exact hld, .inl ⟨_, rfl, by rw [htl]; omega⟩⟩⟩
        simp only [sliceT, Tryd.underlying22, Option.bind_some, sz_5, sliceExact, bnd, toN, Int.ofNat_eq_natCast, Nat.mul_one]
        simp [ble_eq', beq_eq', q, show hi ≤ n by omega]
    · rw [h2] at hb'; cases hb'
      refine ⟨.sl id off hi (.opn 1), ?_, .inr ⟨id, off, .opn 1, b, by rw [htl], h1, h2, by rw [htl]; exact hld, .inr ⟨rfl, b, h2, by rw [htl]; omega⟩⟩⟩
      simp only [sliceT, Tryd.underlying22, Option.bind_some, sz_5, capK, h2, bnd, toN, Int.ofNat_eq_natCast, Nat.mul_one]
      simp [ble_eq', beq_eq', blt_eq', show hi ≤ b.n - off by omega]

theorem appS_opn0 {X : H} {id n : Nat} {b : Blk} (hn : 0 < n) (hb : X.blk id = some b) (hro : b.ro = false) (hbn : b.n = n) (hr : n ≤ 1000000) : appS X 1 1 1 (.sl id 0 n (.opn 1)) 0 (some []) = some (.sl id 0 n (.opn 1), X.put id (.cells b)) := by
  unfold appS
  rw [lenC_sl, bind_some', bind_some']
  have hg : (Nat.blt 0 1 && Nat.ble ((n + 0) * 1) 70368744177664 && Nat.ble (n + 0) 70368744177664 && Nat.beq 1 1 && Nat.beq ([] : List CV).length (0 * 1) && ([] : List CV).all CV.one) = true := by
    simp [blt_eq', ble_eq', beq_eq']; omega
  rw [hg, cond_true]
  dsimp only
  rw [beq_eq', decide_eq_true rfl, cond_true, hb, bind_some', hro, cond_false, ble_eq', decide_eq_true (by rw [hbn]; omega), cond_true]
  rfl
theorem grow_any {β : Type} {Q : Option β → Prop} {h X : H} {v : CV} {ys ns : List Nat} {lid : Nat} {K : Out → Option β} (g : G h X v ys lid) (hr : ys.length + ns.length ≤ 1000000)
    (k : ∀ h' v' lid', G h h' v' (ys ++ ns) lid' → Q (K (.upd v' h'))) : Q (@thn _ β (uv (appS X 1 1 1 v ns.length (some (bc ns)))) ⟨K⟩) := by
  cases ns with
  | cons x ns => exact grow_step (Q := Q) g (by simp) hr fun h' v' _ G' _ => k h' v' _ G'
  | nil =>
    rw [show bc [] = [] from rfl, show ([] : List Nat).length = 0 from rfl]
    have hl := g.lst.len
    rw [bc_len, Nat.mul_one] at hl
    rcases g.lst.val with ⟨h0, rfl⟩ | ⟨h0, rfl, h1, b, hb, hro, hbn, hbg⟩
    · rw [appS_nils0 rfl (by decide)]
      exact k X .nils lid (by rw [List.append_nil]; exact g)
    · rw [Nat.mul_one] at hbn
      rw [appS_opn0 h0 hb hro hbn (by omega)]
      refine k _ _ lid ?_
      rw [List.append_nil]
      refine ⟨g.ge, ⟨g.lst.len, .inr ⟨h0, rfl, h1, b, put_blk_same _ _ _, hro, by rw [Nat.mul_one]; exact hbn, hbg⟩⟩, g.ext.put _ g.ge, ?_, g.bl⟩
      rw [put_low, g.low]
      have := g.bl
      have := g.ge
      omega

theorem meansLaw_run (hσ : ∀ f a h, σ f a h = none) {h : H} (g : HG h) {va vb : CV} {xs ys : List Nat} (A : BV h va xs) (B : BV h vb ys) (ha : ∀ b ∈ xs, b < 256) (hb : ∀ b ∈ ys, b < 256) (at_ : Int) :
    Tru ((lim Tryd.prog σ).call 6 [va, vb, .int .i64 at_] h) := by
  have hk : ∀ X, Ext h X → (lim Tryd.prog σ).call 9 [] X = some (.bool true, none) := fun X E => known_run hσ (g.ext E)
  rw [call_eq (hσ _ _ _) fn_6 rfl rfl, Tryd.ntmps6, Tryd.results6]
  by_cases ca : xs.length > 3000
  · have c1 : Int.ofNat xs.length > 3000 := by simp; omega
    simp only [go_sem, Nat.reduceLT, Nat.reduceLeDiff, Nat.reduceEqDiff, Nat.reduceAdd, Nat.reduceSub, Nat.reduceMul, reduceCtorEq, Int.reduceBEq, Int.reduceLT, Int.reduceLE, Int.reduceAdd, Int.reduceSub, Int.reduceEq, Int.reduceNeg, Int.reduceToNat, Int.reduceGT, Int.reduceGE, hk h.lo (Ext.lo h), A.len, B.len, c1]
    exact tru_fin _ _
  have c1 : ¬ Int.ofNat xs.length > 3000 := by simp; omega
  by_cases cb : ys.length > 3000
  · have c2 : Int.ofNat ys.length > 3000 := by simp; omega
    simp only [go_sem, Nat.reduceLT, Nat.reduceLeDiff, Nat.reduceEqDiff, Nat.reduceAdd, Nat.reduceSub, Nat.reduceMul, reduceCtorEq, Int.reduceBEq, Int.reduceLT, Int.reduceLE, Int.reduceAdd, Int.reduceSub, Int.reduceEq, Int.reduceNeg, Int.reduceToNat, Int.reduceGT, Int.reduceGE, hk h.lo (Ext.lo h), A.len, B.len, c1, c2]
    exact tru_fin _ _
  have c2 : ¬ Int.ofNat ys.length > 3000 := by simp; omega
  have sa : ∀ X, Ext h X → (lim Tryd.prog σ).call 7 [va] X = some (.agg (bc (digest xs)), none) := fun X E => sum_run hσ (A.ext E) (g.ext E) (by omega)
  have sb : ∀ X, Ext h X → (lim Tryd.prog σ).call 7 [vb] X = some (.agg (bc (digest ys)), none) := fun X E => sum_run hσ (B.ext E) (g.ext E) (by omega)
  have ta : ∀ X, Ext h X → (lim Tryd.prog σ).call 12 [va] X = some (w64 (shV (digest xs) 8), none) := fun X E => short_run hσ (A.ext E) (g.ext E) (by omega)
  have tb : ∀ X, Ext h X → (lim Tryd.prog σ).call 12 [vb] X = some (w64 (shV (digest ys) 8), none) := fun X E => short_run hσ (B.ext E) (g.ext E) (by omega)
  have hlx : (bc (digest xs)).length = 32 := bc_len _
  have hly : (bc (digest ys)).length = 32 := bc_len _
  simp only [go_sem, Nat.reduceLT, Nat.reduceLeDiff, Nat.reduceEqDiff, Nat.reduceAdd, Nat.reduceSub, Nat.reduceMul, reduceCtorEq, Int.reduceBEq, Int.reduceLT, Int.reduceLE, Int.reduceAdd, Int.reduceSub, Int.reduceEq, Int.reduceNeg, Int.reduceToNat, Int.reduceGT, Int.reduceGE, hk h.lo (Ext.lo h), A.len, B.len, c1, c2, sa h.lo (Ext.lo h), hlx]
  refine store_step (Q := Tru) (by rw [hlx, wnewBlk_n]; rfl) (bc_one _) fun bx hnx hrx hldx hgx => ?_
  obtain ⟨X, hX⟩ : ∃ X, X = (h.lo.alloc (.cells (newBlk [CV.int IntKind.u8 0, CV.int IntKind.u8 0, CV.int IntKind.u8 0, CV.int IntKind.u8 0, CV.int IntKind.u8 0, CV.int IntKind.u8 0, CV.int IntKind.u8 0, CV.int IntKind.u8 0, CV.int IntKind.u8 0, CV.int IntKind.u8 0, CV.int IntKind.u8 0, CV.int IntKind.u8 0, CV.int IntKind.u8 0, CV.int IntKind.u8 0, CV.int IntKind.u8 0, CV.int IntKind.u8 0, CV.int IntKind.u8 0, CV.int IntKind.u8 0, CV.int IntKind.u8 0, CV.int IntKind.u8 0, CV.int IntKind.u8 0, CV.int IntKind.u8 0, CV.int IntKind.u8 0, CV.int IntKind.u8 0, CV.int IntKind.u8 0, CV.int IntKind.u8 0, CV.int IntKind.u8 0, CV.int IntKind.u8 0, CV.int IntKind.u8 0, CV.int IntKind.u8 0, CV.int IntKind.u8 0, CV.int IntKind.u8 0]))).put h.nx (.cells bx) := ⟨_, rfl⟩
  have EX : Ext h X := by rw [hX]; exact ((Ext.lo h).alloc' _).put _ (Nat.le_refl _)
  have Xx : X.blk h.nx = some bx := by rw [hX]; exact put_blk_same _ _ _
  have Xn : X.nx = h.nx + 1 := by rw [hX]; rfl
  simp only [go_sem, Nat.reduceLT, Nat.reduceLeDiff, Nat.reduceEqDiff, Nat.reduceAdd, Nat.reduceSub, Nat.reduceMul, reduceCtorEq, Int.reduceBEq, Int.reduceLT, Int.reduceLE, Int.reduceAdd, Int.reduceSub, Int.reduceEq, Int.reduceNeg, Int.reduceToNat, Int.reduceGT, Int.reduceGE]
  rw [← hX]
  clear hX
  simp only [go_sem, Nat.reduceLT, Nat.reduceLeDiff, Nat.reduceEqDiff, Nat.reduceAdd, Nat.reduceSub, Nat.reduceMul, reduceCtorEq, Int.reduceBEq, Int.reduceLT, Int.reduceLE, Int.reduceAdd, Int.reduceSub, Int.reduceEq, Int.reduceNeg, Int.reduceToNat, Int.reduceGT, Int.reduceGE, sb X EX, hly]
  refine store_step (Q := Tru) (by rw [hly, wnewBlk_n]; rfl) (bc_one _) fun by_ hny hry hldy hgy => ?_
  obtain ⟨Y, hY⟩ : ∃ Y, Y = (X.alloc (.cells (newBlk [CV.int IntKind.u8 0, CV.int IntKind.u8 0, CV.int IntKind.u8 0, CV.int IntKind.u8 0, CV.int IntKind.u8 0, CV.int IntKind.u8 0, CV.int IntKind.u8 0, CV.int IntKind.u8 0, CV.int IntKind.u8 0, CV.int IntKind.u8 0, CV.int IntKind.u8 0, CV.int IntKind.u8 0, CV.int IntKind.u8 0, CV.int IntKind.u8 0, CV.int IntKind.u8 0, CV.int IntKind.u8 0, CV.int IntKind.u8 0, CV.int IntKind.u8 0, CV.int IntKind.u8 0, CV.int IntKind.u8 0, CV.int IntKind.u8 0, CV.int IntKind.u8 0, CV.int IntKind.u8 0, CV.int IntKind.u8 0, CV.int IntKind.u8 0, CV.int IntKind.u8 0, CV.int IntKind.u8 0, CV.int IntKind.u8 0, CV.int IntKind.u8 0, CV.int IntKind.u8 0, CV.int IntKind.u8 0, CV.int IntKind.u8 0]))).put X.nx (.cells by_) := ⟨_, rfl⟩
  have EXY : Ext X Y := by rw [hY]; exact (Ext.alloc _ _).put _ (Nat.le_refl _)
  have EY : Ext h Y := EX.trans EXY
  have Yy : Y.blk (h.nx + 1) = some by_ := by rw [hY, ← Xn]; exact put_blk_same _ _ _
  have Yx : Y.blk h.nx = some bx := (EXY.blk (by omega)).trans Xx
  have Ylow : Y.low ≤ Y.nx := by rw [hY]; simp only [go_sem, Nat.reduceLT, Nat.reduceLeDiff, Nat.reduceEqDiff, Nat.reduceAdd, Nat.reduceSub, Nat.reduceMul, reduceCtorEq, Int.reduceBEq, Int.reduceLT, Int.reduceLE, Int.reduceAdd, Int.reduceSub, Int.reduceEq, Int.reduceNeg, Int.reduceToNat, Int.reduceGT, Int.reduceGE]; omega
  simp only [go_sem, Nat.reduceLT, Nat.reduceLeDiff, Nat.reduceEqDiff, Nat.reduceAdd, Nat.reduceSub, Nat.reduceMul, reduceCtorEq, Int.reduceBEq, Int.reduceLT, Int.reduceLE, Int.reduceAdd, Int.reduceSub, Int.reduceEq, Int.reduceNeg, Int.reduceToNat, Int.reduceGT, Int.reduceGE]
  rw [← hY]
  clear hY
  have ldx : bx.loadN 0 32 = some (bc (digest xs)) := by rw [wnewBlk_n] at hldx; exact hldx
  have ldy : by_.loadN 0 32 = some (bc (digest ys)) := by rw [wnewBlk_n] at hldy; exact hldy
  have n1 := fun xo yo => ne32 xo yo (digest xs) (digest xs) (digest_len _) (digest_len _)
  have n2 := fun xo yo => ne32 xo yo (digest xs) (digest ys) (digest_len _) (digest_len _)
  have n3 := fun xo yo => eq32 xo yo (digest xs) (digest ys) (digest_len _) (digest_len _)
  have e1 := sa Y EY
  have e2 := ta Y EY
  have e3 := tb Y EY
  have cx := (A.ext EY).str ha
  have cy := (B.ext EY).str hb
  -- what is asked of the hashes
  have mid : ∀ b1 b2 b3 : Bool, b1 = decide (xs = ys) → b2 = decide (digest xs = digest ys) → b3 = decide (shV (digest xs) 8 = shV (digest ys) 8) → (b1 = true → b2 = true) ∧ (b2 = true → b3 = true) := by
    rintro b1 b2 b3 rfl rfl rfl
    simp only [decide_eq_true_eq]
    exact ⟨fun h => by rw [h], fun h => by rw [h]⟩
  obtain ⟨b1, hb1⟩ : ∃ b1, b1 = decide (xs = ys) := ⟨_, rfl⟩
  obtain ⟨b2, hb2⟩ : ∃ b2, b2 = decide (digest xs = digest ys) := ⟨_, rfl⟩
  obtain ⟨b3, hb3⟩ : ∃ b3, b3 = decide (shV (digest xs) 8 = shV (digest ys) 8) := ⟨_, rfl⟩
  obtain ⟨m1, m2⟩ := mid b1 b2 b3 hb1 hb2 hb3
  have s1 : ∀ t xo yo, binT Tryd.prog .eql t xo yo (.str xs) (.str ys) = some (.bool b1) := fun t xo yo => by
    rw [bin_seq, hb1]; congr 2
    by_cases q : xs = ys
    · simp [q]
    · simp [q]
  have s2 : ∀ t xo yo, binT Tryd.prog .neq t xo yo (w64 (shV (digest xs) 8)) (w64 (shV (digest ys) 8)) = some (.bool (!b3)) := fun t xo yo => by rw [wne64, hb3]
  rw [← hb2] at n2 n3
  clear hb1 hb2 hb3
  refine cnd_go (Q := Tru) (by kernel_rfl) ?_
  -- behind the first question
  have len_a : ∀ (X : H) ts az, builtinT Tryd.prog X .len (22 :: ts) (va :: az) = some (.val (.int .i64 (Int.ofNat xs.length))) := fun X ts az => A.len X ts az
  cases b1 <;> cases b2 <;> cases b3 <;> first | (exfalso; simp at m1 m2; done) | skip
  all_goals
    simp only [go_sem, Nat.reduceLT, Nat.reduceLeDiff, Nat.reduceEqDiff, Nat.reduceAdd, Nat.reduceSub, Nat.reduceMul, reduceCtorEq, Int.reduceBEq, Int.reduceLT, Int.reduceLE, Int.reduceAdd, Int.reduceSub, Int.reduceEq, Int.reduceNeg, Int.reduceToNat, Int.reduceGT, Int.reduceGE, e1, e2, e3, cx, cy, Yx, Yy, Xn, ldx, ldy, n1, n2, n3, s1, s2]
    by_cases k1 : at_ < 0
    · simp only [go_sem, Nat.reduceLT, Nat.reduceLeDiff, Nat.reduceEqDiff, Nat.reduceAdd, Nat.reduceSub, Nat.reduceMul, reduceCtorEq, Int.reduceBEq, Int.reduceLT, Int.reduceLE, Int.reduceAdd, Int.reduceSub, Int.reduceEq, Int.reduceNeg, Int.reduceToNat, Int.reduceGT, Int.reduceGE, k1]
      exact tru_fin _ _
    obtain ⟨n, rfl⟩ : ∃ n : Nat, at_ = Int.ofNat n := ⟨at_.toNat, by simp; omega⟩
    by_cases k2 : n > xs.length
    · have k3 : Int.ofNat n > Int.ofNat xs.length := Int.ofNat_lt.2 k2
      simp only [go_sem, Nat.reduceLT, Nat.reduceLeDiff, Nat.reduceEqDiff, Nat.reduceAdd, Nat.reduceSub, Nat.reduceMul, reduceCtorEq, Int.reduceBEq, Int.reduceLT, Int.reduceLE, Int.reduceAdd, Int.reduceSub, Int.reduceEq, Int.reduceNeg, Int.reduceToNat, Int.reduceGT, Int.reduceGE, k1, k3, len_a]
      exact tru_fin _ _
    have k3 : ¬ Int.ofNat n > Int.ofNat xs.length := fun q => k2 (Int.ofNat_lt.1 q)
    obtain ⟨vt, et, BT⟩ := (A.ext EY).take (hi := n) (by omega)
    have htl : (xs.take n).length = n := by rw [List.length_take]; omega
    simp only [go_sem, Nat.reduceLT, Nat.reduceLeDiff, Nat.reduceEqDiff, Nat.reduceAdd, Nat.reduceSub, Nat.reduceMul, reduceCtorEq, Int.reduceBEq, Int.reduceLT, Int.reduceLE, Int.reduceAdd, Int.reduceSub, Int.reduceEq, Int.reduceNeg, Int.reduceToNat, Int.reduceGT, Int.reduceGE, k1, k3, len_a, et, BT.app]
    refine copy_step (Q := Tru) (xs := xs.take n) (by omega) fun v1 h1 L1 E1 hlow1 hnx1 hval1 => ?_
    have G1 : G Y h1 v1 (xs.take n) Y.nx := ⟨Nat.le_refl _, L1, E1, hlow1, Ylow⟩
    simp only [go_sem, Nat.reduceLT, Nat.reduceLeDiff, Nat.reduceEqDiff, Nat.reduceAdd, Nat.reduceSub, Nat.reduceMul, reduceCtorEq, Int.reduceBEq, Int.reduceLT, Int.reduceLE, Int.reduceAdd, Int.reduceSub, Int.reduceEq, Int.reduceNeg, Int.reduceToNat, Int.reduceGT, Int.reduceGE, (B.ext (EY.trans E1)).app]
    refine grow_any (Q := Tru) (ns := ys) G1 (by omega) fun h2 v2 lid2 G2 => ?_
    have E2 : Ext h h2 := EY.trans G2.ext
    obtain ⟨w1, f1, W1⟩ := G2.bv.take (hi := n) (by rw [List.length_append]; omega)
    obtain ⟨w2, f2, W2⟩ := (A.ext E2).take (hi := n) (by omega)
    obtain ⟨w3, f3, W3⟩ := G2.bv.drop (lo := n) (by rw [List.length_append]; omega)
    rw [List.take_append_of_le_length (by omega), List.take_of_length_le (by omega)] at W1
    rw [List.drop_append_of_le_length (by omega), List.drop_of_length_le (by omega), List.nil_append] at W3
    have u1 : (lim Tryd.prog σ).call 7 [w1] h2 = some (.agg (bc (digest (xs.take n))), none) := sum_run hσ W1 (g.ext E2) (by omega)
    have u2 : (lim Tryd.prog σ).call 7 [w2] h2 = some (.agg (bc (digest (xs.take n))), none) := sum_run hσ W2 (g.ext E2) (by omega)
    have u3 := fun xo yo => eq32 xo yo (digest (xs.take n)) (digest (xs.take n)) (digest_len _) (digest_len _)
    have u4 := W3.str hb
    have u5 := (B.ext E2).str hb
    simp only [go_sem, Nat.reduceLT, Nat.reduceLeDiff, Nat.reduceEqDiff, Nat.reduceAdd, Nat.reduceSub, Nat.reduceMul, reduceCtorEq, Int.reduceBEq, Int.reduceLT, Int.reduceLE, Int.reduceAdd, Int.reduceSub, Int.reduceEq, Int.reduceNeg, Int.reduceToNat, Int.reduceGT, Int.reduceGE, f1, f2, f3, u1, u2, u3, u4, u5, seq_self]
    refine cnd_go (Q := Tru) (by kernel_rfl) ?_
    simp only [go_sem, Nat.reduceLT, Nat.reduceLeDiff, Nat.reduceEqDiff, Nat.reduceAdd, Nat.reduceSub, Nat.reduceMul, reduceCtorEq, Int.reduceBEq, Int.reduceLT, Int.reduceLE, Int.reduceAdd, Int.reduceSub, Int.reduceEq, Int.reduceNeg, Int.reduceToNat, Int.reduceGT, Int.reduceGE, f1, f2, f3, u1, u2, u3, u4, u5, seq_self]
    exact tru_fin _ _
end Go.Cl.Sh

namespace Go.Cl.Sh
theorem cellsOf_u8 : Tryd.prog.cellsOf 5 = 1 := by kernel_rfl
theorem bv_of {h : H} {c : CV} (a : Arg Tryd.prog h 22 c) : ∃ xs : List Nat, BV h c xs ∧ ∀ b ∈ xs, b < 256 := by
  have h1 : c.one = true := by rcases a.one with ⟨_, h⟩ | ⟨_, _, h⟩ | h; rw [Tryd.underlying22] at h; cases h; rw [Tryd.underlying22] at h; cases h; exact h
  have r := a.rd
  rw [cells_one h1] at r
  generalize hcs : [c] = cs at r
  cases r with
  | nils ht => simp at hcs; subst hcs; exact ⟨[], .inl ⟨rfl, .inl rfl⟩, by simp⟩
  | sl0 id ht hid => simp at hcs; subst hcs; exact ⟨[], .inl ⟨rfl, .inr (.inl ⟨id, 0, 0, 0, rfl⟩)⟩, by simp⟩
  | sl id len cap b xs ht hid hl hcap hb hro hxl hxg hx =>
    simp at hcs; subst hcs
    rw [Tryd.underlying22] at ht; cases ht
    rw [cellsOf_u8] at hxl hxg
    obtain ⟨l, hll, hq⟩ := list_of (Q := fun i (m : Nat) => xs i = [.int .u8 (Int.ofNat m)] ∧ m < 256) len fun i hi => by
      obtain ⟨m, e, h1, h2⟩ := (hx i hi).int_inv Tryd.underlying5
      have h1 : 0 ≤ m := h1
      have h2 : m ≤ 255 := h2
      exact ⟨m.toNat, by rw [e]; congr 2; simp; omega, by omega⟩
    refine ⟨l, .inr ⟨id, 0, _, b, by rw [hll], hid, hb, loadN_of _ _ _ (bc_len _) fun i v hv => ?_, .inl ⟨_, rfl, by omega⟩⟩, fun b hb => ?_⟩
    · have hi := nlt hv
      rw [bc_len, hll] at hi
      obtain ⟨m, hm⟩ : ∃ m, l[i]? = some m := ⟨_, List.getElem?_eq_getElem (by omega)⟩
      have e := (hq i m hm).1
      have := hxg i 0 (.int .u8 (Int.ofNat m)) hi (by rw [e]; rfl)
      rw [Nat.zero_add]
      rw [nth_eq] at hv
      simp [bc, hm] at hv
      rw [← hv]
      simpa [u8] using this
    · obtain ⟨i, hi, rfl⟩ := List.getElem_of_mem hb
      exact (hq i _ (List.getElem?_eq_getElem hi)).2
  | _ => simp_all
def startV : List Int := [1779033703, 3144134277, 1013904242, 2773480762, 1359893119, 2600822924, 528734635, 1541459225]
theorem HG.tab (h : (tabH .u32 startV).blk 0 = some (tabB .u32 startV)) : HG (tabH .u32 startV) := ⟨by decide, by decide, _, h, tab_load .u32 startV⟩
end Go.Cl.Sh
