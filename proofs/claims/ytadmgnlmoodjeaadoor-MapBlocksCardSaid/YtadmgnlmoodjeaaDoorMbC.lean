/- The program's functions, run by the rewriting evaluator: what each answers and leaves (MbC). -/
import Derived.Test.YtadmgnlmoodjeaaDoorMbB
set_option linter.all false
open Go Go.Cl Go.Proofs
namespace Go.Cl.Sh
variable {σ : Sums}
set_option maxRecDepth 1000000

theorem cv341 (h) (n : Nat) : convT Tryd.prog h 3 92 (.int .i64 (Int.ofNat n)) = some (.val (w64 (BitVec.ofNat 64 n))) := by
  rw [← w64_of]; exact cv_3_92 h .i64 _
theorem cv315 (h x) : convT Tryd.prog h 23 5 (w64 x) = some (.val (u8 (x.toNat % 256))) := by
  unfold u8; rw [← wrapU8]; exact cv_23_5 h .u64 _
theorem quo4i {n : Nat} (h : n < 1000000000) : ∀ t xo yo, binT Tryd.prog .quo t xo yo (.int .i64 (Int.ofNat n)) (.int .i64 4) = some (.int .i64 (Int.ofNat (n / 4))) := fun t xo yo => by
  rw [bin_quo]
  show some (CV.int .i64 (IntKind.wrap .i64 (Int.ofNat (n / 4)))) = _
  rw [wrap_n rfl (by omega)]
theorem rem4i {n : Nat} : ∀ t xo yo, binT Tryd.prog .rem t xo yo (.int .i64 (Int.ofNat n)) (.int .i64 4) = some (.int .i64 (Int.ofNat (n % 4))) := fun _ _ _ => rfl
theorem rsum_run (hσ : ∀ f a h, W.told f = false → σ f a h = none) {h : H} {v : CV} {xs : List Nat} (B : BV h v xs) (hx : xs.length ≤ 100000) (h256 : ∀ b ∈ xs, b < 256) : RetQ h (.agg (bc (rdigest xs))) ((lim Tryd.prog σ).call 76 [v] h) := by
  obtain ⟨Q, hQ⟩ : ∃ Q, Q = RetQ h (.agg (bc (rdigest xs))) := ⟨_, rfl⟩
  rw [← hQ]
  rw [call_eq (hσ _ _ _ (by decide)) fn_76 rfl rfl, Tryd.ntmps76, Tryd.results76]
  simp only [go_sem, Nat.reduceLT, Nat.reduceLeDiff, Nat.reduceEqDiff, Nat.reduceAdd, Nat.reduceSub, Nat.reduceMul, reduceCtorEq, Int.reduceBEq, Int.reduceLT, Int.reduceLE, Int.reduceAdd, Int.reduceSub, Int.reduceEq, Int.reduceNeg, Int.reduceToNat, Int.reduceGT, Int.reduceGE]
  obtain ⟨ob, hob⟩ : ∃ ob, ob = newBlk [CV.int IntKind.u8 0, CV.int IntKind.u8 0, CV.int IntKind.u8 0, CV.int IntKind.u8 0, CV.int IntKind.u8 0, CV.int IntKind.u8 0, CV.int IntKind.u8 0, CV.int IntKind.u8 0, CV.int IntKind.u8 0, CV.int IntKind.u8 0, CV.int IntKind.u8 0, CV.int IntKind.u8 0, CV.int IntKind.u8 0, CV.int IntKind.u8 0, CV.int IntKind.u8 0, CV.int IntKind.u8 0, CV.int IntKind.u8 0, CV.int IntKind.u8 0, CV.int IntKind.u8 0, CV.int IntKind.u8 0, CV.int IntKind.u8 0, CV.int IntKind.u8 0, CV.int IntKind.u8 0, CV.int IntKind.u8 0, CV.int IntKind.u8 0, CV.int IntKind.u8 0, CV.int IntKind.u8 0, CV.int IntKind.u8 0, CV.int IntKind.u8 0, CV.int IntKind.u8 0, CV.int IntKind.u8 0, CV.int IntKind.u8 0] := ⟨_, rfl⟩
  have on : ob.n = 32 := by rw [hob, wnewBlk_n]; rfl
  have ow : ob.ro = false := by rw [hob, newBlk_ro]
  rw [← hob]
  clear hob
  obtain ⟨X, hX⟩ : ∃ X, X = h.lo.alloc (.cells ob) := ⟨_, rfl⟩
  have Xnx : X.nx = h.nx + 1 := by rw [hX]; rfl
  have Xlow : X.low = h.nx := by rw [hX]; rfl
  have XE : Ext h X := by rw [hX]; exact (Ext.lo h).alloc' _
  have Xo : X.blk h.nx = some ob := by rw [hX]; exact alloc_blk_same _ _ _ rfl
  rw [← hX]
  clear hX
  have BX := B.ext XE
  simp only [BX.app]
  refine copy_step (Q := Q) (xs := xs) (by omega) fun v1 h1 L1 E1 hlow1 hnx1 hval1 => ?_
  clear hval1
  have G1 : G X h1 v1 xs X.nx := ⟨Nat.le_refl _, L1, E1, hlow1, by omega⟩
  clear L1 E1 hlow1 hnx1
  simp only [go_sem, Nat.reduceLT, Nat.reduceLeDiff, Nat.reduceEqDiff, Nat.reduceAdd, Nat.reduceSub, Nat.reduceMul, reduceCtorEq, Int.reduceBEq, Int.reduceLT, Int.reduceLE, Int.reduceAdd, Int.reduceSub, Int.reduceEq, Int.reduceNeg, Int.reduceToNat, Int.reduceGT, Int.reduceGE]
  have G2 := G1.alloc (.cells ({ n := 1, d := [CV.int IntKind.u8 0], t := T.nil, ro := false : Blk }.st 0 (CV.int IntKind.u8 128)))
  refine grow_step (Q := Q) (ns := [128]) G2 (by decide) (by simp; omega) fun h2 v2 hv2 G3 hlt => ?_
  simp only [go_sem, Nat.reduceLT, Nat.reduceLeDiff, Nat.reduceEqDiff, Nat.reduceAdd, Nat.reduceSub, Nat.reduceMul, reduceCtorEq, Int.reduceBEq, Int.reduceLT, Int.reduceLE, Int.reduceAdd, Int.reduceSub, Int.reduceEq, Int.reduceNeg, Int.reduceToNat, Int.reduceGT, Int.reduceGE]
  have hz : ∀ i, (xs ++ [128] ++ zs i).length = xs.length + 1 + i := fun i => by simp [zs]; omega
  refine loop_ind (Q := Q) (fun i env h' => evT env 0 = v ∧ evT env 2 = .ptr h.nx 0 ∧ ∃ lid, G X h' (evT env 3) (xs ++ [128] ++ zs i) lid) (zn xs.length) 0 ?_ (Nat.zero_le _) ?_ ?_
  · have G3' : ∃ lid, G X h2 v2 (xs ++ [128] ++ zs 0) lid := ⟨_, by rw [show zs 0 = [] from rfl, List.append_nil]; exact G3⟩
    obtain ⟨lid, G3'⟩ := G3'
    exact ⟨by simp only [go_sem, Nat.reduceLT, Nat.reduceLeDiff, Nat.reduceEqDiff, Nat.reduceAdd, Nat.reduceSub, Nat.reduceMul, reduceCtorEq, Int.reduceBEq, Int.reduceLT, Int.reduceLE, Int.reduceAdd, Int.reduceSub, Int.reduceEq, Int.reduceNeg, Int.reduceToNat, Int.reduceGT, Int.reduceGE], by simp only [go_sem, Nat.reduceLT, Nat.reduceLeDiff, Nat.reduceEqDiff, Nat.reduceAdd, Nat.reduceSub, Nat.reduceMul, reduceCtorEq, Int.reduceBEq, Int.reduceLT, Int.reduceLE, Int.reduceAdd, Int.reduceSub, Int.reduceEq, Int.reduceNeg, Int.reduceToNat, Int.reduceGT, Int.reduceGE], lid, by simp only [go_sem, Nat.reduceLT, Nat.reduceLeDiff, Nat.reduceEqDiff, Nat.reduceAdd, Nat.reduceSub, Nat.reduceMul, reduceCtorEq, Int.reduceBEq, Int.reduceLT, Int.reduceLE, Int.reduceAdd, Int.reduceSub, Int.reduceEq, Int.reduceNeg, Int.reduceToNat, Int.reduceGT, Int.reduceGE]; exact G3'⟩
  · rintro i env h' ⟨e0, e2, lid, G4⟩ hi next
    have hzn : zn xs.length < 64 := Nat.mod_lt _ (by decide)
    have c1 : ¬ Int.ofNat ((xs.length + 1 + i) % 64) = 56 := by
      unfold zn at hi hzn
      intro q
      have : (xs.length + 1 + i) % 64 = 56 := Int.ofNat.inj q
      omega
    simp only [go_sem, Nat.reduceLT, Nat.reduceLeDiff, Nat.reduceEqDiff, Nat.reduceAdd, Nat.reduceSub, Nat.reduceMul, reduceCtorEq, Int.reduceBEq, Int.reduceLT, Int.reduceLE, Int.reduceAdd, Int.reduceSub, Int.reduceEq, Int.reduceNeg, Int.reduceToNat, Int.reduceGT, Int.reduceGE, e0, e2, G4.bv.len, hz, rem64i, c1]
    have G5 := G4.alloc (.cells ({ n := 1, d := [CV.int IntKind.u8 0], t := T.nil, ro := false : Blk }.st 0 (CV.int IntKind.u8 0)))
    refine grow_step (Q := Q) (ns := [0]) G5 (by decide) (by rw [hz]; simp; omega) fun h2 v2 hv2 G6 hlt => ?_
    simp only [go_sem, Nat.reduceLT, Nat.reduceLeDiff, Nat.reduceEqDiff, Nat.reduceAdd, Nat.reduceSub, Nat.reduceMul, reduceCtorEq, Int.reduceBEq, Int.reduceLT, Int.reduceLE, Int.reduceAdd, Int.reduceSub, Int.reduceEq, Int.reduceNeg, Int.reduceToNat, Int.reduceGT, Int.reduceGE]
    rw [show xs ++ [128] ++ zs i ++ [0] = xs ++ [128] ++ zs (i + 1) by simp [zs, List.replicate_succ']] at G6
    exact next _ _ ⟨by simp only [go_sem, Nat.reduceLT, Nat.reduceLeDiff, Nat.reduceEqDiff, Nat.reduceAdd, Nat.reduceSub, Nat.reduceMul, reduceCtorEq, Int.reduceBEq, Int.reduceLT, Int.reduceLE, Int.reduceAdd, Int.reduceSub, Int.reduceEq, Int.reduceNeg, Int.reduceToNat, Int.reduceGT, Int.reduceGE, e0], by simp only [go_sem, Nat.reduceLT, Nat.reduceLeDiff, Nat.reduceEqDiff, Nat.reduceAdd, Nat.reduceSub, Nat.reduceMul, reduceCtorEq, Int.reduceBEq, Int.reduceLT, Int.reduceLE, Int.reduceAdd, Int.reduceSub, Int.reduceEq, Int.reduceNeg, Int.reduceToNat, Int.reduceGT, Int.reduceGE, e2], _, by simp only [go_sem, Nat.reduceLT, Nat.reduceLeDiff, Nat.reduceEqDiff, Nat.reduceAdd, Nat.reduceSub, Nat.reduceMul, reduceCtorEq, Int.reduceBEq, Int.reduceLT, Int.reduceLE, Int.reduceAdd, Int.reduceSub, Int.reduceEq, Int.reduceNeg, Int.reduceToNat, Int.reduceGT, Int.reduceGE]; exact G6⟩
  clear G1 G2 G3 hlt hv2 v2 h2 h1 v1
  rintro env h' ⟨e0, e2, lid, G4⟩
  have hzn : zn xs.length < 64 := Nat.mod_lt _ (by decide)
  have c1 : Int.ofNat ((xs.length + 1 + zn xs.length) % 64) = 56 := by
    have : (xs.length + 1 + zn xs.length) % 64 = 56 := by unfold zn; omega
    rw [this]; rfl
  have l8 : CV.int .u64 8 = w64 (BitVec.ofNat 64 8) := rfl
  have ecnt : BitVec.ofNat 64 xs.length * BitVec.ofNat 64 8 = cnt xs.length := rfl
  simp only [go_sem, Nat.reduceLT, Nat.reduceLeDiff, Nat.reduceEqDiff, Nat.reduceAdd, Nat.reduceSub, Nat.reduceMul, reduceCtorEq, Int.reduceBEq, Int.reduceLT, Int.reduceLE, Int.reduceAdd, Int.reduceSub, Int.reduceEq, Int.reduceNeg, Int.reduceToNat, Int.reduceGT, Int.reduceGE, wadd32, wmul32, wadd64, wmul64, wand32, wor32, wxor32, wand64, wor64, wnot32, wsub32, wsub64, wshr32l, wshl32l, wshr64l, wshl64l, wshr32w, wshl32w, wshr64w, wlt64, wgt64, weq64, wne64, e0, e2, G4.bv.len, hz, rem64i, c1, cv331, l8, B.len, ecnt]
  refine loop_ind (Q := Q) (fun i env h' => evT env 2 = .ptr h.nx 0 ∧ evT env 4 = w64 (cnt xs.length) ∧ evT env 5 = .int .i64 (7 - Int.ofNat i) ∧ ∃ lid, G X h' (evT env 3) (xs ++ [128] ++ zs (zn xs.length) ++ be8 (cnt xs.length) i) lid) 8 0 ?_ (by decide) ?_ ?_
  · exact ⟨by simp only [go_sem, Nat.reduceLT, Nat.reduceLeDiff, Nat.reduceEqDiff, Nat.reduceAdd, Nat.reduceSub, Nat.reduceMul, reduceCtorEq, Int.reduceBEq, Int.reduceLT, Int.reduceLE, Int.reduceAdd, Int.reduceSub, Int.reduceEq, Int.reduceNeg, Int.reduceToNat, Int.reduceGT, Int.reduceGE, e2], by simp only [go_sem, Nat.reduceLT, Nat.reduceLeDiff, Nat.reduceEqDiff, Nat.reduceAdd, Nat.reduceSub, Nat.reduceMul, reduceCtorEq, Int.reduceBEq, Int.reduceLT, Int.reduceLE, Int.reduceAdd, Int.reduceSub, Int.reduceEq, Int.reduceNeg, Int.reduceToNat, Int.reduceGT, Int.reduceGE], by simp only [go_sem, Nat.reduceLT, Nat.reduceLeDiff, Nat.reduceEqDiff, Nat.reduceAdd, Nat.reduceSub, Nat.reduceMul, reduceCtorEq, Int.reduceBEq, Int.reduceLT, Int.reduceLE, Int.reduceAdd, Int.reduceSub, Int.reduceEq, Int.reduceNeg, Int.reduceToNat, Int.reduceGT, Int.reduceGE]; rfl, lid, by simp only [go_sem, Nat.reduceLT, Nat.reduceLeDiff, Nat.reduceEqDiff, Nat.reduceAdd, Nat.reduceSub, Nat.reduceMul, reduceCtorEq, Int.reduceBEq, Int.reduceLT, Int.reduceLE, Int.reduceAdd, Int.reduceSub, Int.reduceEq, Int.reduceNeg, Int.reduceToNat, Int.reduceGT, Int.reduceGE, be8]; exact G4⟩
  · clear e0 e2 G4 c1 lid env h'
    rintro i env h' ⟨e2, e4, e5, lid, G4⟩ hi next
    obtain ⟨j, hj⟩ : ∃ j, 7 - i = j := ⟨_, rfl⟩
    have e5' : evT env 5 = .int .i64 (Int.ofNat j) := by rw [e5]; congr 1; simp; omega
    have c1 : Int.ofNat j ≥ 0 := Int.natCast_nonneg _
    have c3 : IntKind.wrap .i64 (Int.ofNat j - 1) = 7 - Int.ofNat (i + 1) := by
      rw [wrap_i64 (by simp; omega) (by simp; omega)]; simp; omega
    have w1 : IntKind.wrap .i64 (8 * Int.ofNat j) = Int.ofNat (8 * j) := wrap_n (by simp) (by omega)
    have ht : (BitVec.ofNat 64 (8 * j)).toNat = 8 * j := by simp; omega
    simp only [go_sem, Nat.reduceLT, Nat.reduceLeDiff, Nat.reduceEqDiff, Nat.reduceAdd, Nat.reduceSub, Nat.reduceMul, reduceCtorEq, Int.reduceBEq, Int.reduceLT, Int.reduceLE, Int.reduceAdd, Int.reduceSub, Int.reduceEq, Int.reduceNeg, Int.reduceToNat, Int.reduceGT, Int.reduceGE, wadd32, wmul32, wadd64, wmul64, wand32, wor32, wxor32, wand64, wor64, wnot32, wsub32, wsub64, wshr32l, wshl32l, wshr64l, wshl64l, wshr32w, wshl32w, wshr64w, wlt64, wgt64, weq64, wne64, e2, e4, e5', c1, c3, w1, cv341, ht, cv315]
    have G5 := G4.alloc (.cells ({ n := 1, d := [CV.int IntKind.u8 0], t := T.nil, ro := false : Blk }.st 0 (u8 ((cnt xs.length >>> (8 * j)).toNat % 256))))
    refine grow_step (Q := Q) (ns := [(cnt xs.length >>> (8 * j)).toNat % 256]) G5 (Nat.zero_lt_one) (by rw [List.length_append, hz, be8_len]; simp; omega) fun h2 v2 hv2 G6 hlt => ?_
    simp only [go_sem, Nat.reduceLT, Nat.reduceLeDiff, Nat.reduceEqDiff, Nat.reduceAdd, Nat.reduceSub, Nat.reduceMul, reduceCtorEq, Int.reduceBEq, Int.reduceLT, Int.reduceLE, Int.reduceAdd, Int.reduceSub, Int.reduceEq, Int.reduceNeg, Int.reduceToNat, Int.reduceGT, Int.reduceGE, e5', c3]
    rw [List.append_assoc, show be8 (cnt xs.length) i ++ [(cnt xs.length >>> (8 * j)).toNat % 256] = be8 (cnt xs.length) (i + 1) by rw [← hj]; rfl] at G6
    exact next _ _ ⟨by simp only [go_sem, Nat.reduceLT, Nat.reduceLeDiff, Nat.reduceEqDiff, Nat.reduceAdd, Nat.reduceSub, Nat.reduceMul, reduceCtorEq, Int.reduceBEq, Int.reduceLT, Int.reduceLE, Int.reduceAdd, Int.reduceSub, Int.reduceEq, Int.reduceNeg, Int.reduceToNat, Int.reduceGT, Int.reduceGE, e2], by simp only [go_sem, Nat.reduceLT, Nat.reduceLeDiff, Nat.reduceEqDiff, Nat.reduceAdd, Nat.reduceSub, Nat.reduceMul, reduceCtorEq, Int.reduceBEq, Int.reduceLT, Int.reduceLE, Int.reduceAdd, Int.reduceSub, Int.reduceEq, Int.reduceNeg, Int.reduceToNat, Int.reduceGT, Int.reduceGE, e4], by simp only [go_sem, Nat.reduceLT, Nat.reduceLeDiff, Nat.reduceEqDiff, Nat.reduceAdd, Nat.reduceSub, Nat.reduceMul, reduceCtorEq, Int.reduceBEq, Int.reduceLT, Int.reduceLE, Int.reduceAdd, Int.reduceSub, Int.reduceEq, Int.reduceNeg, Int.reduceToNat, Int.reduceGT, Int.reduceGE], _, by simp only [go_sem, Nat.reduceLT, Nat.reduceLeDiff, Nat.reduceEqDiff, Nat.reduceAdd, Nat.reduceSub, Nat.reduceMul, reduceCtorEq, Int.reduceBEq, Int.reduceLT, Int.reduceLE, Int.reduceAdd, Int.reduceSub, Int.reduceEq, Int.reduceNeg, Int.reduceToNat, Int.reduceGT, Int.reduceGE]; exact G6⟩
  clear e0 e2 G4 c1 lid env h'
  rintro env h' ⟨e2, e4, e5, lid, G4⟩
  have e5' : evT env 5 = .int .i64 (-1) := by rw [e5]; rfl
  obtain ⟨ys, hys⟩ : ∃ ys, ys = fullL xs := ⟨_, rfl⟩
  have hys' : xs ++ [128] ++ zs (zn xs.length) ++ be8 (cnt xs.length) 8 = ys := by rw [hys]; rfl
  rw [hys'] at G4
  obtain ⟨hf1, hf2, hf3⟩ := fullL_len xs
  rw [← hys] at hf1 hf2 hf3
  obtain ⟨w, hw⟩ : ∃ w, w = evT env 3 := ⟨_, rfl⟩
  have hw' : evT env 3 = w := hw.symm
  rw [hw'] at G4
  have BY := G4.bv
  have XE2 : Ext h h' := XE.trans G4.ext
  have hlow : h'.low = h.nx := G4.low.trans Xlow
  have hnx : h.nx < h'.nx := by have := G4.ext.nx; omega
  have hout : h'.blk h.nx = some ob := (G4.ext.blk (by omega)).trans Xo
  clear G4 hys' e5 hw
  simp only [go_sem, Nat.reduceLT, Nat.reduceLeDiff, Nat.reduceEqDiff, Nat.reduceAdd, Nat.reduceSub, Nat.reduceMul, reduceCtorEq, Int.reduceBEq, Int.reduceLT, Int.reduceLE, Int.reduceAdd, Int.reduceSub, Int.reduceEq, Int.reduceNeg, Int.reduceToNat, Int.reduceGT, Int.reduceGE, wadd32, wmul32, wadd64, wmul64, wand32, wor32, wxor32, wand64, wor64, wnot32, wsub32, wsub64, wshr32l, wshl32l, wshr64l, wshl64l, wshr32w, wshl32w, wshr64w, wlt64, wgt64, weq64, wne64, e2, e4, e5', hw', BY.len]
  refine store_step (Q := Q) (by rw [wnewBlk_n]; rfl) rfl fun b1 hn1 hr1 hl1 hg1 => ?_
  simp only [go_sem, Nat.reduceLT, Nat.reduceLeDiff, Nat.reduceEqDiff, Nat.reduceAdd, Nat.reduceSub, Nat.reduceMul, reduceCtorEq, Int.reduceBEq, Int.reduceLT, Int.reduceLE, Int.reduceAdd, Int.reduceSub, Int.reduceEq, Int.reduceNeg, Int.reduceToNat, Int.reduceGT, Int.reduceGE, wadd32, wmul32, wadd64, wmul64, wand32, wor32, wxor32, wand64, wor64, wnot32, wsub32, wsub64, wshr32l, wshl32l, wshr64l, wshl64l, wshr32w, wshl32w, wshr64w, wlt64, wgt64, weq64, wne64, e2, e4, e5', hw', BY.len]
  refine loop_ind (Q := Q) (fun i env h3 => evT env 2 = .ptr h.nx 0 ∧ evT env 3 = w ∧ evT env 6 = .ptr h'.nx 0 ∧ evT env 7 = .int .i64 (Int.ofNat (64 * i)) ∧ h'.nx < h3.nx ∧ Ext h' h3 ∧ h3.low = h.nx ∧
    ∃ b, h3.blk h'.nx = some b ∧ b.n = 8 ∧ b.ro = false ∧ ∀ j, b.get j = nth ((stA ys s0 i).l.map w32) j) (ys.length / 64) 0 ?_ (Nat.zero_le _) ?_ ?_
  · exact ⟨by simp only [go_sem, Nat.reduceLT, Nat.reduceLeDiff, Nat.reduceEqDiff, Nat.reduceAdd, Nat.reduceSub, Nat.reduceMul, reduceCtorEq, Int.reduceBEq, Int.reduceLT, Int.reduceLE, Int.reduceAdd, Int.reduceSub, Int.reduceEq, Int.reduceNeg, Int.reduceToNat, Int.reduceGT, Int.reduceGE, e2], by simp only [go_sem, Nat.reduceLT, Nat.reduceLeDiff, Nat.reduceEqDiff, Nat.reduceAdd, Nat.reduceSub, Nat.reduceMul, reduceCtorEq, Int.reduceBEq, Int.reduceLT, Int.reduceLE, Int.reduceAdd, Int.reduceSub, Int.reduceEq, Int.reduceNeg, Int.reduceToNat, Int.reduceGT, Int.reduceGE, hw'], by simp only [go_sem, Nat.reduceLT, Nat.reduceLeDiff, Nat.reduceEqDiff, Nat.reduceAdd, Nat.reduceSub, Nat.reduceMul, reduceCtorEq, Int.reduceBEq, Int.reduceLT, Int.reduceLE, Int.reduceAdd, Int.reduceSub, Int.reduceEq, Int.reduceNeg, Int.reduceToNat, Int.reduceGT, Int.reduceGE], by simp only [go_sem, Nat.reduceLT, Nat.reduceLeDiff, Nat.reduceEqDiff, Nat.reduceAdd, Nat.reduceSub, Nat.reduceMul, reduceCtorEq, Int.reduceBEq, Int.reduceLT, Int.reduceLE, Int.reduceAdd, Int.reduceSub, Int.reduceEq, Int.reduceNeg, Int.reduceToNat, Int.reduceGT, Int.reduceGE]; rfl, by simp only [go_sem, Nat.reduceLT, Nat.reduceLeDiff, Nat.reduceEqDiff, Nat.reduceAdd, Nat.reduceSub, Nat.reduceMul, reduceCtorEq, Int.reduceBEq, Int.reduceLT, Int.reduceLE, Int.reduceAdd, Int.reduceSub, Int.reduceEq, Int.reduceNeg, Int.reduceToNat, Int.reduceGT, Int.reduceGE], (Ext.alloc _ _).put _ (Nat.le_refl _), by simp only [go_sem, Nat.reduceLT, Nat.reduceLeDiff, Nat.reduceEqDiff, Nat.reduceAdd, Nat.reduceSub, Nat.reduceMul, reduceCtorEq, Int.reduceBEq, Int.reduceLT, Int.reduceLE, Int.reduceAdd, Int.reduceSub, Int.reduceEq, Int.reduceNeg, Int.reduceToNat, Int.reduceGT, Int.reduceGE, hlow]; omega, b1, by simp only [go_sem, Nat.reduceLT, Nat.reduceLeDiff, Nat.reduceEqDiff, Nat.reduceAdd, Nat.reduceSub, Nat.reduceMul, reduceCtorEq, Int.reduceBEq, Int.reduceLT, Int.reduceLE, Int.reduceAdd, Int.reduceSub, Int.reduceEq, Int.reduceNeg, Int.reduceToNat, Int.reduceGT, Int.reduceGE], by rw [hn1, wnewBlk_n]; rfl, by rw [hr1, newBlk_ro], hg1⟩
  · clear e2 e4 e5' hw' hg1 hl1 hn1 hr1 b1 env
    rintro i env h3 ⟨e2, e3, e6, e7, hlt, E3, hlow3, b, hb1, hb2, hb3, hb4⟩ hi next
    have c1 : Int.ofNat (64 * i) < Int.ofNat ys.length := by simp; omega
    have w1 : IntKind.wrap .i64 (Int.ofNat (64 * i) + 64) = Int.ofNat (64 * i + 64) := wrap_n (by simp) (by omega)
    obtain ⟨id', off, c, bx, es, q1, q2, q3, q4⟩ := (BY.ext E3).cut (lo := 64 * i) (hi := 64 * i + 64) (by omega) (by omega)
    rw [show 64 * i + 64 - 64 * i = 64 by omega] at es q3 q4
    have hl64 : ((ys.drop (64 * i)).take 64).length = 64 := by rw [List.length_take, List.length_drop]; omega
    have hld : b.loadN 0 8 = some ((stA ys s0 i).l.map w32) := loadN_of _ _ _ rfl fun j v hv => by rw [Nat.zero_add, hb4, hv]
    have ep : (lim Tryd.prog σ).call 88 [.agg ((stA ys s0 i).l.map w32), .sl id' off 64 c] h3 = some (.agg ((stA ys s0 (i + 1)).l.map w32), none) :=
      rpress_run hσ q2 hl64 (by rw [hl64]; exact q3) (fun b hb => fullL_byte xs h256 b (by rw [← hys]; exact List.mem_of_mem_drop (List.mem_of_mem_take hb))) q1
    have hl8 : ((stA ys s0 (i + 1)).l.map w32).length = 8 := rfl
    simp only [go_sem, Nat.reduceLT, Nat.reduceLeDiff, Nat.reduceEqDiff, Nat.reduceAdd, Nat.reduceSub, Nat.reduceMul, reduceCtorEq, Int.reduceBEq, Int.reduceLT, Int.reduceLE, Int.reduceAdd, Int.reduceSub, Int.reduceEq, Int.reduceNeg, Int.reduceToNat, Int.reduceGT, Int.reduceGE, wadd32, wmul32, wadd64, wmul64, wand32, wor32, wxor32, wand64, wor64, wnot32, wsub32, wsub64, wshr32l, wshl32l, wshr64l, wshl64l, wshr32w, wshl32w, wshr64w, wlt64, wgt64, weq64, wne64, e2, e3, e6, e7, (BY.ext E3).len, c1, w1, es, hb1, hb2, hb3, hld, ep, hl8]
    refine cnd_go (Q := Q) (by kernel_rfl) ?_
    simp only [go_sem, Nat.reduceLT, Nat.reduceLeDiff, Nat.reduceEqDiff, Nat.reduceAdd, Nat.reduceSub, Nat.reduceMul, reduceCtorEq, Int.reduceBEq, Int.reduceLT, Int.reduceLE, Int.reduceAdd, Int.reduceSub, Int.reduceEq, Int.reduceNeg, Int.reduceToNat, Int.reduceGT, Int.reduceGE, wadd32, wmul32, wadd64, wmul64, wand32, wor32, wxor32, wand64, wor64, wnot32, wsub32, wsub64, wshr32l, wshl32l, wshr64l, wshl64l, wshr32w, wshl32w, wshr64w, wlt64, wgt64, weq64, wne64, e2, e3, e6, e7, (BY.ext E3).len, c1, w1, es, hb1, hb2, hb3, hld, ep, hl8]
    refine store_step (Q := Q) (by rw [hb2]; rfl) (one_ws _) fun b' r1 r2 r3 r4 => ?_
    simp only [go_sem, Nat.reduceLT, Nat.reduceLeDiff, Nat.reduceEqDiff, Nat.reduceAdd, Nat.reduceSub, Nat.reduceMul, reduceCtorEq, Int.reduceBEq, Int.reduceLT, Int.reduceLE, Int.reduceAdd, Int.reduceSub, Int.reduceEq, Int.reduceNeg, Int.reduceToNat, Int.reduceGT, Int.reduceGE]
    refine cnd_go (Q := Q) (by kernel_rfl) ?_
    refine quiet_go (Q := Q) (by kernel_rfl) ?_
    simp only [go_sem, Nat.reduceLT, Nat.reduceLeDiff, Nat.reduceEqDiff, Nat.reduceAdd, Nat.reduceSub, Nat.reduceMul, reduceCtorEq, Int.reduceBEq, Int.reduceLT, Int.reduceLE, Int.reduceAdd, Int.reduceSub, Int.reduceEq, Int.reduceNeg, Int.reduceToNat, Int.reduceGT, Int.reduceGE, wadd32, wmul32, wadd64, wmul64, wand32, wor32, wxor32, wand64, wor64, wnot32, wsub32, wsub64, wshr32l, wshl32l, wshr64l, wshl64l, wshr32w, wshl32w, wshr64w, wlt64, wgt64, weq64, wne64, e2, e3, e6, e7, w1]
    refine next _ _ ⟨by simp only [go_sem, Nat.reduceLT, Nat.reduceLeDiff, Nat.reduceEqDiff, Nat.reduceAdd, Nat.reduceSub, Nat.reduceMul, reduceCtorEq, Int.reduceBEq, Int.reduceLT, Int.reduceLE, Int.reduceAdd, Int.reduceSub, Int.reduceEq, Int.reduceNeg, Int.reduceToNat, Int.reduceGT, Int.reduceGE, e2], by simp only [go_sem, Nat.reduceLT, Nat.reduceLeDiff, Nat.reduceEqDiff, Nat.reduceAdd, Nat.reduceSub, Nat.reduceMul, reduceCtorEq, Int.reduceBEq, Int.reduceLT, Int.reduceLE, Int.reduceAdd, Int.reduceSub, Int.reduceEq, Int.reduceNeg, Int.reduceToNat, Int.reduceGT, Int.reduceGE, e3], by simp only [go_sem, Nat.reduceLT, Nat.reduceLeDiff, Nat.reduceEqDiff, Nat.reduceAdd, Nat.reduceSub, Nat.reduceMul, reduceCtorEq, Int.reduceBEq, Int.reduceLT, Int.reduceLE, Int.reduceAdd, Int.reduceSub, Int.reduceEq, Int.reduceNeg, Int.reduceToNat, Int.reduceGT, Int.reduceGE, e6], by simp only [go_sem, Nat.reduceLT, Nat.reduceLeDiff, Nat.reduceEqDiff, Nat.reduceAdd, Nat.reduceSub, Nat.reduceMul, reduceCtorEq, Int.reduceBEq, Int.reduceLT, Int.reduceLE, Int.reduceAdd, Int.reduceSub, Int.reduceEq, Int.reduceNeg, Int.reduceToNat, Int.reduceGT, Int.reduceGE]; rfl, hlt, E3.put _ (Nat.le_refl _), by simp only [go_sem, Nat.reduceLT, Nat.reduceLeDiff, Nat.reduceEqDiff, Nat.reduceAdd, Nat.reduceSub, Nat.reduceMul, reduceCtorEq, Int.reduceBEq, Int.reduceLT, Int.reduceLE, Int.reduceAdd, Int.reduceSub, Int.reduceEq, Int.reduceNeg, Int.reduceToNat, Int.reduceGT, Int.reduceGE, hlow3]; omega, b', by simp only [go_sem, Nat.reduceLT, Nat.reduceLeDiff, Nat.reduceEqDiff, Nat.reduceAdd, Nat.reduceSub, Nat.reduceMul, reduceCtorEq, Int.reduceBEq, Int.reduceLT, Int.reduceLE, Int.reduceAdd, Int.reduceSub, Int.reduceEq, Int.reduceNeg, Int.reduceToNat, Int.reduceGT, Int.reduceGE], r1.trans hb2, r2.trans hb3, r4⟩
  clear e2 e4 e5' hw' hg1 hl1 hn1 hr1 b1 env
  rintro env h3 ⟨e2, e3, e6, e7, hlt, E3, hlow3, b, hb1, hb2, hb3, hb4⟩
  have c1 : ¬ Int.ofNat (64 * (ys.length / 64)) < Int.ofNat ys.length := by simp; omega
  obtain ⟨r, hr⟩ : ∃ r, r = stA ys s0 (ys.length / 64) := ⟨_, rfl⟩
  rw [← hr] at hb4
  have hrd : r = rendS xs := by rw [hr, hys]; rfl
  simp only [go_sem, Nat.reduceLT, Nat.reduceLeDiff, Nat.reduceEqDiff, Nat.reduceAdd, Nat.reduceSub, Nat.reduceMul, reduceCtorEq, Int.reduceBEq, Int.reduceLT, Int.reduceLE, Int.reduceAdd, Int.reduceSub, Int.reduceEq, Int.reduceNeg, Int.reduceToNat, Int.reduceGT, Int.reduceGE, wadd32, wmul32, wadd64, wmul64, wand32, wor32, wxor32, wand64, wor64, wnot32, wsub32, wsub64, wshr32l, wshl32l, wshr64l, wshl64l, wshr32w, wshl32w, wshr64w, wlt64, wgt64, weq64, wne64, e2, e3, e6, e7, (BY.ext E3).len, c1]
  obtain ⟨o, ho⟩ : ∃ o, o = h3.nx := ⟨_, rfl⟩
  refine loop_ind (Q := Q) (fun i env h4 => evT env 2 = .ptr h.nx 0 ∧ evT env 6 = .ptr h'.nx 0 ∧ evT env 8 = .ptr o 0 ∧ evT env 9 = .int .i64 (Int.ofNat i) ∧ o < h4.nx ∧ Ext h3 h4 ∧ h4.low = h.nx ∧
    ∃ b, h4.blk o = some b ∧ b.n = 32 ∧ b.ro = false ∧ ∀ j, j < i → b.get j = nth (bc (rdigest xs)) j) 32 0 ?_ (by decide) ?_ ?_
  · exact ⟨by simp only [go_sem, Nat.reduceLT, Nat.reduceLeDiff, Nat.reduceEqDiff, Nat.reduceAdd, Nat.reduceSub, Nat.reduceMul, reduceCtorEq, Int.reduceBEq, Int.reduceLT, Int.reduceLE, Int.reduceAdd, Int.reduceSub, Int.reduceEq, Int.reduceNeg, Int.reduceToNat, Int.reduceGT, Int.reduceGE, e2], by simp only [go_sem, Nat.reduceLT, Nat.reduceLeDiff, Nat.reduceEqDiff, Nat.reduceAdd, Nat.reduceSub, Nat.reduceMul, reduceCtorEq, Int.reduceBEq, Int.reduceLT, Int.reduceLE, Int.reduceAdd, Int.reduceSub, Int.reduceEq, Int.reduceNeg, Int.reduceToNat, Int.reduceGT, Int.reduceGE, e6], by simp only [go_sem, Nat.reduceLT, Nat.reduceLeDiff, Nat.reduceEqDiff, Nat.reduceAdd, Nat.reduceSub, Nat.reduceMul, reduceCtorEq, Int.reduceBEq, Int.reduceLT, Int.reduceLE, Int.reduceAdd, Int.reduceSub, Int.reduceEq, Int.reduceNeg, Int.reduceToNat, Int.reduceGT, Int.reduceGE, ho], by simp only [go_sem, Nat.reduceLT, Nat.reduceLeDiff, Nat.reduceEqDiff, Nat.reduceAdd, Nat.reduceSub, Nat.reduceMul, reduceCtorEq, Int.reduceBEq, Int.reduceLT, Int.reduceLE, Int.reduceAdd, Int.reduceSub, Int.reduceEq, Int.reduceNeg, Int.reduceToNat, Int.reduceGT, Int.reduceGE]; rfl, by simp only [go_sem, Nat.reduceLT, Nat.reduceLeDiff, Nat.reduceEqDiff, Nat.reduceAdd, Nat.reduceSub, Nat.reduceMul, reduceCtorEq, Int.reduceBEq, Int.reduceLT, Int.reduceLE, Int.reduceAdd, Int.reduceSub, Int.reduceEq, Int.reduceNeg, Int.reduceToNat, Int.reduceGT, Int.reduceGE]; omega, Ext.alloc _ _, by simp only [go_sem, Nat.reduceLT, Nat.reduceLeDiff, Nat.reduceEqDiff, Nat.reduceAdd, Nat.reduceSub, Nat.reduceMul, reduceCtorEq, Int.reduceBEq, Int.reduceLT, Int.reduceLE, Int.reduceAdd, Int.reduceSub, Int.reduceEq, Int.reduceNeg, Int.reduceToNat, Int.reduceGT, Int.reduceGE, hlow3], _, by rw [ho]; exact alloc_blk_same _ _ _ rfl, wnewBlk_n _, newBlk_ro _, fun j hj => absurd hj (Nat.not_lt_zero _)⟩
  · clear e2 e3 e6 e7 c1 env
    rintro i env h4 ⟨e2, e6, e8, e9, hon, E4, hlow4, bo, ho1, ho2, ho3, ho4⟩ hi next
    have c0 : Int.ofNat i < 32 := by simp; omega
    have w1 : IntKind.wrap .i64 (Int.ofNat i + 1) = Int.ofNat (i + 1) := wrap_n (by simp) (by omega)
    have w2 : IntKind.wrap .i64 (8 * Int.ofNat (i % 4)) = Int.ofNat (8 * (i % 4)) := wrap_n (by simp) (by omega)
    have w3 : IntKind.wrap .i64 (24 - Int.ofNat (8 * (i % 4))) = Int.ofNat (24 - 8 * (i % 4)) := wrap_n (by simp; omega) (by omega)
    have hi4 : i / 4 < 8 := by omega
    have hb1' : h4.blk h'.nx = some b := (E4.blk hlt).trans hb1
    have gi : b.get (i / 4) = some (w32 (r.at (i / 4))) := by rw [hb4, S8.nth _ hi4]
    have ht : (BitVec.ofNat 64 (24 - 8 * (i % 4))).toNat = 24 - 8 * (i % 4) := by simp; omega
    have q4 := quo4i (n := i) (by omega)
    simp only [go_sem, Nat.reduceLT, Nat.reduceLeDiff, Nat.reduceEqDiff, Nat.reduceAdd, Nat.reduceSub, Nat.reduceMul, reduceCtorEq, Int.reduceBEq, Int.reduceLT, Int.reduceLE, Int.reduceAdd, Int.reduceSub, Int.reduceEq, Int.reduceNeg, Int.reduceToNat, Int.reduceGT, Int.reduceGE, wadd32, wmul32, wadd64, wmul64, wand32, wor32, wxor32, wand64, wor64, wnot32, wsub32, wsub64, wshr32l, wshl32l, wshr64l, wshl64l, wshr32w, wshl32w, wshr64w, wlt64, wgt64, weq64, wne64, e2, e6, e8, e9, c0, w1, w2, w3, hi, hi4, hb1', gi, ht, q4, rem4i, cv341, cv265, ho1, ho2, ho3, Nat.mul_one]
    refine next _ _ ⟨by simp only [go_sem, Nat.reduceLT, Nat.reduceLeDiff, Nat.reduceEqDiff, Nat.reduceAdd, Nat.reduceSub, Nat.reduceMul, reduceCtorEq, Int.reduceBEq, Int.reduceLT, Int.reduceLE, Int.reduceAdd, Int.reduceSub, Int.reduceEq, Int.reduceNeg, Int.reduceToNat, Int.reduceGT, Int.reduceGE, e2], by simp only [go_sem, Nat.reduceLT, Nat.reduceLeDiff, Nat.reduceEqDiff, Nat.reduceAdd, Nat.reduceSub, Nat.reduceMul, reduceCtorEq, Int.reduceBEq, Int.reduceLT, Int.reduceLE, Int.reduceAdd, Int.reduceSub, Int.reduceEq, Int.reduceNeg, Int.reduceToNat, Int.reduceGT, Int.reduceGE, e6], by simp only [go_sem, Nat.reduceLT, Nat.reduceLeDiff, Nat.reduceEqDiff, Nat.reduceAdd, Nat.reduceSub, Nat.reduceMul, reduceCtorEq, Int.reduceBEq, Int.reduceLT, Int.reduceLE, Int.reduceAdd, Int.reduceSub, Int.reduceEq, Int.reduceNeg, Int.reduceToNat, Int.reduceGT, Int.reduceGE, e8], by simp only [go_sem, Nat.reduceLT, Nat.reduceLeDiff, Nat.reduceEqDiff, Nat.reduceAdd, Nat.reduceSub, Nat.reduceMul, reduceCtorEq, Int.reduceBEq, Int.reduceLT, Int.reduceLE, Int.reduceAdd, Int.reduceSub, Int.reduceEq, Int.reduceNeg, Int.reduceToNat, Int.reduceGT, Int.reduceGE], hon, E4.put _ (by omega), by simp only [go_sem, Nat.reduceLT, Nat.reduceLeDiff, Nat.reduceEqDiff, Nat.reduceAdd, Nat.reduceSub, Nat.reduceMul, reduceCtorEq, Int.reduceBEq, Int.reduceLT, Int.reduceLE, Int.reduceAdd, Int.reduceSub, Int.reduceEq, Int.reduceNeg, Int.reduceToNat, Int.reduceGT, Int.reduceGE, hlow4]; omega, _, put_blk_same _ _ _, by rw [st_n]; exact ho2, by rw [st_ro]; exact ho3, fun j hj => ?_⟩
    by_cases q : j = i
    · subst q
      rw [st_get_same _ _ _ (by omega)]
      have := dig_at r hi4 (r := j % 4) (Nat.mod_lt _ (by decide))
      rw [show 4 * (j / 4) + j % 4 = j by omega, wb_at _ (Nat.mod_lt _ (by decide))] at this
      rw [← this, hrd]; rfl
    · rw [st_get_ne _ _ _ _ q]; exact ho4 j (by omega)
  clear e2 e3 e6 e7 c1 env
  rintro env h4 ⟨e2, e6, e8, e9, hon, E4, hlow4, bo, ho1, ho2, ho3, ho4⟩
  have c0 : ¬ Int.ofNat 32 < 32 := by decide
  have hl32 : (bc (rdigest xs)).length = 32 := bc_len _
  have hld : bo.loadN 0 32 = some (bc (rdigest xs)) := loadN_of _ _ _ hl32 fun i v hv => by
    have hi := nlt hv
    rw [hl32] at hi
    rw [Nat.zero_add, ho4 i hi, hv]
  have hh1 := E3.nx
  have hh2 := E4.nx
  have hout4 : h4.blk h.nx = some ob := (E4.blk (by omega)).trans ((E3.blk hnx).trans hout)
  simp only [go_sem, Nat.reduceLT, Nat.reduceLeDiff, Nat.reduceEqDiff, Nat.reduceAdd, Nat.reduceSub, Nat.reduceMul, reduceCtorEq, Int.reduceBEq, Int.reduceLT, Int.reduceLE, Int.reduceAdd, Int.reduceSub, Int.reduceEq, Int.reduceNeg, Int.reduceToNat, Int.reduceGT, Int.reduceGE, e2, e8, e9, c0, ho1, hld, hout4, on, ow, hl32]
  refine store_step (Q := Q) (by rw [hl32, on]) (bc_one _) fun b' q1 q2 q3 _ => ?_
  rw [on] at q3
  simp only [go_sem, Nat.reduceLT, Nat.reduceLeDiff, Nat.reduceEqDiff, Nat.reduceAdd, Nat.reduceSub, Nat.reduceMul, reduceCtorEq, Int.reduceBEq, Int.reduceLT, Int.reduceLE, Int.reduceAdd, Int.reduceSub, Int.reduceEq, Int.reduceNeg, Int.reduceToNat, Int.reduceGT, Int.reduceGE, e2, q3]
  rw [fin_q _ _ _ (by simp only [go_sem, Nat.reduceLT, Nat.reduceLeDiff, Nat.reduceEqDiff, Nat.reduceAdd, Nat.reduceSub, Nat.reduceMul, reduceCtorEq, Int.reduceBEq, Int.reduceLT, Int.reduceLE, Int.reduceAdd, Int.reduceSub, Int.reduceEq, Int.reduceNeg, Int.reduceToNat, Int.reduceGT, Int.reduceGE, hlow4]; omega) (by rw [okB_agg]; exact okBL_all fun c hc => by obtain ⟨p, _, rfl⟩ := List.mem_map.1 hc; rfl), hQ]
  rfl
end Go.Cl.Sh

namespace Go.Cl.Sh
variable {σ : Sums}
set_option maxRecDepth 1000000

theorem cv531 (h n) : convT Tryd.prog h 5 23 (u8 n) = some (.val (w64 (BitVec.ofNat 64 n))) := by
  rw [← w64_of]; exact cv_5_23 h .u8 _
theorem short_run (hσ : ∀ f a h, W.told f = false → σ f a h = none) {h : H} {v : CV} {xs : List Nat} (B : BV h v xs) (g : HG h) (hx : xs.length ≤ 100000) : RetQ h (w64 (shV (digest xs) 8)) ((lim Tryd.prog σ).call 52 [v] h) := by
  obtain ⟨Q, hQ⟩ : ∃ Q, Q = RetQ h (w64 (shV (digest xs) 8)) := ⟨_, rfl⟩
  rw [← hQ]
  rw [call_eq (hσ _ _ _ (by decide)) fn_52 rfl rfl, Tryd.ntmps52, Tryd.results52]
  have e1 : (lim Tryd.prog σ).call 39 [v] h.lo = some (.agg (bc (digest xs)), none) := sum_run hσ (B.ext (Ext.lo h)) (g.ext (Ext.lo h)) hx
  have hl : (bc (digest xs)).length = 32 := bc_len _
  have l0 : CV.int .u64 0 = w64 (BitVec.ofNat 64 0) := rfl
  simp only [go_sem, Nat.reduceLT, Nat.reduceLeDiff, Nat.reduceEqDiff, Nat.reduceAdd, Nat.reduceSub, Nat.reduceMul, reduceCtorEq, Int.reduceBEq, Int.reduceLT, Int.reduceLE, Int.reduceAdd, Int.reduceSub, Int.reduceEq, Int.reduceNeg, Int.reduceToNat, Int.reduceGT, Int.reduceGE, wadd32, wmul32, wadd64, wmul64, wand32, wor32, wxor32, wand64, wor64, wnot32, wsub32, wsub64, wshr32l, wshl32l, wshr64l, wshl64l, wshr32w, wshl32w, wshr64w, wlt64, wgt64, weq64, wne64, e1, hl, l0]
  refine store_step (Q := Q) (by rw [hl, wnewBlk_n]; rfl) (bc_one _) fun b hn hr hld hg => ?_
  have es : ∀ h : H, sliceT Tryd.prog h 77 (.ptr h.nx 0) none (some (.int .i64 8)) none = some (.sl h.nx 0 8 (.exact 32)) := fun h => by kernel_rfl
  have es' : ∀ (h : H) o, sliceT Tryd.prog h 77 (.ptr o 0) none (some (.int .i64 8)) none = some (.sl o 0 8 (.exact 32)) := fun h o => by kernel_rfl
  simp only [go_sem, Nat.reduceLT, Nat.reduceLeDiff, Nat.reduceEqDiff, Nat.reduceAdd, Nat.reduceSub, Nat.reduceMul, reduceCtorEq, Int.reduceBEq, Int.reduceLT, Int.reduceLE, Int.reduceAdd, Int.reduceSub, Int.reduceEq, Int.reduceNeg, Int.reduceToNat, Int.reduceGT, Int.reduceGE, wadd32, wmul32, wadd64, wmul64, wand32, wor32, wxor32, wand64, wor64, wnot32, wsub32, wsub64, wshr32l, wshl32l, wshr64l, wshl64l, wshr32w, wshl32w, wshr64w, wlt64, wgt64, weq64, wne64, e1, hl, l0, es']
  refine loop_ind (Q := Q) (fun i env h' => evT env 4 = w64 (shV (digest xs) i) ∧ evT env 9 = .sl h.nx 0 8 (.exact 32) ∧ evT env 10 = .int .i64 8 ∧ evT env 11 = .int .i64 (Int.ofNat i) ∧ h'.low = h.nx ∧ h'.blk h.nx = some b) 8 0 ?_ (by decide) ?_ ?_
  · exact ⟨by simp only [go_sem, Nat.reduceLT, Nat.reduceLeDiff, Nat.reduceEqDiff, Nat.reduceAdd, Nat.reduceSub, Nat.reduceMul, reduceCtorEq, Int.reduceBEq, Int.reduceLT, Int.reduceLE, Int.reduceAdd, Int.reduceSub, Int.reduceEq, Int.reduceNeg, Int.reduceToNat, Int.reduceGT, Int.reduceGE]; rfl, by simp only [go_sem, Nat.reduceLT, Nat.reduceLeDiff, Nat.reduceEqDiff, Nat.reduceAdd, Nat.reduceSub, Nat.reduceMul, reduceCtorEq, Int.reduceBEq, Int.reduceLT, Int.reduceLE, Int.reduceAdd, Int.reduceSub, Int.reduceEq, Int.reduceNeg, Int.reduceToNat, Int.reduceGT, Int.reduceGE], by simp only [go_sem, Nat.reduceLT, Nat.reduceLeDiff, Nat.reduceEqDiff, Nat.reduceAdd, Nat.reduceSub, Nat.reduceMul, reduceCtorEq, Int.reduceBEq, Int.reduceLT, Int.reduceLE, Int.reduceAdd, Int.reduceSub, Int.reduceEq, Int.reduceNeg, Int.reduceToNat, Int.reduceGT, Int.reduceGE]; rfl, by simp only [go_sem, Nat.reduceLT, Nat.reduceLeDiff, Nat.reduceEqDiff, Nat.reduceAdd, Nat.reduceSub, Nat.reduceMul, reduceCtorEq, Int.reduceBEq, Int.reduceLT, Int.reduceLE, Int.reduceAdd, Int.reduceSub, Int.reduceEq, Int.reduceNeg, Int.reduceToNat, Int.reduceGT, Int.reduceGE]; rfl, by simp only [go_sem, Nat.reduceLT, Nat.reduceLeDiff, Nat.reduceEqDiff, Nat.reduceAdd, Nat.reduceSub, Nat.reduceMul, reduceCtorEq, Int.reduceBEq, Int.reduceLT, Int.reduceLE, Int.reduceAdd, Int.reduceSub, Int.reduceEq, Int.reduceNeg, Int.reduceToNat, Int.reduceGT, Int.reduceGE]; omega, by simp only [go_sem, Nat.reduceLT, Nat.reduceLeDiff, Nat.reduceEqDiff, Nat.reduceAdd, Nat.reduceSub, Nat.reduceMul, reduceCtorEq, Int.reduceBEq, Int.reduceLT, Int.reduceLE, Int.reduceAdd, Int.reduceSub, Int.reduceEq, Int.reduceNeg, Int.reduceToNat, Int.reduceGT, Int.reduceGE]⟩
  · rintro i env h' ⟨e4, e9, e10, e11, hlow, hb⟩ hi next
    have c0 : Int.ofNat i < 8 := by simp; omega
    have w1 : IntKind.wrap .i64 (Int.ofNat i + 1) = Int.ofNat (i + 1) := wrap_n (by simp) (by omega)
    obtain ⟨y, hy⟩ : ∃ y, (digest xs)[i]? = some y := ⟨_, List.getElem?_eq_getElem (by rw [digest_len]; omega)⟩
    have gi : b.get i = some (u8 y) := by rw [hg, nth_eq]; unfold bc; rw [List.getElem?_map, hy]; rfl
    simp only [go_sem, Nat.reduceLT, Nat.reduceLeDiff, Nat.reduceEqDiff, Nat.reduceAdd, Nat.reduceSub, Nat.reduceMul, reduceCtorEq, Int.reduceBEq, Int.reduceLT, Int.reduceLE, Int.reduceAdd, Int.reduceSub, Int.reduceEq, Int.reduceNeg, Int.reduceToNat, Int.reduceGT, Int.reduceGE, wadd32, wmul32, wadd64, wmul64, wand32, wor32, wxor32, wand64, wor64, wnot32, wsub32, wsub64, wshr32l, wshl32l, wshr64l, wshl64l, wshr32w, wshl32w, wshr64w, wlt64, wgt64, weq64, wne64, e4, e9, e10, e11, c0, w1, hi, hb, gi, cv531, Nat.mul_one, Nat.zero_add]
    refine next _ _ ⟨by simp only [go_sem, Nat.reduceLT, Nat.reduceLeDiff, Nat.reduceEqDiff, Nat.reduceAdd, Nat.reduceSub, Nat.reduceMul, reduceCtorEq, Int.reduceBEq, Int.reduceLT, Int.reduceLE, Int.reduceAdd, Int.reduceSub, Int.reduceEq, Int.reduceNeg, Int.reduceToNat, Int.reduceGT, Int.reduceGE, shV, hy], by simp only [go_sem, Nat.reduceLT, Nat.reduceLeDiff, Nat.reduceEqDiff, Nat.reduceAdd, Nat.reduceSub, Nat.reduceMul, reduceCtorEq, Int.reduceBEq, Int.reduceLT, Int.reduceLE, Int.reduceAdd, Int.reduceSub, Int.reduceEq, Int.reduceNeg, Int.reduceToNat, Int.reduceGT, Int.reduceGE, e9], by simp only [go_sem, Nat.reduceLT, Nat.reduceLeDiff, Nat.reduceEqDiff, Nat.reduceAdd, Nat.reduceSub, Nat.reduceMul, reduceCtorEq, Int.reduceBEq, Int.reduceLT, Int.reduceLE, Int.reduceAdd, Int.reduceSub, Int.reduceEq, Int.reduceNeg, Int.reduceToNat, Int.reduceGT, Int.reduceGE, e10], by simp only [go_sem, Nat.reduceLT, Nat.reduceLeDiff, Nat.reduceEqDiff, Nat.reduceAdd, Nat.reduceSub, Nat.reduceMul, reduceCtorEq, Int.reduceBEq, Int.reduceLT, Int.reduceLE, Int.reduceAdd, Int.reduceSub, Int.reduceEq, Int.reduceNeg, Int.reduceToNat, Int.reduceGT, Int.reduceGE], hlow, hb⟩
  · rintro env h' ⟨e4, e9, e10, e11, hlow, hb⟩
    have c0 : ¬ Int.ofNat 8 < 8 := by decide
    simp only [go_sem, Nat.reduceLT, Nat.reduceLeDiff, Nat.reduceEqDiff, Nat.reduceAdd, Nat.reduceSub, Nat.reduceMul, reduceCtorEq, Int.reduceBEq, Int.reduceLT, Int.reduceLE, Int.reduceAdd, Int.reduceSub, Int.reduceEq, Int.reduceNeg, Int.reduceToNat, Int.reduceGT, Int.reduceGE, wadd32, wmul32, wadd64, wmul64, wand32, wor32, wxor32, wand64, wor64, wnot32, wsub32, wsub64, wshr32l, wshl32l, wshr64l, wshl64l, wshr32w, wshl32w, wshr64w, wlt64, wgt64, weq64, wne64, e4, e9, e10, e11, c0]
    rw [fin_q _ _ _ hlow rfl, hQ]
    rfl
end Go.Cl.Sh

namespace Go.Cl.Sh
variable {σ : Sums}
set_option maxRecDepth 1000000

theorem allN_dec {g : Nat → Option Bool} {p : Nat → Bool} : ∀ (n i : Nat), (∀ j, i ≤ j → j < i + n → g j = some (p j)) → allN g n i = some ((List.range' i n).all p)
  | 0, _, _ => rfl
  | n + 1, i, h => by
    simp only [allN, List.range'_succ, List.all_cons]
    rw [h i (Nat.le_refl _) (by omega)]
    cases p i
    · rfl
    · simp only [Option.bind_some, cond_true, Bool.true_and]
      exact allN_dec n (i + 1) fun j h1 h2 => h j (by omega) (by omega)
theorem bc_inj {a b : List Nat} (h : bc a = bc b) : a = b := by
  have : ∀ a b : List Nat, bc a = bc b → a = b := fun a => by
    induction a with
    | nil => intro b h; cases b with
      | nil => rfl
      | cons y b => cases h
    | cons x a ih => intro b h; cases b with
      | nil => cases h
      | cons y b =>
        have h1 : u8 x :: bc a = u8 y :: bc b := h
        simp only [List.cons.injEq] at h1
        have h2 : x = y := by
          have := (CV.int.inj h1.1).2
          exact Int.ofNat.inj this
        rw [h2, ih b h1.2]
  exact this a b h
theorem eqIn_a {P : Program} {fuel n : Nat} {t e : TypeId} {xs ys : List CV} (hu : P.underlying t = some (.array n e)) (hs : szOf P e = some 1) :
    eqIn P (fuel + 1) t (.agg xs) (.agg ys) = allN (fun i => (partT P e xs (i * 1)).bind fun a => (partT P e ys (i * 1)).bind fun b => eqIn P fuel e a b) n 0 := by
  simp only [eqIn, hu, Option.bind_some, hs]
theorem eqIn_i {P : Program} {fuel : Nat} {t : TypeId} {k : IntKind} {a b : Int} (hu : P.underlying t = some (.int k)) : eqIn P (fuel + 1) t (.int k a) (.int k b) = some (a == b) := by
  simp [eqIn, hu]
end Go.Cl.Sh

namespace Go.Cl.Sh.W
variable {σ : Sums}

def bc (l : List Nat) : List CV := l.map fun b => .int .u8 (Int.ofNat b)
theorem bc_len (l : List Nat) : (bc l).length = l.length := by simp [bc]
theorem bc_app (a b : List Nat) : bc (a ++ b) = bc a ++ bc b := by simp [bc]
theorem bc_one (l : List Nat) : (bc l).all CV.one = true := List.all_eq_true.2 fun x hx => by
  obtain ⟨b, _, rfl⟩ := List.mem_map.1 hx; rfl

structure WrAt (h : H) (w lid : Nat) (failed : Bool) (bs : List Nat) : Prop where
  lt : w < h.nx
  ne : bs.length ≠ 0 → w ≠ lid
  blk : ∃ b v, h.blk w = some b ∧ b.ro = false ∧ b.n = 2 ∧ b.get 0 = some v ∧ b.get 1 = some (.bool failed) ∧ Lst h 1 v lid bs.length (bc bs)

structure WFr (h h' : H) (w lid : Nat) : Prop where
  nx : h.nx ≤ h'.nx
  gn : h'.gn = h.gn
  old : ∀ id, id < h.nx → id ≠ w → id ≠ lid → h'.t.get id = h.t.get id
theorem WrAt.ext' {h h' : H} {w lid : Nat} {fl : Bool} {bs : List Nat} (A : WrAt h w lid fl bs) (e : Ext h h') : WrAt h' w lid fl bs := by
  obtain ⟨b, v, hb, hro, hbn, h0, h1, hl⟩ := A.blk
  exact ⟨Nat.lt_of_lt_of_le A.lt e.nx, A.ne, b, v, (e.blk A.lt).trans hb, hro, hbn, h0, h1, hl.ext e⟩
theorem WrAt.unlo {h : H} {w lid : Nat} {fl : Bool} {bs : List Nat} (A : WrAt h.lo w lid fl bs) : WrAt h w lid fl bs := by
  obtain ⟨b, v, hb, hro, hbn, h0, h1, hl⟩ := A.blk
  exact ⟨A.lt, A.ne, b, v, hb, hro, hbn, h0, h1, hl.mono (Nat.le_refl _) fun _ => rfl⟩
theorem WFr.refl (h : H) (w lid : Nat) : WFr h h w lid := ⟨Nat.le_refl _, rfl, fun _ _ _ _ => rfl⟩

theorem wsize_run (hσ : ∀ f a h, told f = false → σ f a h = none) (h : H) (n : Int) : (lim Tryd.prog σ).call 65 [.int .i64 n] h = some (.bool (decide (n = 1 ∨ n = 2 ∨ n = 4 ∨ n = 8)), none) := by
  rw [call_eq (hσ _ _ _ (by decide)) fn_65 rfl rfl, Tryd.ntmps65, Tryd.results65]
  by_cases h1 : n = 1
  · subst h1; simp only [go_sem, Nat.reduceLT, Nat.reduceLeDiff, Nat.reduceEqDiff, Nat.reduceAdd, Nat.reduceSub, Nat.reduceMul, reduceCtorEq, Int.reduceBEq, Int.reduceLT, Int.reduceLE, Int.reduceAdd, Int.reduceSub, Int.reduceEq, Int.reduceNeg, Int.reduceToNat, Int.reduceGT, Int.reduceGE, true_or]; rw [fin_q _ _ _ rfl rfl]
  by_cases h2 : n = 2
  · subst h2; simp only [go_sem, Nat.reduceLT, Nat.reduceLeDiff, Nat.reduceEqDiff, Nat.reduceAdd, Nat.reduceSub, Nat.reduceMul, reduceCtorEq, Int.reduceBEq, Int.reduceLT, Int.reduceLE, Int.reduceAdd, Int.reduceSub, Int.reduceEq, Int.reduceNeg, Int.reduceToNat, Int.reduceGT, Int.reduceGE, true_or, or_true]; rw [fin_q _ _ _ rfl rfl]
  by_cases h4 : n = 4
  · subst h4; simp only [go_sem, Nat.reduceLT, Nat.reduceLeDiff, Nat.reduceEqDiff, Nat.reduceAdd, Nat.reduceSub, Nat.reduceMul, reduceCtorEq, Int.reduceBEq, Int.reduceLT, Int.reduceLE, Int.reduceAdd, Int.reduceSub, Int.reduceEq, Int.reduceNeg, Int.reduceToNat, Int.reduceGT, Int.reduceGE, true_or, or_true]; rw [fin_q _ _ _ rfl rfl]
  by_cases h8 : n = 8
  · subst h8; simp only [go_sem, Nat.reduceLT, Nat.reduceLeDiff, Nat.reduceEqDiff, Nat.reduceAdd, Nat.reduceSub, Nat.reduceMul, reduceCtorEq, Int.reduceBEq, Int.reduceLT, Int.reduceLE, Int.reduceAdd, Int.reduceSub, Int.reduceEq, Int.reduceNeg, Int.reduceToNat, Int.reduceGT, Int.reduceGE, true_or, or_true]; rw [fin_q _ _ _ rfl rfl]
  simp only [go_sem, Nat.reduceLT, Nat.reduceLeDiff, Nat.reduceEqDiff, Nat.reduceAdd, Nat.reduceSub, Nat.reduceMul, reduceCtorEq, Int.reduceBEq, Int.reduceLT, Int.reduceLE, Int.reduceAdd, Int.reduceSub, Int.reduceEq, Int.reduceNeg, Int.reduceToNat, Int.reduceGT, Int.reduceGE, h1, h2, h4, h8, or_self]
  rw [fin_q _ _ _ rfl rfl]

/-- a digit, from the highest one -/
def dig (n k j : Nat) : Nat := n / 2 ^ (8 * (k - 1 - j)) % 256
def be (n k : Nat) : List Nat := (List.range k).map (dig n k)

/-! ### slices of bytes, whosesoever -/
def BSl (h : H) (v : CV) (cs : List CV) : Prop := (cs = [] ∧ v = .nils) ∨ (cs = [] ∧ ∃ id a b c, v = .sl0 id a b c) ∨ ∃ id off c b, v = .sl id off cs.length c ∧ id < h.nx ∧ h.blk id = some b ∧ b.loadN off cs.length = some cs
theorem BSl.ext {h h' : H} {v : CV} {cs : List CV} (B : BSl h v cs) (e : Ext h h') : BSl h' v cs := by
  rcases B with h1 | h1 | ⟨id, off, c, b, h1, h2, h3, h4⟩
  · exact .inl h1
  · exact .inr (.inl h1)
  · exact .inr (.inr ⟨id, off, c, b, h1, Nat.lt_of_lt_of_le h2 e.nx, (e.blk h2).trans h3, h4⟩)
theorem BSl.len {h : H} {v : CV} {cs : List CV} (B : BSl h v cs) (h' : H) : builtinT Tryd.prog h' .len [24] [v] = some (.val (.int .i64 (Int.ofNat cs.length))) := by
  rcases B with ⟨rfl, rfl⟩ | ⟨rfl, id, x1, x2, x3, rfl⟩ | ⟨id, off, c, b, rfl, _⟩ <;> simp [builtinT, Tryd.underlying24, lenC]
theorem BSl.one {h : H} {v : CV} {cs : List CV} (B : BSl h v cs) : v.one = true ∧ v.cells = [v] := by
  rcases B with ⟨rfl, rfl⟩ | ⟨rfl, id, x1, x2, x3, rfl⟩ | ⟨id, off, c, b, rfl, _⟩ <;> exact ⟨rfl, rfl⟩
theorem lst_bsl {h : H} {v : CV} {id n : Nat} {cs : List CV} (l : Lst h 1 v id n cs) : BSl h v cs := by
  have hl := l.len
  rcases l.val with ⟨h0, rfl⟩ | ⟨h0, rfl, h1, b, h2, h3, h4, h5⟩
  · subst h0; left; exact ⟨List.length_eq_zero_iff.1 (by simpa using hl), rfl⟩
  · right; right; refine ⟨id, 0, _, b, by rw [hl, Nat.mul_one], h1, h2, loadN_of _ _ _ rfl fun i v hv => by rw [Nat.zero_add, h5, hv]⟩
theorem app_24_sl0 (h : H) (s : CV) (a b c d : Nat) : builtinT Tryd.prog h .append [24, 24] [s, .sl0 a b c d] = uv (appS h 1 1 1 s 0 (some [])) := by kernel_rfl
theorem BSl.app {h : H} {v : CV} {cs : List CV} (B : BSl h v cs) (s : CV) : builtinT Tryd.prog h .append [24, 24] [s, v] = uv (appS h 1 1 1 s cs.length (some cs)) := by
  rcases B with ⟨rfl, rfl⟩ | ⟨rfl, id, x1, x2, x3, rfl⟩ | ⟨id, off, c, b, rfl, h1, h2, h3⟩
  · rw [app_24_n, ap_24_n]; rfl
  · exact app_24_sl0 _ _ _ _ _ _
  · rw [app_24, ap_24, firstC_sl, h2, bind_some', Nat.mul_one, h3]
theorem bytesOf_bc : ∀ bs : List Nat, (∀ b ∈ bs, b < 256) → bytesOf (bc bs) = some bs
  | [], _ => rfl
  | b :: bs, h => by
    have := bytesOf_bc bs fun x hx => h x (List.mem_cons_of_mem _ hx)
    rw [bc] at this
    simp only [bc, bytesOf, List.map_cons, Int.ofNat_eq_natCast, Int.toNat_natCast] at this ⊢
    rw [this]; simp [blt_eq', h b List.mem_cons_self]
theorem BSl.str {h : H} {v : CV} {bs : List Nat} (B : BSl h v (bc bs)) (hb : ∀ b ∈ bs, b < 256) : convT Tryd.prog h 24 9 v = some (.val (.str bs)) := by
  rcases B with ⟨e, rfl⟩ | ⟨e, id, x1, x2, x3, rfl⟩ | ⟨id, off, c, b, rfl, h1, h2, h3⟩
  · have : bs = [] := by simpa [bc] using e
    subst this; rw [cv_24_9_n]
  · have : bs = [] := by simpa [bc] using e
    subst this; rw [cv_24_9_z]
  · rw [cv_24_9, h2]
    show (b.loadN _ _).bind _ = _
    rw [h3]
    simp [bytesOf_bc _ hb]

/-- what a growing leaves -/
structure AppFr (h h' : H) (lid n lid' m : Nat) : Prop where
  nx : h.nx ≤ h'.nx
  gn : h'.gn = h.gn
  old : ∀ k, k < h.nx → (n ≠ 0 → k ≠ lid) → h'.t.get k = h.t.get k
  id : (lid' = lid ∧ m = 0) ∨ h.nx ≤ lid'

theorem app_any {h : H} {v : CV} {id n : Nat} {cs : List CV} (l : Lst h 1 v id n cs) {new : List CV} (ho : new.all CV.one = true) (hr : n + new.length ≤ 70368744177664) :
    ∃ v' id' h', appS h 1 1 1 v new.length (some new) = some (v', h') ∧ Lst h' 1 v' id' (n + new.length) (cs ++ new) ∧ AppFr h h' id n id' new.length ∧ h'.low ≤ h.low := by
  by_cases h0 : new = []
  · subst h0
    have hg : (Nat.blt 0 1 && Nat.ble ((n + 0) * 1) 70368744177664 && Nat.ble (n + 0) 70368744177664 && Nat.beq 1 1 && Nat.beq ([] : List CV).length (0 * 1) && ([] : List CV).all CV.one) = true := by
      simp only [blt_eq', ble_eq', beq_eq', Bool.and_eq_true, decide_eq_true_eq]
      simp at hr
      simp; omega
    rcases l.val with ⟨rfl, rfl⟩ | ⟨hn, rfl, hid, b, hb, hro, hbn, hbg⟩
    · refine ⟨.nils, id, h, ?_, by simpa using l, ⟨Nat.le_refl _, rfl, fun _ _ _ => rfl, .inl ⟨rfl, rfl⟩⟩, Nat.le_refl _⟩
      unfold appS
      rw [lenC_nils, bind_some', bind_some']
      rfl
    · refine ⟨.sl id 0 n (.opn 1), id, h.put id (.cells b), ?_, ?_, ⟨Nat.le_refl _, rfl, fun k _ hk => put_get_ne _ _ _ _ (hk (by omega)), .inl ⟨rfl, rfl⟩⟩, Nat.min_le_left _ _⟩
      · unfold appS
        rw [lenC_sl, bind_some', bind_some']
        show cond (Nat.blt 0 1 && Nat.ble ((n + 0) * 1) 70368744177664 && Nat.ble (n + 0) 70368744177664 && Nat.beq 1 1 && Nat.beq ([] : List CV).length (0 * 1) && ([] : List CV).all CV.one) _ _ = _
        rw [hg, cond_true]
        dsimp only [List.length_nil]
        rw [beq_eq', decide_eq_true rfl, cond_true, hb, bind_some', hro, cond_false, ble_eq', decide_eq_true (by omega), cond_true, storeN_nil]
        rfl
      · simp only [List.length_nil, Nat.add_zero, List.append_nil]
        exact ⟨l.len, .inr ⟨hn, rfl, hid, b, put_blk_same _ _ _, hro, hbn, hbg⟩⟩
  · have hm : 0 < new.length := List.length_pos_iff.2 h0
    obtain ⟨h', e, l', h1, h2, h3, h4, _⟩ := app_Lst (by_ := 1) (zl := 1) l hm (new := new) (by simp) ho rfl (by decide) (by omega) hr
    exact ⟨_, _, h', e, l', ⟨by omega, h2, h3, .inr (Nat.le_refl _)⟩, h4⟩

theorem appb_step {β : Type} {Q : Option β → Prop} {X : H} {s v : CV} {lid n : Nat} {old cs : List CV} {K : Out → Option β} (l : Lst X 1 s lid n old) (B : BSl X v cs) (ho : cs.all CV.one = true) (hr : n + cs.length ≤ 70368744177664)
    (k : ∀ s' lid' h', Lst h' 1 s' lid' (n + cs.length) (old ++ cs) → AppFr X h' lid n lid' cs.length → h'.low ≤ X.low → Q (K (.upd s' h'))) : Q (@thn _ β (builtinT Tryd.prog X .append [24, 24] [s, v]) ⟨K⟩) := by
  obtain ⟨v', id', h', e, l', f, hlow⟩ := app_any l ho hr
  rw [B.app, e]
  exact k _ _ _ l' f hlow

theorem lst_beq {h : H} {size : Nat} {v : CV} {id n : Nat} {cs : List CV} (l : Lst h size v id n cs) : beqC v v = true := by
  rcases l.val with ⟨_, rfl⟩ | ⟨_, rfl, _⟩
  · rfl
  · exact beqC_sl _ _ _ _
/-! ### the writer's methods -/
theorem WFr.up {a b : H} {w l : Nat} (x : WFr a b w l) (m : Nat) : WFr a (b.up m) w l := ⟨x.nx, x.gn, x.old⟩
theorem WrAt.up {h : H} {w lid : Nat} {fl : Bool} {bs : List Nat} (A : WrAt h w lid fl bs) (m : Nat) : WrAt (h.up m) w lid fl bs := A.ext' (Ext.up h m)
theorem WFr.trans {a b c : H} {w l l' : Nat} (x : WFr a b w l) (y : WFr b c w l') (hl : l' = l ∨ a.nx ≤ l') : WFr a c w l :=
  ⟨Nat.le_trans x.nx y.nx, y.gn.trans x.gn, fun k h1 h2 h3 => by
    rw [y.old k (Nat.lt_of_lt_of_le h1 x.nx) h2 (by omega)]; exact x.old k h1 h2 h3⟩

/-- a writer's state behind so much -/
def wput (s : Bool × List Nat) (p : Option (List Nat)) : Bool × List Nat := if s.1 then s else match p with | none => (true, s.2) | some l => (false, s.2 ++ l)

/-- what is handed on was changed below -/
def Lw (h : H) (w : Nat) (x : Option H) : Prop := ∀ h1, x = some h1 → h1.low ≤ w ∧ h1.low ≤ h.low
theorem Lw.none (h : H) (w : Nat) : Lw h w none := fun _ e => by cases e
theorem Lw.fin (h s : H) {w : Nat} (e : s.low ≤ w) : Lw h w (some (s.up (min h.low s.low))) := fun h1 q => by
  cases q; rw [up_low]; omega
def WOk (h : H) (w lid : Nat) (s : Bool × List Nat) (r : Option (CV × Option H)) : Prop :=
  ∃ x lid', r = some (.ptr w 0, x) ∧ WrAt (x.getD h) w lid' s.1 s.2 ∧ WFr h (x.getD h) w lid ∧ (lid' = lid ∨ h.nx ≤ lid') ∧ Lw h w x ∧ (x = none → s.1 = true)

def sizeOk (n : Int) : Bool := decide (n = 1 ∨ n = 2 ∨ n = 4 ∨ n = 8)
def numB (n : Nat) (k : Int) : Option (List Nat) := if sizeOk k then (if n / 256 ^ k.toNat = 0 then some (be n k.toNat) else none) else none

set_option maxRecDepth 100000 in
theorem number_run (hσ : ∀ f a h, told f = false → σ f a h = none) {h : H} {w lid : Nat} {fl : Bool} {bs : List Nat} (A : WrAt h w lid fl bs) (n : Nat) (hn : n < 2 ^ 64) (k : Int) (room : bs.length ≤ 1000000) :
    WOk h w lid (wput (fl, bs) (numB n k)) ((lim Tryd.prog σ).call 36 [.ptr w 0, .int .u64 (Int.ofNat n), .int .i64 k] h) := by
  obtain ⟨b, v, hb, hro, hbn, h0, h1, hl⟩ := A.blk
  have hw := wsize_run hσ h.lo k
  rw [call_eq (hσ _ _ _ (by decide)) fn_36 rfl rfl, Tryd.ntmps36, Tryd.results36]
  have hlt := A.lt
  cases fl
  · by_cases hs : k = 1 ∨ k = 2 ∨ k = 4 ∨ k = 8
    · rw [decide_eq_true hs] at hw
      obtain ⟨K, rfl, hK, hK8⟩ : ∃ K : Nat, k = Int.ofNat K ∧ 1 ≤ K ∧ K ≤ 8 := by
        rcases hs with rfl | rfl | rfl | rfl
        · exact ⟨1, rfl, by decide, by decide⟩
        · exact ⟨2, rfl, by decide, by decide⟩
        · exact ⟨4, rfl, by decide, by decide⟩
        · exact ⟨8, rfl, by decide, by decide⟩
      have e1 : IntKind.wrap .i64 (8 * Int.ofNat K) = Int.ofNat (8 * K) := by
        rw [wrap_i64 (by simp; omega) (by simp; omega)]; simp
      have e2 : IntKind.wrap .i64 (Int.ofNat K - 1) = Int.ofNat K - 1 := by
        rw [wrap_i64 (by simp; omega) (by simp; omega)]
      have e3 : 2 ^ (8 * K) = 256 ^ K := by rw [Nat.pow_mul]
      have hmin : min (8 * K) 64 = 8 * K := by omega
      have hn0 : numB n (Int.ofNat K) = if n / 256 ^ K = 0 then some (be n K) else none := by
        unfold numB
        rw [show sizeOk (Int.ofNat K) = true from decide_eq_true hs]
        rfl
      by_cases hz : n / 256 ^ K = 0
      · have hput : wput (false, bs) (numB n (Int.ofNat K)) = (false, bs ++ be n K) := by rw [hn0, if_pos hz]; rfl
        rw [hput]
        have hfit : Int.ofNat K < 8 ∨ ¬ Int.ofNat K < 8 := Classical.em _
        have hz' : Int.ofNat (n / 2 ^ (8 * K)) = 0 := by rw [e3, hz]; rfl
        rcases hfit with h8 | h8
        case' inl => simp only [go_sem, Nat.reduceLT, Nat.reduceLeDiff, Nat.reduceEqDiff, Nat.reduceAdd, Nat.reduceSub, Nat.reduceMul, reduceCtorEq, Int.reduceBEq, Int.reduceLT, Int.reduceLE, Int.reduceAdd, Int.reduceSub, Int.reduceEq, Int.reduceNeg, Int.reduceToNat, Int.reduceGT, Int.reduceGE, hw, hb, h0, h1, hbn, hro, bin_shr, fdiv_nat, e1, e2, isW_und, h8, IntKind.bits, hmin, hz']
        case' inr => simp only [go_sem, Nat.reduceLT, Nat.reduceLeDiff, Nat.reduceEqDiff, Nat.reduceAdd, Nat.reduceSub, Nat.reduceMul, reduceCtorEq, Int.reduceBEq, Int.reduceLT, Int.reduceLE, Int.reduceAdd, Int.reduceSub, Int.reduceEq, Int.reduceNeg, Int.reduceToNat, Int.reduceGT, Int.reduceGE, hw, hb, h0, h1, hbn, hro, bin_shr, fdiv_nat, e1, e2, isW_und, h8]
        all_goals
          refine loop_ind (Q := WOk h w lid (false, bs ++ be n K)) (fun i env h' => evT env 0 = .ptr w 0 ∧ evT env 1 = .int .u64 (Int.ofNat n) ∧ evT env 7 = .int .i64 (Int.ofNat K - 1 - Int.ofNat i) ∧ ∃ lid', WrAt h' w lid' false (bs ++ (be n K).take i) ∧ WFr h h' w lid ∧ (lid' = lid ∨ h.nx ≤ lid') ∧ (0 < i → h'.low ≤ w)) K 0 ?_ (Nat.zero_le _) ?_ ?_
          · refine ⟨by simp only [go_sem, Nat.reduceLT, Nat.reduceLeDiff, Nat.reduceEqDiff, Nat.reduceAdd, Nat.reduceSub, Nat.reduceMul, reduceCtorEq, Int.reduceBEq, Int.reduceLT, Int.reduceLE, Int.reduceAdd, Int.reduceSub, Int.reduceEq, Int.reduceNeg, Int.reduceToNat, Int.reduceGT, Int.reduceGE], by simp only [go_sem, Nat.reduceLT, Nat.reduceLeDiff, Nat.reduceEqDiff, Nat.reduceAdd, Nat.reduceSub, Nat.reduceMul, reduceCtorEq, Int.reduceBEq, Int.reduceLT, Int.reduceLE, Int.reduceAdd, Int.reduceSub, Int.reduceEq, Int.reduceNeg, Int.reduceToNat, Int.reduceGT, Int.reduceGE], ?_, lid, ?_, ⟨Nat.le_refl _, rfl, fun _ _ _ _ => rfl⟩, .inl rfl, fun h => absurd h (by decide)⟩
            · simp only [go_sem, Nat.reduceLT, Nat.reduceLeDiff, Nat.reduceEqDiff, Nat.reduceAdd, Nat.reduceSub, Nat.reduceMul, reduceCtorEq, Int.reduceBEq, Int.reduceLT, Int.reduceLE, Int.reduceAdd, Int.reduceSub, Int.reduceEq, Int.reduceNeg, Int.reduceToNat, Int.reduceGT, Int.reduceGE]; congr 1; simp
            · simp only [List.take_zero, List.append_nil]; exact A.ext' (Ext.lo h)
          · rintro i env h' ⟨q0, q1, q7, lid', A', F', hl', _⟩ hi next
            obtain ⟨b', v', hb', hro', hbn', h0', h1', hls⟩ := A'.blk
            obtain ⟨j, hj⟩ : ∃ j, K - 1 - i = j := ⟨_, rfl⟩
            have q7' : evT env 7 = .int .i64 (Int.ofNat j) := by rw [q7]; congr 1; simp; omega
            have c1 : Int.ofNat j ≥ 0 := Int.natCast_nonneg _
            have c2 : IntKind.wrap .i64 (8 * Int.ofNat j) = Int.ofNat (8 * j) := by
              rw [wrap_i64 (by simp; omega) (by simp; omega)]; simp
            simp only [go_sem, Nat.reduceLT, Nat.reduceLeDiff, Nat.reduceEqDiff, Nat.reduceAdd, Nat.reduceSub, Nat.reduceMul, reduceCtorEq, Int.reduceBEq, Int.reduceLT, Int.reduceLE, Int.reduceAdd, Int.reduceSub, Int.reduceEq, Int.reduceNeg, Int.reduceToNat, Int.reduceGT, Int.reduceGE, q0, q1, q7', c1, c2, hb', h0', h1', hro', hbn', bin_shr, fdiv_nat, wrap_u8]
            rw [cnd_closed]
            rotate_left
            · kernel_rfl
            simp only [go_sem, Nat.reduceLT, Nat.reduceLeDiff, Nat.reduceEqDiff, Nat.reduceAdd, Nat.reduceSub, Nat.reduceMul, reduceCtorEq, Int.reduceBEq, Int.reduceLT, Int.reduceLE, Int.reduceAdd, Int.reduceSub, Int.reduceEq, Int.reduceNeg, Int.reduceToNat, Int.reduceGT, Int.reduceGE, q0, q1, q7', c1, c2, hb', h0', h1', hro', hbn', bin_shr, fdiv_nat, wrap_u8]
            have hlen : (bs ++ (be n K).take i).length ≤ 1000008 := by simp [be]; omega
            have hlt' := A'.lt
            have hnw := A'.ne
            refine app_step (Q := WOk h w lid (false, bs ++ be n K)) (m := 1) (by_ := 1) (hls.ext (Ext.alloc _ _)) (by decide) rfl rfl rfl (by decide) (by omega) (by omega) ?_
            intro h2 l2 hnx2 hgn2 hold2 hlow2 _
            have hb2 := blk_eq (hold2 w (by simp only [go_sem, Nat.reduceLT, Nat.reduceLeDiff, Nat.reduceEqDiff, Nat.reduceAdd, Nat.reduceSub, Nat.reduceMul, reduceCtorEq, Int.reduceBEq, Int.reduceLT, Int.reduceLE, Int.reduceAdd, Int.reduceSub, Int.reduceEq, Int.reduceNeg, Int.reduceToNat, Int.reduceGT, Int.reduceGE]; omega) fun q e => hnw (by omega) e)
            have hne1 : w ≠ h'.nx := by omega
            simp only [go_sem, Nat.reduceLT, Nat.reduceLeDiff, Nat.reduceEqDiff, Nat.reduceAdd, Nat.reduceSub, Nat.reduceMul, reduceCtorEq, Int.reduceBEq, Int.reduceLT, Int.reduceLE, Int.reduceAdd, Int.reduceSub, Int.reduceEq, Int.reduceNeg, Int.reduceToNat, Int.reduceGT, Int.reduceGE, hne1] at l2 hnx2 hgn2 hold2 hlow2 hb2
            rw [hb'] at hb2
            have c3 : IntKind.wrap .i64 (Int.ofNat j - 1) = Int.ofNat K - 1 - Int.ofNat (i + 1) := by
              rw [wrap_i64 (by simp; omega) (by simp; omega)]; simp; omega
            simp only [go_sem, Nat.reduceLT, Nat.reduceLeDiff, Nat.reduceEqDiff, Nat.reduceAdd, Nat.reduceSub, Nat.reduceMul, reduceCtorEq, Int.reduceBEq, Int.reduceLT, Int.reduceLE, Int.reduceAdd, Int.reduceSub, Int.reduceEq, Int.reduceNeg, Int.reduceToNat, Int.reduceGT, Int.reduceGE, q0, q1, q7', c1, c2, c3, hb', hb2, h0', h1', hro', hbn', l2.one, hne1, bin_shr, fdiv_nat, wrap_u8, lst_beq hls]
            rw [cnd_closed]
            rotate_left
            · kernel_rfl
            simp only [go_sem, Nat.reduceLT, Nat.reduceLeDiff, Nat.reduceEqDiff, Nat.reduceAdd, Nat.reduceSub, Nat.reduceMul, reduceCtorEq, Int.reduceBEq, Int.reduceLT, Int.reduceLE, Int.reduceAdd, Int.reduceSub, Int.reduceEq, Int.reduceNeg, Int.reduceToNat, Int.reduceGT, Int.reduceGE, q0, q1, q7', c1, c2, c3, hb', hb2, h0', h1', hro', hbn', l2.one, hne1, bin_shr, fdiv_nat, wrap_u8, lst_beq hls]
            rw [cond_al (i := 4) (d := [10, 11, 14])]
            rotate_left
            · kernel_rfl
            simp only [go_sem, Nat.reduceLT, Nat.reduceLeDiff, Nat.reduceEqDiff, Nat.reduceAdd, Nat.reduceSub, Nat.reduceMul, reduceCtorEq, Int.reduceBEq, Int.reduceLT, Int.reduceLE, Int.reduceAdd, Int.reduceSub, Int.reduceEq, Int.reduceNeg, Int.reduceToNat, Int.reduceGT, Int.reduceGE, q0, q1, q7', c1, c2, c3, hb', hb2, h0', h1', hro', hbn', l2.one, hne1, bin_shr, fdiv_nat, wrap_u8, lst_beq hls]
            refine next _ _ ⟨by simp only [go_sem, Nat.reduceLT, Nat.reduceLeDiff, Nat.reduceEqDiff, Nat.reduceAdd, Nat.reduceSub, Nat.reduceMul, reduceCtorEq, Int.reduceBEq, Int.reduceLT, Int.reduceLE, Int.reduceAdd, Int.reduceSub, Int.reduceEq, Int.reduceNeg, Int.reduceToNat, Int.reduceGT, Int.reduceGE, q0], by simp only [go_sem, Nat.reduceLT, Nat.reduceLeDiff, Nat.reduceEqDiff, Nat.reduceAdd, Nat.reduceSub, Nat.reduceMul, reduceCtorEq, Int.reduceBEq, Int.reduceLT, Int.reduceLE, Int.reduceAdd, Int.reduceSub, Int.reduceEq, Int.reduceNeg, Int.reduceToNat, Int.reduceGT, Int.reduceGE, q1], by simp only [go_sem, Nat.reduceLT, Nat.reduceLeDiff, Nat.reduceEqDiff, Nat.reduceAdd, Nat.reduceSub, Nat.reduceMul, reduceCtorEq, Int.reduceBEq, Int.reduceLT, Int.reduceLE, Int.reduceAdd, Int.reduceSub, Int.reduceEq, Int.reduceNeg, Int.reduceToNat, Int.reduceGT, Int.reduceGE], h'.nx + 1, ?_, ?_, .inr (by have := F'.nx; omega), fun _ => ?_⟩
            · simp only [go_sem, Nat.reduceLT, Nat.reduceLeDiff, Nat.reduceEqDiff, Nat.reduceAdd, Nat.reduceSub, Nat.reduceMul, reduceCtorEq, Int.reduceBEq, Int.reduceLT, Int.reduceLE, Int.reduceAdd, Int.reduceSub, Int.reduceEq, Int.reduceNeg, Int.reduceToNat, Int.reduceGT, Int.reduceGE]
              have hdig : n / 2 ^ min (8 * j) 64 % 256 = dig n K i := by
                unfold dig; rw [hj, show min (8 * j) 64 = 8 * j by omega]
              have htk : bs ++ (be n K).take (i + 1) = (bs ++ (be n K).take i) ++ [dig n K i] := by
                rw [List.append_assoc]; congr 1
                rw [List.take_add_one]
                simp [be, hi]
              rw [hdig] at l2
              rw [htk]
              refine ⟨by first | (simp only [go_sem, Nat.reduceLT, Nat.reduceLeDiff, Nat.reduceEqDiff, Nat.reduceAdd, Nat.reduceSub, Nat.reduceMul, reduceCtorEq, Int.reduceBEq, Int.reduceLT, Int.reduceLE, Int.reduceAdd, Int.reduceSub, Int.reduceEq, Int.reduceNeg, Int.reduceToNat, Int.reduceGT, Int.reduceGE]; omega) | simp only [go_sem, Nat.reduceLT, Nat.reduceLeDiff, Nat.reduceEqDiff, Nat.reduceAdd, Nat.reduceSub, Nat.reduceMul, reduceCtorEq, Int.reduceBEq, Int.reduceLT, Int.reduceLE, Int.reduceAdd, Int.reduceSub, Int.reduceEq, Int.reduceNeg, Int.reduceToNat, Int.reduceGT, Int.reduceGE], fun _ => (by omega : w ≠ h'.nx + 1), _, _, put_blk_same _ _ _, by simp only [go_sem, Nat.reduceLT, Nat.reduceLeDiff, Nat.reduceEqDiff, Nat.reduceAdd, Nat.reduceSub, Nat.reduceMul, reduceCtorEq, Int.reduceBEq, Int.reduceLT, Int.reduceLE, Int.reduceAdd, Int.reduceSub, Int.reduceEq, Int.reduceNeg, Int.reduceToNat, Int.reduceGT, Int.reduceGE, hro'], by simp only [go_sem, Nat.reduceLT, Nat.reduceLeDiff, Nat.reduceEqDiff, Nat.reduceAdd, Nat.reduceSub, Nat.reduceMul, reduceCtorEq, Int.reduceBEq, Int.reduceLT, Int.reduceLE, Int.reduceAdd, Int.reduceSub, Int.reduceEq, Int.reduceNeg, Int.reduceToNat, Int.reduceGT, Int.reduceGE, hbn'], by simp only [go_sem, Nat.reduceLT, Nat.reduceLeDiff, Nat.reduceEqDiff, Nat.reduceAdd, Nat.reduceSub, Nat.reduceMul, reduceCtorEq, Int.reduceBEq, Int.reduceLT, Int.reduceLE, Int.reduceAdd, Int.reduceSub, Int.reduceEq, Int.reduceNeg, Int.reduceToNat, Int.reduceGT, Int.reduceGE, hbn']; rfl, by simp only [go_sem, Nat.reduceLT, Nat.reduceLeDiff, Nat.reduceEqDiff, Nat.reduceAdd, Nat.reduceSub, Nat.reduceMul, reduceCtorEq, Int.reduceBEq, Int.reduceLT, Int.reduceLE, Int.reduceAdd, Int.reduceSub, Int.reduceEq, Int.reduceNeg, Int.reduceToNat, Int.reduceGT, Int.reduceGE, h1'], ?_⟩
              rw [show (bs ++ List.take i (be n K) ++ [dig n K i]).length = (bs ++ List.take i (be n K)).length + 1 by rw [List.length_append (bs := [dig n K i])]; rfl, bc_app (bs ++ List.take i (be n K))]
              have hne2 : h'.nx + 1 ≠ w := by omega
              exact Lst.mono (h := h2) l2 (by first | (simp only [go_sem, Nat.reduceLT, Nat.reduceLeDiff, Nat.reduceEqDiff, Nat.reduceAdd, Nat.reduceSub, Nat.reduceMul, reduceCtorEq, Int.reduceBEq, Int.reduceLT, Int.reduceLE, Int.reduceAdd, Int.reduceSub, Int.reduceEq, Int.reduceNeg, Int.reduceToNat, Int.reduceGT, Int.reduceGE]; omega) | simp only [go_sem, Nat.reduceLT, Nat.reduceLeDiff, Nat.reduceEqDiff, Nat.reduceAdd, Nat.reduceSub, Nat.reduceMul, reduceCtorEq, Int.reduceBEq, Int.reduceLT, Int.reduceLE, Int.reduceAdd, Int.reduceSub, Int.reduceEq, Int.reduceNeg, Int.reduceToNat, Int.reduceGT, Int.reduceGE]) fun _ => by simp only [go_sem, Nat.reduceLT, Nat.reduceLeDiff, Nat.reduceEqDiff, Nat.reduceAdd, Nat.reduceSub, Nat.reduceMul, reduceCtorEq, Int.reduceBEq, Int.reduceLT, Int.reduceLE, Int.reduceAdd, Int.reduceSub, Int.reduceEq, Int.reduceNeg, Int.reduceToNat, Int.reduceGT, Int.reduceGE, hne2]
            · simp only [go_sem, Nat.reduceLT, Nat.reduceLeDiff, Nat.reduceEqDiff, Nat.reduceAdd, Nat.reduceSub, Nat.reduceMul, reduceCtorEq, Int.reduceBEq, Int.reduceLT, Int.reduceLE, Int.reduceAdd, Int.reduceSub, Int.reduceEq, Int.reduceNeg, Int.reduceToNat, Int.reduceGT, Int.reduceGE]
              refine ⟨by have := F'.nx; simp only [go_sem, Nat.reduceLT, Nat.reduceLeDiff, Nat.reduceEqDiff, Nat.reduceAdd, Nat.reduceSub, Nat.reduceMul, reduceCtorEq, Int.reduceBEq, Int.reduceLT, Int.reduceLE, Int.reduceAdd, Int.reduceSub, Int.reduceEq, Int.reduceNeg, Int.reduceToNat, Int.reduceGT, Int.reduceGE]; omega, by simp only [go_sem, Nat.reduceLT, Nat.reduceLeDiff, Nat.reduceEqDiff, Nat.reduceAdd, Nat.reduceSub, Nat.reduceMul, reduceCtorEq, Int.reduceBEq, Int.reduceLT, Int.reduceLE, Int.reduceAdd, Int.reduceSub, Int.reduceEq, Int.reduceNeg, Int.reduceToNat, Int.reduceGT, Int.reduceGE]; rw [hgn2]; exact F'.gn, fun k k1 k2 k3 => ?_⟩
              have := F'.nx
              rw [put_get_ne _ _ _ _ k2, hold2 k (by omega) (by omega), alloc_get_ne _ _ _ (by omega)]
              exact F'.old k k1 k2 k3
            · simp only [go_sem, Nat.reduceLT, Nat.reduceLeDiff, Nat.reduceEqDiff, Nat.reduceAdd, Nat.reduceSub, Nat.reduceMul, reduceCtorEq, Int.reduceBEq, Int.reduceLT, Int.reduceLE, Int.reduceAdd, Int.reduceSub, Int.reduceEq, Int.reduceNeg, Int.reduceToNat, Int.reduceGT, Int.reduceGE]
              omega
          · rintro env h' ⟨q0, q1, q7, lid', A', F', hl', hlow⟩
            have q7' : evT env 7 = .int .i64 (-1) := by rw [q7]; congr 1; simp; omega
            have htk : (be n K).take K = be n K := List.take_of_length_le (by simp [be])
            simp only [go_sem, Nat.reduceLT, Nat.reduceLeDiff, Nat.reduceEqDiff, Nat.reduceAdd, Nat.reduceSub, Nat.reduceMul, reduceCtorEq, Int.reduceBEq, Int.reduceLT, Int.reduceLE, Int.reduceAdd, Int.reduceSub, Int.reduceEq, Int.reduceNeg, Int.reduceToNat, Int.reduceGT, Int.reduceGE, q0, q1, q7']
            rw [fin_l _ _ _ (Nat.lt_of_le_of_lt (hlow (by omega)) hlt)]
            rw [htk] at A'; exact ⟨_, lid', rfl, A'.up _, F'.up _, hl', Lw.fin _ _ (hlow (by omega)), fun q => by cases q⟩
      · have hput : wput (false, bs) (numB n (Int.ofNat K)) = (true, bs) := by rw [hn0, if_neg hz]; rfl
        rw [hput]
        have h8 : Int.ofNat K < 8 := by
          by_cases q : K = 8
          · subst q; exact absurd (Nat.div_eq_of_lt (by simpa using hn)) hz
          · simp; omega
        have hz' : ¬ Int.ofNat (n / 2 ^ (8 * K)) = 0 := by rw [e3]; intro q; exact hz (Int.ofNat.inj q)
        simp only [go_sem, Nat.reduceLT, Nat.reduceLeDiff, Nat.reduceEqDiff, Nat.reduceAdd, Nat.reduceSub, Nat.reduceMul, reduceCtorEq, Int.reduceBEq, Int.reduceLT, Int.reduceLE, Int.reduceAdd, Int.reduceSub, Int.reduceEq, Int.reduceNeg, Int.reduceToNat, Int.reduceGT, Int.reduceGE, hw, hb, h0, h1, hbn, hro, bin_shr, fdiv_nat, e1, e2, isW_und, h8, IntKind.bits, hmin, hz']
        rw [fin_l _ _ _ (by simp only [go_sem, Nat.reduceLT, Nat.reduceLeDiff, Nat.reduceEqDiff, Nat.reduceAdd, Nat.reduceSub, Nat.reduceMul, reduceCtorEq, Int.reduceBEq, Int.reduceLT, Int.reduceLE, Int.reduceAdd, Int.reduceSub, Int.reduceEq, Int.reduceNeg, Int.reduceToNat, Int.reduceGT, Int.reduceGE]; omega)]
        exact ⟨_, lid, rfl, ⟨A.lt, A.ne, _, _, put_blk_same _ _ _, hro, hbn, by simp only [go_sem, Nat.reduceLT, Nat.reduceLeDiff, Nat.reduceEqDiff, Nat.reduceAdd, Nat.reduceSub, Nat.reduceMul, reduceCtorEq, Int.reduceBEq, Int.reduceLT, Int.reduceLE, Int.reduceAdd, Int.reduceSub, Int.reduceEq, Int.reduceNeg, Int.reduceToNat, Int.reduceGT, Int.reduceGE, h0], by simp only [go_sem, Nat.reduceLT, Nat.reduceLeDiff, Nat.reduceEqDiff, Nat.reduceAdd, Nat.reduceSub, Nat.reduceMul, reduceCtorEq, Int.reduceBEq, Int.reduceLT, Int.reduceLE, Int.reduceAdd, Int.reduceSub, Int.reduceEq, Int.reduceNeg, Int.reduceToNat, Int.reduceGT, Int.reduceGE, hbn], hl.mono (Nat.le_refl _) fun hne => by simp only [go_sem, Nat.reduceLT, Nat.reduceLeDiff, Nat.reduceEqDiff, Nat.reduceAdd, Nat.reduceSub, Nat.reduceMul, reduceCtorEq, Int.reduceBEq, Int.reduceLT, Int.reduceLE, Int.reduceAdd, Int.reduceSub, Int.reduceEq, Int.reduceNeg, Int.reduceToNat, Int.reduceGT, Int.reduceGE, (A.ne hne).symm]⟩, ⟨Nat.le_refl _, rfl, fun k h1 h2 h3 => put_get_ne _ _ _ _ h2⟩, .inl rfl, Lw.fin _ _ (by simp only [go_sem, Nat.reduceLT, Nat.reduceLeDiff, Nat.reduceEqDiff, Nat.reduceAdd, Nat.reduceSub, Nat.reduceMul, reduceCtorEq, Int.reduceBEq, Int.reduceLT, Int.reduceLE, Int.reduceAdd, Int.reduceSub, Int.reduceEq, Int.reduceNeg, Int.reduceToNat, Int.reduceGT, Int.reduceGE]; omega), fun q => by cases q⟩
    · have hput : wput (false, bs) (numB n k) = (true, bs) := by
        unfold numB
        rw [show sizeOk k = false from decide_eq_false hs]; rfl
      rw [decide_eq_false hs] at hw
      simp only [go_sem, Nat.reduceLT, Nat.reduceLeDiff, Nat.reduceEqDiff, Nat.reduceAdd, Nat.reduceSub, Nat.reduceMul, reduceCtorEq, Int.reduceBEq, Int.reduceLT, Int.reduceLE, Int.reduceAdd, Int.reduceSub, Int.reduceEq, Int.reduceNeg, Int.reduceToNat, Int.reduceGT, Int.reduceGE, hw, hb, h0, h1, hbn, hro, isW_und]
      rw [fin_l _ _ _ (by simp only [go_sem, Nat.reduceLT, Nat.reduceLeDiff, Nat.reduceEqDiff, Nat.reduceAdd, Nat.reduceSub, Nat.reduceMul, reduceCtorEq, Int.reduceBEq, Int.reduceLT, Int.reduceLE, Int.reduceAdd, Int.reduceSub, Int.reduceEq, Int.reduceNeg, Int.reduceToNat, Int.reduceGT, Int.reduceGE]; omega), hput]
      exact ⟨_, lid, rfl, ⟨A.lt, A.ne, _, _, put_blk_same _ _ _, hro, hbn, by simp only [go_sem, Nat.reduceLT, Nat.reduceLeDiff, Nat.reduceEqDiff, Nat.reduceAdd, Nat.reduceSub, Nat.reduceMul, reduceCtorEq, Int.reduceBEq, Int.reduceLT, Int.reduceLE, Int.reduceAdd, Int.reduceSub, Int.reduceEq, Int.reduceNeg, Int.reduceToNat, Int.reduceGT, Int.reduceGE, h0], by simp only [go_sem, Nat.reduceLT, Nat.reduceLeDiff, Nat.reduceEqDiff, Nat.reduceAdd, Nat.reduceSub, Nat.reduceMul, reduceCtorEq, Int.reduceBEq, Int.reduceLT, Int.reduceLE, Int.reduceAdd, Int.reduceSub, Int.reduceEq, Int.reduceNeg, Int.reduceToNat, Int.reduceGT, Int.reduceGE, hbn], hl.mono (Nat.le_refl _) fun hne => by simp only [go_sem, Nat.reduceLT, Nat.reduceLeDiff, Nat.reduceEqDiff, Nat.reduceAdd, Nat.reduceSub, Nat.reduceMul, reduceCtorEq, Int.reduceBEq, Int.reduceLT, Int.reduceLE, Int.reduceAdd, Int.reduceSub, Int.reduceEq, Int.reduceNeg, Int.reduceToNat, Int.reduceGT, Int.reduceGE, (A.ne hne).symm]⟩, ⟨Nat.le_refl _, rfl, fun k h1 h2 h3 => put_get_ne _ _ _ _ h2⟩, .inl rfl, Lw.fin _ _ (by simp only [go_sem, Nat.reduceLT, Nat.reduceLeDiff, Nat.reduceEqDiff, Nat.reduceAdd, Nat.reduceSub, Nat.reduceMul, reduceCtorEq, Int.reduceBEq, Int.reduceLT, Int.reduceLE, Int.reduceAdd, Int.reduceSub, Int.reduceEq, Int.reduceNeg, Int.reduceToNat, Int.reduceGT, Int.reduceGE]; omega), fun q => by cases q⟩
  · simp only [go_sem, Nat.reduceLT, Nat.reduceLeDiff, Nat.reduceEqDiff, Nat.reduceAdd, Nat.reduceSub, Nat.reduceMul, reduceCtorEq, Int.reduceBEq, Int.reduceLT, Int.reduceLE, Int.reduceAdd, Int.reduceSub, Int.reduceEq, Int.reduceNeg, Int.reduceToNat, Int.reduceGT, Int.reduceGE, hw, hb, h0, h1, hbn, hro]
    rw [fin_q _ _ _ rfl (by simp only [go_sem, Nat.reduceLT, Nat.reduceLeDiff, Nat.reduceEqDiff, Nat.reduceAdd, Nat.reduceSub, Nat.reduceMul, reduceCtorEq, Int.reduceBEq, Int.reduceLT, Int.reduceLE, Int.reduceAdd, Int.reduceSub, Int.reduceEq, Int.reduceNeg, Int.reduceToNat, Int.reduceGT, Int.reduceGE]; exact decide_eq_true A.lt)]
    exact ⟨_, lid, rfl, A, WFr.refl _ _ _, .inl rfl, Lw.none _ _, fun _ => rfl⟩

theorem be_len (n k : Nat) : (be n k).length = k := by simp [be]

/-- the end of a method that answers its writer, behind a call of another one -/
theorem wok_fin {h : H} {w lid lid' : Nat} {p : Bool × List Nat} {y : Option H} (A : WrAt (y.getD h.lo) w lid' p.1 p.2) (F : WFr h.lo (y.getD h.lo) w lid) (hl : lid' = lid ∨ h.nx ≤ lid') (hw : w < h.nx) (hy : Lw h.lo w y) (h2 : y = none → p.1 = true) :
    WOk h w lid p (some (fin h (y.getD h.lo) (.ptr w 0))) := by
  cases y with
  | none =>
    rw [fin_q h _ _ rfl (by simp only [go_sem, Nat.reduceLT, Nat.reduceLeDiff, Nat.reduceEqDiff, Nat.reduceAdd, Nat.reduceSub, Nat.reduceMul, reduceCtorEq, Int.reduceBEq, Int.reduceLT, Int.reduceLE, Int.reduceAdd, Int.reduceSub, Int.reduceEq, Int.reduceNeg, Int.reduceToNat, Int.reduceGT, Int.reduceGE]; exact decide_eq_true hw)]
    exact ⟨_, lid', rfl, A.unlo, WFr.refl _ _ _, hl, Lw.none _ _, fun _ => h2 rfl⟩
  | some h1 =>
    have q := hy h1 rfl
    rw [Option.getD_some]
    rw [fin_l h _ _ (Nat.lt_of_le_of_lt q.1 hw)]
    exact ⟨_, lid', rfl, A.up _, ⟨F.nx, F.gn, F.old⟩, hl, Lw.fin _ _ q.1, fun q => by cases q⟩

theorem wok_fin2 {h : H} {w lid lid' : Nat} {p : Bool × List Nat} {y z : Option H} (A : WrAt (z.getD (y.getD h.lo)) w lid' p.1 p.2) (F : WFr h.lo (z.getD (y.getD h.lo)) w lid) (hl : lid' = lid ∨ h.nx ≤ lid') (hw : w < h.nx) (hy : Lw h.lo w y) (hz : Lw (y.getD h.lo) w z) (h2 : z = none → p.1 = true) :
    WOk h w lid p (some (fin h (z.getD (y.getD h.lo)) (.ptr w 0))) := by
  cases z with
  | none => exact wok_fin A F hl hw hy fun _ => h2 rfl
  | some b =>
    refine wok_fin (y := some b) A F hl hw (fun h1 e => ?_) fun q => by cases q
    cases e
    have t := hz _ rfl
    cases y with
    | none => exact t
    | some a =>
      have q := hy _ rfl
      rw [Option.getD_some] at t
      exact ⟨by omega, by omega⟩

theorem bytes_run (hσ : ∀ f a h, told f = false → σ f a h = none) {h : H} {w lid : Nat} {fl : Bool} {bs : List Nat} (A : WrAt h w lid fl bs) {v : CV} {xs : List Nat} (B : BSl h v (bc xs)) (room : bs.length + xs.length ≤ 1000000) :
    WOk h w lid (wput (fl, bs) (some xs)) ((lim Tryd.prog σ).call 35 [.ptr w 0, v] h) := by
  obtain ⟨b, s, hb, hro, hbn, h0, h1, hl⟩ := A.blk
  have hlt := A.lt
  rw [call_eq (hσ _ _ _ (by decide)) fn_35 rfl rfl, Tryd.ntmps35, Tryd.results35]
  cases fl
  · simp only [go_sem, Nat.reduceLT, Nat.reduceLeDiff, Nat.reduceEqDiff, Nat.reduceAdd, Nat.reduceSub, Nat.reduceMul, reduceCtorEq, Int.reduceBEq, Int.reduceLT, Int.reduceLE, Int.reduceAdd, Int.reduceSub, Int.reduceEq, Int.reduceNeg, Int.reduceToNat, Int.reduceGT, Int.reduceGE, hb, h0, h1, hbn, hro]
    refine appb_step (Q := WOk h w lid _) (hl.ext (Ext.lo _)) (B.ext (Ext.lo _)) (bc_one _) (by rw [bc_len]; omega) ?_
    intro s' lid' h' l' f hlow
    have hb2 := blk_eq (f.old w hlt fun q e => A.ne q e)
    simp only [go_sem, Nat.reduceLT, Nat.reduceLeDiff, Nat.reduceEqDiff, Nat.reduceAdd, Nat.reduceSub, Nat.reduceMul, reduceCtorEq, Int.reduceBEq, Int.reduceLT, Int.reduceLE, Int.reduceAdd, Int.reduceSub, Int.reduceEq, Int.reduceNeg, Int.reduceToNat, Int.reduceGT, Int.reduceGE] at hb2 hlow
    simp only [go_sem, Nat.reduceLT, Nat.reduceLeDiff, Nat.reduceEqDiff, Nat.reduceAdd, Nat.reduceSub, Nat.reduceMul, reduceCtorEq, Int.reduceBEq, Int.reduceLT, Int.reduceLE, Int.reduceAdd, Int.reduceSub, Int.reduceEq, Int.reduceNeg, Int.reduceToNat, Int.reduceGT, Int.reduceGE, hb, hb2, h0, h1, hbn, hro, l'.one]
    have hnx := f.nx
    have hid := f.id
    rw [bc_len] at hid
    simp only [go_sem, Nat.reduceLT, Nat.reduceLeDiff, Nat.reduceEqDiff, Nat.reduceAdd, Nat.reduceSub, Nat.reduceMul, reduceCtorEq, Int.reduceBEq, Int.reduceLT, Int.reduceLE, Int.reduceAdd, Int.reduceSub, Int.reduceEq, Int.reduceNeg, Int.reduceToNat, Int.reduceGT, Int.reduceGE] at hnx hid
    have hne : (bs ++ xs).length ≠ 0 → w ≠ lid' := fun q => by
      rcases hid with ⟨r1, r2⟩ | r
      · rw [r1]; exact A.ne (by rw [List.length_append] at q; omega)
      · omega
    rw [fin_l _ _ _ (by simp only [go_sem, Nat.reduceLT, Nat.reduceLeDiff, Nat.reduceEqDiff, Nat.reduceAdd, Nat.reduceSub, Nat.reduceMul, reduceCtorEq, Int.reduceBEq, Int.reduceLT, Int.reduceLE, Int.reduceAdd, Int.reduceSub, Int.reduceEq, Int.reduceNeg, Int.reduceToNat, Int.reduceGT, Int.reduceGE]; omega)]
    refine ⟨_, lid', rfl, WrAt.up ⟨by simp only [go_sem, Nat.reduceLT, Nat.reduceLeDiff, Nat.reduceEqDiff, Nat.reduceAdd, Nat.reduceSub, Nat.reduceMul, reduceCtorEq, Int.reduceBEq, Int.reduceLT, Int.reduceLE, Int.reduceAdd, Int.reduceSub, Int.reduceEq, Int.reduceNeg, Int.reduceToNat, Int.reduceGT, Int.reduceGE]; omega, hne, _, _, put_blk_same _ _ _, by simp only [go_sem, Nat.reduceLT, Nat.reduceLeDiff, Nat.reduceEqDiff, Nat.reduceAdd, Nat.reduceSub, Nat.reduceMul, reduceCtorEq, Int.reduceBEq, Int.reduceLT, Int.reduceLE, Int.reduceAdd, Int.reduceSub, Int.reduceEq, Int.reduceNeg, Int.reduceToNat, Int.reduceGT, Int.reduceGE, hro], by simp only [go_sem, Nat.reduceLT, Nat.reduceLeDiff, Nat.reduceEqDiff, Nat.reduceAdd, Nat.reduceSub, Nat.reduceMul, reduceCtorEq, Int.reduceBEq, Int.reduceLT, Int.reduceLE, Int.reduceAdd, Int.reduceSub, Int.reduceEq, Int.reduceNeg, Int.reduceToNat, Int.reduceGT, Int.reduceGE, hbn], by simp only [go_sem, Nat.reduceLT, Nat.reduceLeDiff, Nat.reduceEqDiff, Nat.reduceAdd, Nat.reduceSub, Nat.reduceMul, reduceCtorEq, Int.reduceBEq, Int.reduceLT, Int.reduceLE, Int.reduceAdd, Int.reduceSub, Int.reduceEq, Int.reduceNeg, Int.reduceToNat, Int.reduceGT, Int.reduceGE, hbn]; rfl, by simp only [go_sem, Nat.reduceLT, Nat.reduceLeDiff, Nat.reduceEqDiff, Nat.reduceAdd, Nat.reduceSub, Nat.reduceMul, reduceCtorEq, Int.reduceBEq, Int.reduceLT, Int.reduceLE, Int.reduceAdd, Int.reduceSub, Int.reduceEq, Int.reduceNeg, Int.reduceToNat, Int.reduceGT, Int.reduceGE, h1]; rfl, ?_⟩ _, WFr.up ⟨by simp only [go_sem, Nat.reduceLT, Nat.reduceLeDiff, Nat.reduceEqDiff, Nat.reduceAdd, Nat.reduceSub, Nat.reduceMul, reduceCtorEq, Int.reduceBEq, Int.reduceLT, Int.reduceLE, Int.reduceAdd, Int.reduceSub, Int.reduceEq, Int.reduceNeg, Int.reduceToNat, Int.reduceGT, Int.reduceGE]; omega, by simp only [go_sem, Nat.reduceLT, Nat.reduceLeDiff, Nat.reduceEqDiff, Nat.reduceAdd, Nat.reduceSub, Nat.reduceMul, reduceCtorEq, Int.reduceBEq, Int.reduceLT, Int.reduceLE, Int.reduceAdd, Int.reduceSub, Int.reduceEq, Int.reduceNeg, Int.reduceToNat, Int.reduceGT, Int.reduceGE]; exact f.gn, fun k k1 k2 k3 => ?_⟩ _, by omega, Lw.fin _ _ (by simp only [go_sem, Nat.reduceLT, Nat.reduceLeDiff, Nat.reduceEqDiff, Nat.reduceAdd, Nat.reduceSub, Nat.reduceMul, reduceCtorEq, Int.reduceBEq, Int.reduceLT, Int.reduceLE, Int.reduceAdd, Int.reduceSub, Int.reduceEq, Int.reduceNeg, Int.reduceToNat, Int.reduceGT, Int.reduceGE]; omega), fun q => by cases q⟩
    · show Lst _ 1 s' lid' (bs ++ xs).length (bc (bs ++ xs))
      rw [List.length_append, bc_app]
      rw [bc_len] at l'
      refine l'.mono (by rw [put_nx]; exact Nat.le_refl _) fun q => ?_
      have : lid' ≠ w := fun e => hne (by rw [List.length_append]; exact q) e.symm
      simp only [go_sem, Nat.reduceLT, Nat.reduceLeDiff, Nat.reduceEqDiff, Nat.reduceAdd, Nat.reduceSub, Nat.reduceMul, reduceCtorEq, Int.reduceBEq, Int.reduceLT, Int.reduceLE, Int.reduceAdd, Int.reduceSub, Int.reduceEq, Int.reduceNeg, Int.reduceToNat, Int.reduceGT, Int.reduceGE, this]
    · rw [put_get_ne _ _ _ _ k2]
      exact f.old k k1 fun _ => k3
  · simp only [go_sem, Nat.reduceLT, Nat.reduceLeDiff, Nat.reduceEqDiff, Nat.reduceAdd, Nat.reduceSub, Nat.reduceMul, reduceCtorEq, Int.reduceBEq, Int.reduceLT, Int.reduceLE, Int.reduceAdd, Int.reduceSub, Int.reduceEq, Int.reduceNeg, Int.reduceToNat, Int.reduceGT, Int.reduceGE, hb, h0, h1, hbn, hro]
    rw [fin_q _ _ _ rfl (by simp only [go_sem, Nat.reduceLT, Nat.reduceLeDiff, Nat.reduceEqDiff, Nat.reduceAdd, Nat.reduceSub, Nat.reduceMul, reduceCtorEq, Int.reduceBEq, Int.reduceLT, Int.reduceLE, Int.reduceAdd, Int.reduceSub, Int.reduceEq, Int.reduceNeg, Int.reduceToNat, Int.reduceGT, Int.reduceGE]; exact decide_eq_true A.lt)]
    exact ⟨_, lid, rfl, A, WFr.refl _ _ _, .inl rfl, Lw.none _ _, fun _ => rfl⟩

theorem nat_wrap {n : Nat} (h : n < 1000000000000) : IntKind.wrap .u64 (Int.ofNat n) = Int.ofNat n := by
  unfold IntKind.wrap
  simp only [IntKind.bits, IntKind.signed, Bool.false_and, show (2 ^ 64 : Int) = 18446744073709551616 from rfl]
  simp; omega

theorem WFr.ext {h0 h h' : H} {w lid : Nat} (F : WFr h h' w lid) (E : Ext h0 h) (hw : h0.nx ≤ w) (hl : h0.nx ≤ lid) : Ext h0 h' :=
  ⟨Nat.le_trans E.nx F.nx, F.gn.trans E.gn, fun k hk => (F.old k (Nat.lt_of_lt_of_le hk E.nx) (by omega) (by omega)).trans (E.old k hk)⟩

theorem blob_run (hσ : ∀ f a h, told f = false → σ f a h = none) {h0' h : H} {w lid : Nat} {fl : Bool} {bs : List Nat} (A : WrAt h w lid fl bs) {v : CV} {xs : List Nat} (B : BSl h0' v (bc xs)) (E : Ext h0' h) (hw' : h0'.nx ≤ w) (hl' : h0'.nx ≤ lid) (room : bs.length + xs.length ≤ 900000) (h2 : xs.length ≤ 65535) :
    WOk h w lid (wput (fl, bs) (some (be xs.length 2 ++ xs))) ((lim Tryd.prog σ).call 37 [.ptr w 0, v] h) := by
  obtain ⟨b, s, hb, hro, hbn, h0, h1, hl⟩ := A.blk
  have hlt := A.lt
  rw [call_eq (hσ _ _ _ (by decide)) fn_37 rfl rfl, Tryd.ntmps37, Tryd.results37]
  cases fl
  · have q1 : ¬ Int.ofNat (bc xs).length > 65535 := by rw [bc_len]; simp; omega
    have q2 : IntKind.wrap .u64 (Int.ofNat (bc xs).length) = Int.ofNat xs.length := by rw [bc_len]; exact nat_wrap (by omega)
    have e2 : numB xs.length 2 = some (be xs.length 2) := by
      unfold numB
      rw [show sizeOk 2 = true from rfl, if_pos rfl, if_pos]
      · rfl
      · exact Nat.div_eq_of_lt (show xs.length < 65536 by omega)
    obtain ⟨y, lid2, e, A2, F2, hl2, hy, hy2⟩ := number_run hσ (A.ext' (Ext.lo h)) xs.length (Nat.lt_of_le_of_lt h2 (by decide)) 2 (by omega)
    rw [e2] at A2
    have B2 : BSl (y.getD h.lo) v (bc xs) := B.ext (F2.ext E.lo' hw' hl')
    obtain ⟨z, lid3, e3, A3, F3, hl3, hz, hz2⟩ := bytes_run hσ A2 B2 (by simp [wput, be_len]; omega)
    have e' : (lim Tryd.prog σ).call 36 [.ptr w 0, .int .u64 (Int.ofNat xs.length), .int .i64 2] h.lo = some (.ptr w 0, y) := e
    simp only [go_sem, Nat.reduceLT, Nat.reduceLeDiff, Nat.reduceEqDiff, Nat.reduceAdd, Nat.reduceSub, Nat.reduceMul, reduceCtorEq, Int.reduceBEq, Int.reduceLT, Int.reduceLE, Int.reduceAdd, Int.reduceSub, Int.reduceEq, Int.reduceNeg, Int.reduceToNat, Int.reduceGT, Int.reduceGE, hb, h0, h1, hbn, hro, B.len, q1, q2, e', e3]
    have hap : wput (wput (false, bs) (some (be xs.length 2))) (some xs) = wput (false, bs) (some (be xs.length 2 ++ xs)) := by simp [wput]
    have hn := F2.nx
    rw [lo_nx] at hn
    have r := wok_fin2 A3 (F2.trans F3 hl2) (by rw [lo_nx] at hl2; omega) A.lt hy hz hz2
    rw [hap] at r
    exact r
  · simp only [go_sem, Nat.reduceLT, Nat.reduceLeDiff, Nat.reduceEqDiff, Nat.reduceAdd, Nat.reduceSub, Nat.reduceMul, reduceCtorEq, Int.reduceBEq, Int.reduceLT, Int.reduceLE, Int.reduceAdd, Int.reduceSub, Int.reduceEq, Int.reduceNeg, Int.reduceToNat, Int.reduceGT, Int.reduceGE, hb, h0, h1, hbn, hro]
    rw [fin_q _ _ _ rfl (by simp only [go_sem, Nat.reduceLT, Nat.reduceLeDiff, Nat.reduceEqDiff, Nat.reduceAdd, Nat.reduceSub, Nat.reduceMul, reduceCtorEq, Int.reduceBEq, Int.reduceLT, Int.reduceLE, Int.reduceAdd, Int.reduceSub, Int.reduceEq, Int.reduceNeg, Int.reduceToNat, Int.reduceGT, Int.reduceGE]; exact decide_eq_true A.lt)]
    exact ⟨_, lid, rfl, A, WFr.refl _ _ _, .inl rfl, Lw.none _ _, fun _ => rfl⟩

theorem copy_of {h : H} {v : CV} {cs : List CV} (B : BSl h v cs) (ho : cs.all CV.one = true) (hr : cs.length ≤ 70368744177664) {β : Type} {Q : Option β → Prop} {K : Out → Option β}
    (k : ∀ s' h', Ext h h' → BSl h' s' cs → (cs ≠ [] → ∃ lid', s' = .sl lid' 0 cs.length (.opn 1) ∧ h.nx ≤ lid' ∧ Lst h' 1 s' lid' cs.length cs) → (cs = [] → s' = .nils ∧ h' = h) → h'.low ≤ h.low → Q (K (.upd s' h'))) : Q (@thn _ β (builtinT Tryd.prog h .append [24, 24] [.nils, v]) ⟨K⟩) := by
  rw [B.app]
  by_cases h0 : cs = []
  · subst h0
    rw [show ([] : List CV).length = 0 from rfl, appS_nils0 rfl (by decide)]
    exact k _ _ (Ext.refl _) (.inl ⟨rfl, rfl⟩) (fun q => absurd rfl q) (fun _ => ⟨rfl, rfl⟩) (Nat.le_refl _)
  · have hm : 0 < cs.length := List.length_pos_iff.2 h0
    obtain ⟨h', e, l', h1, h2, h3, h4, _⟩ := app_Lst (by_ := 1) (zl := 1) (Lst.nil h 1 0) hm (new := cs) (by simp) ho rfl (by decide) (by omega) (by omega)
    rw [e]
    have l2 : Lst h' 1 (.sl h.nx 0 cs.length (.opn 1)) h.nx cs.length cs := by simpa using l'
    refine k _ _ ⟨by rw [h1]; omega, h2, fun k hk => h3 k hk fun q => absurd rfl q⟩ ?_ (fun _ => ⟨_, by rw [Nat.zero_add], Nat.le_refl _, ?_⟩) (fun q => absurd q h0) h4
    · rw [Nat.zero_add]; exact lst_bsl l2
    · rw [Nat.zero_add]; exact l2

def EndOk (h : H) (fl : Bool) (bs : List Nat) (r : Option (CV × Option H)) : Prop :=
  ∃ v x, r = some (.tup [v, .int .i64 (if fl then 2 else 0)], x) ∧ Ext h (x.getD h) ∧ BSl (x.getD h) v (if fl then [] else bc bs) ∧ (fl = false → bs ≠ [] → ∃ id, v = .sl id 0 bs.length (.opn 1) ∧ h.nx ≤ id ∧ Lst (x.getD h) 1 v id bs.length (bc bs))
theorem end_run (hσ : ∀ f a h, told f = false → σ f a h = none) {h : H} {w lid : Nat} {fl : Bool} {bs : List Nat} (A : WrAt h w lid fl bs) (room : bs.length ≤ 900000) :
    EndOk h fl bs ((lim Tryd.prog σ).call 38 [.ptr w 0] h) := by
  obtain ⟨b, s, hb, hro, hbn, h0, h1, hl⟩ := A.blk
  rw [call_eq (hσ _ _ _ (by decide)) fn_38 rfl rfl, Tryd.ntmps38, Tryd.results38]
  cases fl
  · simp only [go_sem, Nat.reduceLT, Nat.reduceLeDiff, Nat.reduceEqDiff, Nat.reduceAdd, Nat.reduceSub, Nat.reduceMul, reduceCtorEq, Int.reduceBEq, Int.reduceLT, Int.reduceLE, Int.reduceAdd, Int.reduceSub, Int.reduceEq, Int.reduceNeg, Int.reduceToNat, Int.reduceGT, Int.reduceGE, hb, h0, h1, hbn, hro]
    refine copy_of (Q := EndOk h false bs) (cs := bc bs) (lst_bsl (hl.ext (Ext.lo h))) (bc_one _) (by rw [bc_len]; omega) ?_
    intro s' h' E B hne hnil _
    simp only [go_sem, Nat.reduceLT, Nat.reduceLeDiff, Nat.reduceEqDiff, Nat.reduceAdd, Nat.reduceSub, Nat.reduceMul, reduceCtorEq, Int.reduceBEq, Int.reduceLT, Int.reduceLE, Int.reduceAdd, Int.reduceSub, Int.reduceEq, Int.reduceNeg, Int.reduceToNat, Int.reduceGT, Int.reduceGE, hb, h0, h1, hbn, hro]
    by_cases q : bs = []
    · subst q
      obtain ⟨rfl, rfl⟩ := hnil rfl
      rw [fin_q _ _ _ rfl rfl]
      exact ⟨_, _, rfl, Ext.refl _, .inl ⟨rfl, rfl⟩, fun _ q => absurd rfl q⟩
    · obtain ⟨lid', hs, hl', L⟩ := hne (by intro e; apply q; simpa [bc] using e)
      subst hs
      rw [lo_nx] at hl'
      rw [fin_new _ _ _ (by simp only [go_sem, Nat.reduceLT, Nat.reduceLeDiff, Nat.reduceEqDiff, Nat.reduceAdd, Nat.reduceSub, Nat.reduceMul, reduceCtorEq, Int.reduceBEq, Int.reduceLT, Int.reduceLE, Int.reduceAdd, Int.reduceSub, Int.reduceEq, Int.reduceNeg, Int.reduceToNat, Int.reduceGT, Int.reduceGE, blt_eq']; exact decide_eq_false (by omega))]
      exact ⟨_, _, rfl, ⟨E.nx, E.gn, E.old⟩, B.ext (Ext.up _ _), fun _ _ => ⟨lid', by rw [bc_len], hl', by rw [bc_len] at L ⊢; exact L.ext (Ext.up _ _)⟩⟩
  · simp only [go_sem, Nat.reduceLT, Nat.reduceLeDiff, Nat.reduceEqDiff, Nat.reduceAdd, Nat.reduceSub, Nat.reduceMul, reduceCtorEq, Int.reduceBEq, Int.reduceLT, Int.reduceLE, Int.reduceAdd, Int.reduceSub, Int.reduceEq, Int.reduceNeg, Int.reduceToNat, Int.reduceGT, Int.reduceGE, hb, h0, h1, hbn, hro]
    rw [fin_q _ _ _ rfl rfl]
    exact ⟨_, _, rfl, Ext.refl _, .inl ⟨rfl, rfl⟩, fun q => by cases q⟩
end Go.Cl.Sh.W

namespace Go.Cl.Sh.W
variable {σ : Sums}
set_option maxRecDepth 1000000

theorem ze_40 : zeroT Tryd.prog 40 = some (.agg (List.replicate 256 (.int .u8 0))) := by kernel_rfl
theorem rep_one : (List.replicate 256 (CV.int .u8 0)).all CV.one = true := by kernel_rfl
theorem okBL_bc (n : Nat) : ∀ xs : List Nat, okBL n (bc xs) = true
  | [] => rfl
  | x :: xs => by rw [show bc (x :: xs) = .int .u8 (Int.ofNat x) :: bc xs from rfl, okBL_cons, okBL_bc n xs]; rfl
/-- what a reader has left -/
def RL (h : H) (v : CV) (rest : List Nat) : Prop :=
  (v = .nils ∧ rest = []) ∨ (∃ a b c, v = .slend a b c 1 ∧ rest = []) ∨
  ∃ id off b, v = .sl id off rest.length (.opn 1) ∧ rest ≠ [] ∧ id < h.nx ∧ h.blk id = some b ∧ b.n = off + rest.length ∧ b.loadN off rest.length = some (bc rest)
structure RdAt (h : H) (r lid : Nat) (rest : List Nat) : Prop where
  lt : r < h.nx
  blk : ∃ b v, h.blk r = some b ∧ b.ro = false ∧ b.n = 3 ∧ b.get 0 = some v ∧ b.get 1 = some (.bool true) ∧ b.get 2 = some (.bool false) ∧ RL h v rest ∧ ∀ id off l c, v = .sl id off l c → id = lid ∧ id ≠ r
theorem RL.len {h : H} {v : CV} {rest : List Nat} (R : RL h v rest) (h' : H) : builtinT Tryd.prog h' .len [24] [v] = some (.val (.int .i64 (Int.ofNat rest.length))) := by
  rcases R with ⟨rfl, rfl⟩ | ⟨a, b, c, rfl, rfl⟩ | ⟨id, off, b, rfl, _⟩
  · simp [builtinT, Tryd.underlying24, lenC]
  · simp [builtinT, Tryd.underlying24, lenC]
  · exact len_24 _ _ _ _ _ _ _
/-- the same but for one block -/
structure But (h h' : H) (r : Nat) : Prop where
  nx : h'.nx = h.nx
  gn : h'.gn = h.gn
  old : ∀ k, k ≠ r → h'.t.get k = h.t.get k
theorem RL.one {h : H} {v : CV} {rest : List Nat} (R : RL h v rest) : v.one = true ∧ v.cells = [v] := by
  rcases R with ⟨rfl, rfl⟩ | ⟨a, b, c, rfl, rfl⟩ | ⟨id, off, b, rfl, _⟩ <;> exact ⟨rfl, rfl⟩
theorem drop_load {b : Blk} {off : Nat} {xs : List Nat} (h : b.loadN off xs.length = some (bc xs)) {n : Nat} (hn : n ≤ xs.length) :
    b.loadN off n = some (bc (xs.take n)) ∧ b.loadN (off + n) (xs.length - n) = some (bc (xs.drop n)) := by
  obtain ⟨hl, hg⟩ := loadN_spec h
  have hg' : ∀ j, j < xs.length → b.get (off + j) = some (.int .u8 (Int.ofNat (xs[j]?.getD 0))) := fun j hj => by
    rw [hg j hj]
    simp [bc, hj]
  constructor
  · refine loadN_of _ _ _ (by rw [bc_len, List.length_take]; omega) fun i v hv => ?_
    have hi := nlt hv
    rw [bc_len, List.length_take] at hi
    rw [hg' i (by omega), ← hv, nth_eq]
    have : i < n := by omega
    simp [bc, this, show i < xs.length by omega]
  · refine loadN_of _ _ _ (by rw [bc_len, List.length_drop]) fun i v hv => ?_
    have hi := nlt hv
    rw [bc_len, List.length_drop] at hi
    rw [Nat.add_assoc, hg' (n + i) (by omega), ← hv, nth_eq]
    simp [bc, show n + i < xs.length by omega]
/-- cutting it: the taken ones, the others -/
theorem RL.cut {h : H} {v : CV} {rest : List Nat} (R : RL h v rest) {n : Nat} (hn : n ≤ rest.length) :
    ∃ a b, sliceT Tryd.prog h 24 v none (some (.int .i64 (Int.ofNat n))) (some (.int .i64 (Int.ofNat n))) = some a ∧ sliceT Tryd.prog h 24 v (some (.int .i64 (Int.ofNat n))) none none = some b ∧ BSl h a (bc (rest.take n)) ∧ RL h b (rest.drop n) ∧
      (∀ id off l c, b = .sl id off l c ∨ a = .sl id off l c → ∃ off' l' c', v = .sl id off' l' c') := by
  rcases R with ⟨rfl, rfl⟩ | ⟨x1, x2, x3, rfl, rfl⟩ | ⟨id, off, b, rfl, hne, hid, hb, hbn, hld⟩
  · have : n = 0 := by simpa using hn
    subst this
    exact ⟨.nils, .nils, by kernel_rfl, by kernel_rfl, .inl ⟨by simp [bc], rfl⟩, .inl ⟨rfl, by simp⟩, fun _ _ _ _ e => by rcases e with e | e <;> cases e <;> exact ⟨_, _, _, rfl⟩⟩
  · have : n = 0 := by simpa using hn
    subst this
    exact ⟨.sl0 x1 x2 x3 1, .slend x1 x2 x3 1, by kernel_rfl, by kernel_rfl, .inr (.inl ⟨by simp [bc], _, _, _, _, rfl⟩), .inr (.inl ⟨_, _, _, rfl, by simp⟩), fun _ _ _ _ e => by rcases e with e | e <;> cases e <;> exact ⟨_, _, _, rfl⟩⟩
  · obtain ⟨d1, d2⟩ := drop_load hld hn
    have hbe : Nat.beq n 0 = decide (n = 0) := beq_eq' _ _
    have hlen : (rest.take n).length = n := by rw [List.length_take]; omega
    by_cases h0 : n = rest.length
    · refine ⟨.sl id off n (.exact n), .slend id off n 1, ?_, ?_, .inr (.inr ⟨id, off, _, b, by rw [bc_len, hlen], hid, hb, by rw [bc_len, hlen]; exact d1⟩), .inr (.inl ⟨_, _, _, rfl, by rw [h0]; simp⟩), fun _ _ _ _ e => by rcases e with e | e <;> cases e <;> exact ⟨_, _, _, rfl⟩⟩
      · simp [sliceT, Tryd.underlying24, sz_5, capK, hb, bnd, toN, hbn, ble_eq', beq_eq', blt_eq', hn]
      · have : ¬ n = 0 := by rw [h0]; intro q; exact hne (List.length_eq_zero_iff.1 q)
        simp [sliceT, Tryd.underlying24, sz_5, capK, hb, bnd, toN, hbn, ble_eq', beq_eq', blt_eq', hn, h0, hne]
    · have hlt : n < rest.length := by omega
      refine ⟨.sl id off n (.exact n), .sl id (off + n) (rest.length - n) (.opn 1), ?_, ?_, .inr (.inr ⟨id, off, _, b, by rw [bc_len, hlen], hid, hb, by rw [bc_len, hlen]; exact d1⟩),
        .inr (.inr ⟨id, off + n, b, by rw [List.length_drop], fun q => by have := congrArg List.length q; rw [List.length_drop] at this; simp at this; omega, hid, hb, by rw [List.length_drop]; omega, by rw [List.length_drop]; exact d2⟩), fun _ _ _ _ e => by rcases e with e | e <;> cases e <;> exact ⟨_, _, _, rfl⟩⟩
      · simp [sliceT, Tryd.underlying24, sz_5, capK, hb, bnd, toN, hbn, ble_eq', beq_eq', blt_eq', hn]
      · simp [sliceT, Tryd.underlying24, sz_5, capK, hb, bnd, toN, hbn, ble_eq', beq_eq', blt_eq', hn, hlt]
theorem BSl.but {h h' : H} {r : Nat} {v : CV} {cs : List CV} (B : BSl h v cs) (F : But h h' r) (hne : ∀ id off l c, v = .sl id off l c → id ≠ r) : BSl h' v cs := by
  rcases B with h1 | h1 | ⟨id, off, c, b, rfl, h2, h3, h4⟩
  · exact .inl h1
  · exact .inr (.inl h1)
  · exact .inr (.inr ⟨id, off, c, b, rfl, by rw [F.nx]; exact h2, (blk_eq (F.old id (hne _ _ _ _ rfl))).trans h3, h4⟩)
theorem RL.ext {h h' : H} {v : CV} {cs : List Nat} (B : RL h v cs) (F : Ext h h') : RL h' v cs := by
  rcases B with h1 | h1 | ⟨id, off, b, rfl, h2, h3, h4, h5⟩
  · exact .inl h1
  · exact .inr (.inl h1)
  · exact .inr (.inr ⟨id, off, b, rfl, h2, Nat.lt_of_lt_of_le h3 F.nx, (F.blk h3).trans h4, h5⟩)
theorem RL.but {h h' : H} {r : Nat} {v : CV} {cs : List Nat} (B : RL h v cs) (F : But h h' r) (hne : ∀ id off l c, v = .sl id off l c → id ≠ r) : RL h' v cs := by
  rcases B with h1 | h1 | ⟨id, off, b, rfl, h2, h3, h4, h5⟩
  · exact .inl h1
  · exact .inr (.inl h1)
  · exact .inr (.inr ⟨id, off, b, rfl, h2, by rw [F.nx]; exact h3, (blk_eq (F.old id (hne _ _ _ _ rfl))).trans h4, h5⟩)
def TakOk (h : H) (r lid : Nat) (rest : List Nat) (n : Nat) (o : Option (CV × Option H)) : Prop :=
  ∃ v h', o = some (.tup [v, .bool true], some h') ∧ BSl h' v (bc (rest.take n)) ∧ RdAt h' r lid (rest.drop n) ∧ But h h' r ∧ h'.low ≤ r ∧ h'.low ≤ h.low
set_option maxRecDepth 100000 in
theorem take_run (hσ : ∀ f a h, told f = false → σ f a h = none) {h : H} {r lid : Nat} {rest : List Nat} (R : RdAt h r lid rest) {n : Nat} (hn : n ≤ rest.length) :
    TakOk h r lid rest n ((lim Tryd.prog σ).call 70 [.ptr r 0, .int .i64 (Int.ofNat n)] h) := by
  obtain ⟨b, v, hb, hro, hbn, h0, h1, h2, RL, hne⟩ := R.blk
  have hlt := R.lt
  rw [call_eq (hσ _ _ _ (by decide)) fn_70 rfl rfl, Tryd.ntmps70, Tryd.results70]
  have c1 : ¬ Int.ofNat n < 0 := by simp
  have c2 : ¬ Int.ofNat n > Int.ofNat rest.length := by simp; omega
  obtain ⟨x, y, e1, e2, B, R2, hid⟩ := (RL.ext (Ext.lo h)).cut hn
  simp only [go_sem, Nat.reduceLT, Nat.reduceLeDiff, Nat.reduceEqDiff, Nat.reduceAdd, Nat.reduceSub, Nat.reduceMul, reduceCtorEq, Int.reduceBEq, Int.reduceLT, Int.reduceLE, Int.reduceAdd, Int.reduceSub, Int.reduceEq, Int.reduceNeg, Int.reduceToNat, Int.reduceGT, Int.reduceGE, hb, h0, h1, h2, hro, hbn, RL.len, c1, c2, e1, e2, R2.one]
  have F : But h.lo (h.lo.put r (.cells (b.st 0 y))) r := ⟨rfl, rfl, fun k hk => put_get_ne _ _ _ _ hk⟩
  rw [fin_l _ _ _ (by simp only [go_sem, Nat.reduceLT, Nat.reduceLeDiff, Nat.reduceEqDiff, Nat.reduceAdd, Nat.reduceSub, Nat.reduceMul, reduceCtorEq, Int.reduceBEq, Int.reduceLT, Int.reduceLE, Int.reduceAdd, Int.reduceSub, Int.reduceEq, Int.reduceNeg, Int.reduceToNat, Int.reduceGT, Int.reduceGE]; omega)]
  have hy : ∀ id off l c, y = .sl id off l c → id = lid ∧ id ≠ r := fun id off l c e => by
    obtain ⟨_, _, _, e'⟩ := hid _ _ _ _ (.inl e)
    exact hne _ _ _ _ e'
  have hx : ∀ id off l c, x = .sl id off l c → id ≠ r := fun id off l c e => by
    obtain ⟨_, _, _, e'⟩ := hid _ _ _ _ (.inr e)
    exact (hne _ _ _ _ e').2
  refine ⟨x, _, rfl, (B.but F hx).ext (Ext.up _ _), ⟨by simp only [go_sem, Nat.reduceLT, Nat.reduceLeDiff, Nat.reduceEqDiff, Nat.reduceAdd, Nat.reduceSub, Nat.reduceMul, reduceCtorEq, Int.reduceBEq, Int.reduceLT, Int.reduceLE, Int.reduceAdd, Int.reduceSub, Int.reduceEq, Int.reduceNeg, Int.reduceToNat, Int.reduceGT, Int.reduceGE]; exact hlt, _, y, put_blk_same _ _ _, by simp only [go_sem, Nat.reduceLT, Nat.reduceLeDiff, Nat.reduceEqDiff, Nat.reduceAdd, Nat.reduceSub, Nat.reduceMul, reduceCtorEq, Int.reduceBEq, Int.reduceLT, Int.reduceLE, Int.reduceAdd, Int.reduceSub, Int.reduceEq, Int.reduceNeg, Int.reduceToNat, Int.reduceGT, Int.reduceGE, hro], by simp only [go_sem, Nat.reduceLT, Nat.reduceLeDiff, Nat.reduceEqDiff, Nat.reduceAdd, Nat.reduceSub, Nat.reduceMul, reduceCtorEq, Int.reduceBEq, Int.reduceLT, Int.reduceLE, Int.reduceAdd, Int.reduceSub, Int.reduceEq, Int.reduceNeg, Int.reduceToNat, Int.reduceGT, Int.reduceGE, hbn], by simp only [go_sem, Nat.reduceLT, Nat.reduceLeDiff, Nat.reduceEqDiff, Nat.reduceAdd, Nat.reduceSub, Nat.reduceMul, reduceCtorEq, Int.reduceBEq, Int.reduceLT, Int.reduceLE, Int.reduceAdd, Int.reduceSub, Int.reduceEq, Int.reduceNeg, Int.reduceToNat, Int.reduceGT, Int.reduceGE, hbn], by simp only [go_sem, Nat.reduceLT, Nat.reduceLeDiff, Nat.reduceEqDiff, Nat.reduceAdd, Nat.reduceSub, Nat.reduceMul, reduceCtorEq, Int.reduceBEq, Int.reduceLT, Int.reduceLE, Int.reduceAdd, Int.reduceSub, Int.reduceEq, Int.reduceNeg, Int.reduceToNat, Int.reduceGT, Int.reduceGE, h1], by simp only [go_sem, Nat.reduceLT, Nat.reduceLeDiff, Nat.reduceEqDiff, Nat.reduceAdd, Nat.reduceSub, Nat.reduceMul, reduceCtorEq, Int.reduceBEq, Int.reduceLT, Int.reduceLE, Int.reduceAdd, Int.reduceSub, Int.reduceEq, Int.reduceNeg, Int.reduceToNat, Int.reduceGT, Int.reduceGE, h2], (R2.but F fun id off l c e => (hy id off l c e).2).ext (Ext.up _ _), hy⟩, ⟨rfl, rfl, fun k hk => put_get_ne _ _ _ _ hk⟩, by simp only [go_sem, Nat.reduceLT, Nat.reduceLeDiff, Nat.reduceEqDiff, Nat.reduceAdd, Nat.reduceSub, Nat.reduceMul, reduceCtorEq, Int.reduceBEq, Int.reduceLT, Int.reduceLE, Int.reduceAdd, Int.reduceSub, Int.reduceEq, Int.reduceNeg, Int.reduceToNat, Int.reduceGT, Int.reduceGE]; omega, by simp only [go_sem, Nat.reduceLT, Nat.reduceLeDiff, Nat.reduceEqDiff, Nat.reduceAdd, Nat.reduceSub, Nat.reduceMul, reduceCtorEq, Int.reduceBEq, Int.reduceLT, Int.reduceLE, Int.reduceAdd, Int.reduceSub, Int.reduceEq, Int.reduceNeg, Int.reduceToNat, Int.reduceGT, Int.reduceGE]; omega⟩
theorem BSl.at_ {h : H} {v : CV} {cs : List CV} (B : BSl h v cs) {i : Nat} {x : CV} (hx : nth cs i = some x) :
    ∃ id off b, (∀ kd, indexAddrT Tryd.prog 24 v (.int kd (Int.ofNat i)) = some (.ptr id off)) ∧ h.blk id = some b ∧ b.get off = some x ∧ id < h.nx := by
  have hi := nlt hx
  rcases B with ⟨rfl, _⟩ | ⟨rfl, _⟩ | ⟨id, off, c, b, rfl, h2, h3, h4⟩
  · simp at hi
  · simp at hi
  · refine ⟨id, off + i, b, fun kd => by rw [ia_24, blt_eq', decide_eq_true hi, cond_true, Nat.mul_one], h3, ?_, h2⟩
    rw [(loadN_spec h4).2 i hi, ← hx, nth_eq]
def valB (xs : List Nat) : Nat := xs.foldl (fun a b => a * 256 + b) 0
theorem valB_app (xs : List Nat) (b : Nat) : valB (xs ++ [b]) = valB xs * 256 + b := by simp [valB]
theorem valB_lt : ∀ (k : Nat) (xs : List Nat), xs.length = k → (∀ b ∈ xs, b < 256) → valB xs < 256 ^ k
  | 0, xs, hl, _ => by rw [List.length_eq_zero_iff.1 hl]; decide
  | k + 1, xs, hl, h => by
    have hne : xs ≠ [] := fun q => by rw [q] at hl; simp at hl
    have e := List.dropLast_concat_getLast hne
    have h1 := valB_lt k xs.dropLast (by simp [hl]) fun b hb => h b ((List.dropLast_sublist xs).subset hb)
    have h2 := h _ (List.getLast_mem hne)
    rw [← e, valB_app, Nat.pow_succ]
    omega
theorem bin_or {P : Program} {t xo yo} {a b : Nat} (ha : a < 18446744073709551616) (hb : b < 18446744073709551616) : binT P .or t xo yo (.int .u64 (Int.ofNat a)) (.int .u64 (Int.ofNat b)) = some (.int .u64 (Int.ofNat (a ||| b))) := by
  have : binT P .or t xo yo (.int .u64 (Int.ofNat a)) (.int .u64 (Int.ofNat b)) = some (.int .u64 (IntKind.wrap .u64 (BitVec.ofInt 64 (Int.ofNat a) ||| BitVec.ofInt 64 (Int.ofNat b)).toNat)) := rfl
  rw [this, show ((BitVec.ofInt 64 (Int.ofNat a) ||| BitVec.ofInt 64 (Int.ofNat b)).toNat : Int) = Int.ofNat (a ||| b) from ?_, wrap_u64 (Nat.or_lt_two_pow (n := 64) ha hb)]
  rw [BitVec.toNat_or]
  simp
  rw [Nat.mod_eq_of_lt ha, Nat.mod_eq_of_lt hb]
theorem bin_shl8 {P : Program} (t xo yo k a k') : binT P .shl t xo yo (.int k a) (.int k' 8) = some (.int k (k.wrap (a * 2 ^ (min 8 k.bits)))) := rfl
theorem or_add {a b : Nat} (hb : b < 256) : a * 256 ||| b = a * 256 + b := by
  have := Nat.two_pow_add_eq_or_of_lt (i := 8) (b := b) hb a
  rw [Nat.mul_comm a 256]; exact this.symm
def NumR (h : H) (r lid : Nat) (rest : List Nat) (n : Nat) (o : Option (CV × Option H)) : Prop :=
  ∃ h', o = some (.int .u64 (Int.ofNat (valB (rest.take n))), some h') ∧ RdAt h' r lid (rest.drop n) ∧ But h h' r ∧ h'.low ≤ r ∧ h'.low ≤ h.low
set_option maxRecDepth 100000 in
theorem rnumber_run (hσ : ∀ f a h, told f = false → σ f a h = none) {h : H} {r lid : Nat} {rest : List Nat} (R : RdAt h r lid rest) {n : Nat} (hn : n ≤ rest.length) (hs : sizeOk (Int.ofNat n) = true) (hby : ∀ b ∈ rest, b < 256) :
    NumR h r lid rest n ((lim Tryd.prog σ).call 42 [.ptr r 0, .int .i64 (Int.ofNat n)] h) := by
  have hw := wsize_run hσ h.lo (Int.ofNat n)
  have hw : (lim Tryd.prog σ).call 65 [.int .i64 (Int.ofNat n)] h.lo = some (.bool true, none) := hw.trans (by rw [show decide (Int.ofNat n = 1 ∨ Int.ofNat n = 2 ∨ Int.ofNat n = 4 ∨ Int.ofNat n = 8) = true from hs])
  have hn8 : n ≤ 8 := by
    have : Int.ofNat n = 1 ∨ Int.ofNat n = 2 ∨ Int.ofNat n = 4 ∨ Int.ofNat n = 8 := of_decide_eq_true hs
    simp at this; omega
  have R0 : RdAt h.lo r lid rest := by
    obtain ⟨b, v, hb, hro, hbn, h0, h1, h2, RL, hne⟩ := R.blk
    exact ⟨R.lt, b, v, hb, hro, hbn, h0, h1, h2, RL.ext (Ext.lo h), hne⟩
  obtain ⟨v, h1, e, B, R1, F, hlow, hlow2⟩ := take_run hσ R0 hn
  have hlt := R.lt
  have hlen : (rest.take n).length = n := by rw [List.length_take]; omega
  have hvl : ∀ h', builtinT Tryd.prog h' .len [24] [v] = some (.val (.int .i64 (Int.ofNat n))) := fun h' => by rw [B.len, bc_len, hlen]
  rw [call_eq (hσ _ _ _ (by decide)) fn_42 rfl rfl, Tryd.ntmps42, Tryd.results42]
  simp only [go_sem, Nat.reduceLT, Nat.reduceLeDiff, Nat.reduceEqDiff, Nat.reduceAdd, Nat.reduceSub, Nat.reduceMul, reduceCtorEq, Int.reduceBEq, Int.reduceLT, Int.reduceLE, Int.reduceAdd, Int.reduceSub, Int.reduceEq, Int.reduceNeg, Int.reduceToNat, Int.reduceGT, Int.reduceGE, hw, e, hvl]
  refine loop_ind (Q := NumR h r lid rest n) (fun i env h' => evT env 7 = .int .u64 (Int.ofNat (valB ((rest.take n).take i))) ∧ evT env 21 = v ∧ evT env 22 = .int .i64 (Int.ofNat n) ∧ evT env 23 = .int .i64 (Int.ofNat i) ∧ h' = h1) n 0 ?_ (Nat.zero_le _) ?_ ?_
  · refine ⟨by simp only [go_sem, Nat.reduceLT, Nat.reduceLeDiff, Nat.reduceEqDiff, Nat.reduceAdd, Nat.reduceSub, Nat.reduceMul, reduceCtorEq, Int.reduceBEq, Int.reduceLT, Int.reduceLE, Int.reduceAdd, Int.reduceSub, Int.reduceEq, Int.reduceNeg, Int.reduceToNat, Int.reduceGT, Int.reduceGE]; rfl, by simp only [go_sem, Nat.reduceLT, Nat.reduceLeDiff, Nat.reduceEqDiff, Nat.reduceAdd, Nat.reduceSub, Nat.reduceMul, reduceCtorEq, Int.reduceBEq, Int.reduceLT, Int.reduceLE, Int.reduceAdd, Int.reduceSub, Int.reduceEq, Int.reduceNeg, Int.reduceToNat, Int.reduceGT, Int.reduceGE], by simp only [go_sem, Nat.reduceLT, Nat.reduceLeDiff, Nat.reduceEqDiff, Nat.reduceAdd, Nat.reduceSub, Nat.reduceMul, reduceCtorEq, Int.reduceBEq, Int.reduceLT, Int.reduceLE, Int.reduceAdd, Int.reduceSub, Int.reduceEq, Int.reduceNeg, Int.reduceToNat, Int.reduceGT, Int.reduceGE], by simp only [go_sem, Nat.reduceLT, Nat.reduceLeDiff, Nat.reduceEqDiff, Nat.reduceAdd, Nat.reduceSub, Nat.reduceMul, reduceCtorEq, Int.reduceBEq, Int.reduceLT, Int.reduceLE, Int.reduceAdd, Int.reduceSub, Int.reduceEq, Int.reduceNeg, Int.reduceToNat, Int.reduceGT, Int.reduceGE]; rfl, by simp only [go_sem, Nat.reduceLT, Nat.reduceLeDiff, Nat.reduceEqDiff, Nat.reduceAdd, Nat.reduceSub, Nat.reduceMul, reduceCtorEq, Int.reduceBEq, Int.reduceLT, Int.reduceLE, Int.reduceAdd, Int.reduceSub, Int.reduceEq, Int.reduceNeg, Int.reduceToNat, Int.reduceGT, Int.reduceGE]⟩
  · rintro i env h' ⟨e7, e21, e22, e23, rfl⟩ hi next
    obtain ⟨x, hx⟩ : ∃ x, (rest.take n)[i]? = some x := ⟨_, List.getElem?_eq_getElem (by omega)⟩
    have hx' : nth (bc (rest.take n)) i = some (.int .u8 (Int.ofNat x)) := by rw [nth_eq]; unfold bc; rw [List.getElem?_map, hx]; rfl
    obtain ⟨id, off, b, hix, hb, hg, _⟩ := B.at_ hx'
    have hxm : x ∈ rest := List.mem_of_mem_take (List.mem_of_getElem? hx)
    have hx256 := hby x hxm
    have hlt2 := ofNat_lt hi
    have hw2 : IntKind.wrap .i64 (Int.ofNat i + 1) = Int.ofNat (i + 1) := wrap_succ (by omega)
    have hv0 : valB ((rest.take n).take i) < 256 ^ i := valB_lt i _ (by rw [List.length_take, hlen]; omega) fun b hb => hby b (List.mem_of_mem_take (List.mem_of_mem_take hb))
    have hv1 : 256 ^ i * 256 ≤ 18446744073709551616 := by
      rw [← Nat.pow_succ]
      exact Nat.pow_le_pow_right (by decide) (show i + 1 ≤ 8 by omega)
    have hs1 : IntKind.wrap .u64 (Int.ofNat (valB ((rest.take n).take i)) * 2 ^ min 8 64) = Int.ofNat (valB ((rest.take n).take i) * 256) := by
      have : (Int.ofNat (valB ((rest.take n).take i)) * 2 ^ min 8 64 : Int) = Int.ofNat (valB ((rest.take n).take i) * 256) := by
        show _ * (2 ^ 8 : Int) = _
        simp
      rw [this]
      exact wrap_u64 (by omega)
    have hs2 : IntKind.wrap .u64 (Int.ofNat x) = Int.ofNat x := wrap_u64 (by omega)
    have htk : (rest.take n).take (i + 1) = (rest.take n).take i ++ [x] := by rw [List.take_add_one, hx]; rfl
    have hor := fun t xo yo => bin_or (P := Tryd.prog) (t := t) (xo := xo) (yo := yo) (show valB ((rest.take n).take i) * 256 < 18446744073709551616 by omega) (show x < 18446744073709551616 by omega)
    simp only [go_sem, Nat.reduceLT, Nat.reduceLeDiff, Nat.reduceEqDiff, Nat.reduceAdd, Nat.reduceSub, Nat.reduceMul, reduceCtorEq, Int.reduceBEq, Int.reduceLT, Int.reduceLE, Int.reduceAdd, Int.reduceSub, Int.reduceEq, Int.reduceNeg, Int.reduceToNat, Int.reduceGT, Int.reduceGE, e7, e21, e22, e23, hlt2, hix, hb, hg, bin_shl8, hs1, hs2, hor, or_add hx256, hw2]
    exact next _ _ ⟨by simp only [go_sem, Nat.reduceLT, Nat.reduceLeDiff, Nat.reduceEqDiff, Nat.reduceAdd, Nat.reduceSub, Nat.reduceMul, reduceCtorEq, Int.reduceBEq, Int.reduceLT, Int.reduceLE, Int.reduceAdd, Int.reduceSub, Int.reduceEq, Int.reduceNeg, Int.reduceToNat, Int.reduceGT, Int.reduceGE, htk, valB_app], by simp only [go_sem, Nat.reduceLT, Nat.reduceLeDiff, Nat.reduceEqDiff, Nat.reduceAdd, Nat.reduceSub, Nat.reduceMul, reduceCtorEq, Int.reduceBEq, Int.reduceLT, Int.reduceLE, Int.reduceAdd, Int.reduceSub, Int.reduceEq, Int.reduceNeg, Int.reduceToNat, Int.reduceGT, Int.reduceGE, e21], by simp only [go_sem, Nat.reduceLT, Nat.reduceLeDiff, Nat.reduceEqDiff, Nat.reduceAdd, Nat.reduceSub, Nat.reduceMul, reduceCtorEq, Int.reduceBEq, Int.reduceLT, Int.reduceLE, Int.reduceAdd, Int.reduceSub, Int.reduceEq, Int.reduceNeg, Int.reduceToNat, Int.reduceGT, Int.reduceGE, e22], by simp only [go_sem, Nat.reduceLT, Nat.reduceLeDiff, Nat.reduceEqDiff, Nat.reduceAdd, Nat.reduceSub, Nat.reduceMul, reduceCtorEq, Int.reduceBEq, Int.reduceLT, Int.reduceLE, Int.reduceAdd, Int.reduceSub, Int.reduceEq, Int.reduceNeg, Int.reduceToNat, Int.reduceGT, Int.reduceGE], by simp only [go_sem, Nat.reduceLT, Nat.reduceLeDiff, Nat.reduceEqDiff, Nat.reduceAdd, Nat.reduceSub, Nat.reduceMul, reduceCtorEq, Int.reduceBEq, Int.reduceLT, Int.reduceLE, Int.reduceAdd, Int.reduceSub, Int.reduceEq, Int.reduceNeg, Int.reduceToNat, Int.reduceGT, Int.reduceGE]⟩
  · rintro env h' ⟨e7, e21, e22, e23, rfl⟩
    have hlt2 := ofNat_nlt (Nat.le_refl n)
    rw [show (rest.take n).take n = rest.take n by rw [List.take_take]; simp] at e7
    simp only [go_sem, Nat.reduceLT, Nat.reduceLeDiff, Nat.reduceEqDiff, Nat.reduceAdd, Nat.reduceSub, Nat.reduceMul, reduceCtorEq, Int.reduceBEq, Int.reduceLT, Int.reduceLE, Int.reduceAdd, Int.reduceSub, Int.reduceEq, Int.reduceNeg, Int.reduceToNat, Int.reduceGT, Int.reduceGE, e7, e21, e22, e23, hlt2]
    rw [fin_l _ _ _ (by omega)]
    exact ⟨_, rfl, ⟨R1.lt, R1.blk⟩, ⟨F.nx, F.gn, F.old⟩, by simp only [go_sem, Nat.reduceLT, Nat.reduceLeDiff, Nat.reduceEqDiff, Nat.reduceAdd, Nat.reduceSub, Nat.reduceMul, reduceCtorEq, Int.reduceBEq, Int.reduceLT, Int.reduceLE, Int.reduceAdd, Int.reduceSub, Int.reduceEq, Int.reduceNeg, Int.reduceToNat, Int.reduceGT, Int.reduceGE]; omega, by simp only [go_sem, Nat.reduceLT, Nat.reduceLeDiff, Nat.reduceEqDiff, Nat.reduceAdd, Nat.reduceSub, Nat.reduceMul, reduceCtorEq, Int.reduceBEq, Int.reduceLT, Int.reduceLE, Int.reduceAdd, Int.reduceSub, Int.reduceEq, Int.reduceNeg, Int.reduceToNat, Int.reduceGT, Int.reduceGE]; omega⟩
theorem RdAt.lo {h : H} {r lid : Nat} {rest : List Nat} (R : RdAt h r lid rest) : RdAt h.lo r lid rest := by
  obtain ⟨b, v, hb, hro, hbn, h0, h1, h2, RL, hne⟩ := R.blk
  exact ⟨R.lt, b, v, hb, hro, hbn, h0, h1, h2, RL.ext (Ext.lo h), hne⟩
theorem RdAt.ext {h h' : H} {r lid : Nat} {rest : List Nat} (R : RdAt h r lid rest) (E : Ext h h') : RdAt h' r lid rest := by
  obtain ⟨b, v, hb, hro, hbn, h0, h1, h2, RL, hne⟩ := R.blk
  exact ⟨Nat.lt_of_lt_of_le R.lt E.nx, b, v, (E.blk R.lt).trans hb, hro, hbn, h0, h1, h2, RL.ext E, hne⟩
theorem But.up {h h' : H} {r : Nat} (F : But h h' r) (m : Nat) : But h (h'.up m) r := ⟨F.nx, F.gn, F.old⟩
theorem But.unlo {h h' : H} {r : Nat} (F : But h.lo h' r) : But h h' r := ⟨F.nx, F.gn, F.old⟩
def EndR (o : Option (CV × Option H)) : Prop := o = some (.int .i64 0, none)
theorem rend_run (hσ : ∀ f a h, told f = false → σ f a h = none) {h : H} {r lid : Nat} (R : RdAt h r lid []) : EndR ((lim Tryd.prog σ).call 44 [.ptr r 0] h) := by
  obtain ⟨b, v, hb, hro, hbn, h0, h1, h2, RL, hne⟩ := R.blk
  have hl : ∀ h', builtinT Tryd.prog h' .len [24] [v] = some (.val (.int .i64 0)) := RL.len
  rw [call_eq (hσ _ _ _ (by decide)) fn_44 rfl rfl, Tryd.ntmps44, Tryd.results44]
  simp only [go_sem, Nat.reduceLT, Nat.reduceLeDiff, Nat.reduceEqDiff, Nat.reduceAdd, Nat.reduceSub, Nat.reduceMul, reduceCtorEq, Int.reduceBEq, Int.reduceLT, Int.reduceLE, Int.reduceAdd, Int.reduceSub, Int.reduceEq, Int.reduceNeg, Int.reduceToNat, Int.reduceGT, Int.reduceGE, hb, h0, h1, h2, hl]
  rw [fin_q _ _ _ rfl rfl]
  rfl
def ReadR (h : H) (xs : List Nat) (o : Option (CV × Option H)) : Prop :=
  ∃ r lid h', o = some (.ptr r 0, some h') ∧ h.nx ≤ r ∧ h.nx ≤ lid ∧ lid < h'.nx ∧ RdAt h' r lid xs ∧ Ext h h'
theorem read_run (hσ : ∀ f a h, told f = false → σ f a h = none) {h : H} {v : CV} {xs : List Nat} (B : BSl h v (bc xs)) (hx : xs.length ≤ 1000000) : ReadR h xs ((lim Tryd.prog σ).call 40 [v] h) := by
  rw [call_eq (hσ _ _ _ (by decide)) fn_40 rfl rfl, Tryd.ntmps40, Tryd.results40]
  simp only [go_sem, Nat.reduceLT, Nat.reduceLeDiff, Nat.reduceEqDiff, Nat.reduceAdd, Nat.reduceSub, Nat.reduceMul, reduceCtorEq, Int.reduceBEq, Int.reduceLT, Int.reduceLE, Int.reduceAdd, Int.reduceSub, Int.reduceEq, Int.reduceNeg, Int.reduceToNat, Int.reduceGT, Int.reduceGE]
  refine copy_of (Q := ReadR h xs) (B.ext (Ext.lo h)) (bc_one _) (by rw [bc_len]; omega) ?_
  intro s' h2 E B2 hne hnil hl2
  have s1 := B2.one
  have hE := E.nx
  rw [lo_nx] at hE
  simp only [go_sem, Nat.reduceLT, Nat.reduceLeDiff, Nat.reduceEqDiff, Nat.reduceAdd, Nat.reduceSub, Nat.reduceMul, reduceCtorEq, Int.reduceBEq, Int.reduceLT, Int.reduceLE, Int.reduceAdd, Int.reduceSub, Int.reduceEq, Int.reduceNeg, Int.reduceToNat, Int.reduceGT, Int.reduceGE, s1]
  rw [fin_new _ _ _ (by simp only [go_sem, Nat.reduceLT, Nat.reduceLeDiff, Nat.reduceEqDiff, Nat.reduceAdd, Nat.reduceSub, Nat.reduceMul, reduceCtorEq, Int.reduceBEq, Int.reduceLT, Int.reduceLE, Int.reduceAdd, Int.reduceSub, Int.reduceEq, Int.reduceNeg, Int.reduceToNat, Int.reduceGT, Int.reduceGE]; exact decide_eq_false (by omega))]
  have E2 : Ext h (h2.alloc (.cells (newBlk [s', .bool true, .bool false]))) := ((Ext.lo h).trans E).alloc' _
  by_cases q : xs = []
  · obtain ⟨q1, q2⟩ := hnil (by rw [q]; rfl)
    subst q1
    exact ⟨h2.nx, h2.nx, _, rfl, hE, hE, by simp only [go_sem, Nat.reduceLT, Nat.reduceLeDiff, Nat.reduceEqDiff, Nat.reduceAdd, Nat.reduceSub, Nat.reduceMul, reduceCtorEq, Int.reduceBEq, Int.reduceLT, Int.reduceLE, Int.reduceAdd, Int.reduceSub, Int.reduceEq, Int.reduceNeg, Int.reduceToNat, Int.reduceGT, Int.reduceGE], RdAt.ext (h := h2.alloc (.cells (newBlk [.nils, .bool true, .bool false]))) ⟨by simp only [go_sem, Nat.reduceLT, Nat.reduceLeDiff, Nat.reduceEqDiff, Nat.reduceAdd, Nat.reduceSub, Nat.reduceMul, reduceCtorEq, Int.reduceBEq, Int.reduceLT, Int.reduceLE, Int.reduceAdd, Int.reduceSub, Int.reduceEq, Int.reduceNeg, Int.reduceToNat, Int.reduceGT, Int.reduceGE], _, .nils, alloc_blk_same _ _ _ rfl, rfl, rfl, rfl, rfl, rfl, .inl ⟨rfl, q⟩, fun _ _ _ _ e => by cases e⟩ (Ext.up _ _), E2.up' _⟩
  · obtain ⟨k, q1, q2, q3⟩ := hne (by intro e; apply q; simpa [bc] using e)
    have hq : (bc xs).length ≠ 0 := by rw [bc_len]; intro e; exact q (List.length_eq_zero_iff.1 e)
    have hk := q3.lt hq
    rw [lo_nx] at q2
    rw [bc_len] at q1 q3
    subst q1
    rcases q3.val with ⟨r5, _⟩ | ⟨_, _, _, b, r5, r6, r7, r8⟩
    · rw [bc_len] at hq; exact absurd r5 hq
    · refine ⟨h2.nx, k, _, rfl, hE, q2, by simp only [go_sem, Nat.reduceLT, Nat.reduceLeDiff, Nat.reduceEqDiff, Nat.reduceAdd, Nat.reduceSub, Nat.reduceMul, reduceCtorEq, Int.reduceBEq, Int.reduceLT, Int.reduceLE, Int.reduceAdd, Int.reduceSub, Int.reduceEq, Int.reduceNeg, Int.reduceToNat, Int.reduceGT, Int.reduceGE]; omega, RdAt.ext (h := h2.alloc (.cells (newBlk [.sl k 0 xs.length (.opn 1), .bool true, .bool false]))) ⟨by simp only [go_sem, Nat.reduceLT, Nat.reduceLeDiff, Nat.reduceEqDiff, Nat.reduceAdd, Nat.reduceSub, Nat.reduceMul, reduceCtorEq, Int.reduceBEq, Int.reduceLT, Int.reduceLE, Int.reduceAdd, Int.reduceSub, Int.reduceEq, Int.reduceNeg, Int.reduceToNat, Int.reduceGT, Int.reduceGE], _, .sl k 0 xs.length (.opn 1), alloc_blk_same _ _ _ rfl, rfl, rfl, rfl, rfl, rfl, .inr (.inr ⟨k, 0, b, rfl, q, by simp only [go_sem, Nat.reduceLT, Nat.reduceLeDiff, Nat.reduceEqDiff, Nat.reduceAdd, Nat.reduceSub, Nat.reduceMul, reduceCtorEq, Int.reduceBEq, Int.reduceLT, Int.reduceLE, Int.reduceAdd, Int.reduceSub, Int.reduceEq, Int.reduceNeg, Int.reduceToNat, Int.reduceGT, Int.reduceGE]; omega, ?_, by omega, loadN_of _ _ _ (bc_len _) fun i v hv => by rw [Nat.zero_add, r8, hv]⟩), fun _ _ _ _ e => by cases e; exact ⟨rfl, by omega⟩⟩ (Ext.up _ _), E2.up' _⟩
      rw [alloc_blk_ne _ _ _ (by omega)]; exact r5
end Go.Cl.Sh.W
