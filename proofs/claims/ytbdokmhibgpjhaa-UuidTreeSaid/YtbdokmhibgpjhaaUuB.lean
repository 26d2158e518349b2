/- The program's functions, run by the rewriting evaluator: what each answers and leaves (UuB). -/
import Derived.Test.YtbdokmhibgpjhaaUuA
set_option linter.all false
open Go Go.Cl Go.Proofs
namespace Go.Cl.U
variable {σ : Sums}
set_option maxRecDepth 1000000
set_option maxHeartbeats 4000000

theorem i4 : Int.ofNat 4 = 4 := rfl
theorem i5 : Int.ofNat 5 = 5 := rfl
theorem i6 : Int.ofNat 6 = 6 := rfl
theorem i7 : Int.ofNat 7 = 7 := rfl
theorem i8 : Int.ofNat 8 = 8 := rfl
theorem ne_succ (n : Nat) : n ≠ n + 1 := by omega
theorem tree_run (hσ : ∀ f a h, f ≠ 20 → σ f a h = none) (hk : ∀ h, (lim Try.prog σ).call 20 [] h = some (.bool true, none)) {h : H} {v : CV} {xs : List Int} (S : Sl Try.prog 48 h v 1 xs.length (xs.map (CV.int .i64))) :
    Tru ((lim Try.prog σ).call 6 [v] h) := by
  obtain ⟨Q, hQ⟩ : ∃ Q : Option (CV × Option H) → Prop, Q = Tru := ⟨_, rfl⟩
  rw [← hQ]
  rw [call_eq (hσ _ _ _ (by decide)) fn_6 rfl rfl, Try.ntmps6, Try.results6]
  by_cases q0 : Int.ofNat xs.length > 40
  · simp only [go_sem, Nat.reduceLT, Nat.reduceLeDiff, Nat.reduceEqDiff, Nat.reduceAdd, Nat.reduceSub, Nat.reduceMul, reduceCtorEq, Int.reduceBEq, Int.reduceLT, Int.reduceLE, Int.reduceAdd, Int.reduceSub, Int.reduceEq, Int.reduceNeg, Int.reduceToNat, Int.reduceGT, Int.reduceGE, S.len, q0, hk]
    rw [hQ]; exact tru_fin _ _
  simp only [go_sem, Nat.reduceLT, Nat.reduceLeDiff, Nat.reduceEqDiff, Nat.reduceAdd, Nat.reduceSub, Nat.reduceMul, reduceCtorEq, Int.reduceBEq, Int.reduceLT, Int.reduceLE, Int.reduceAdd, Int.reduceSub, Int.reduceEq, Int.reduceNeg, Int.reduceToNat, Int.reduceGT, Int.reduceGE, S.len, q0, hk]
  have hlen : xs.length ≤ 40 := by
    have : ¬ (xs.length : Int) > 40 := q0
    omega
  refine loop_ind (Q := Q) (fun i env h' => ∃ t a b v3 lid lb, Sta h h' t a b v3 lid lb ∧ t.length ≤ i + 2 ∧ evT env 0 = v ∧ evT env 3 = v3 ∧ evT env 4 = .ptr lb 0 ∧ evT env 5 = .int .i64 (Int.ofNat i)) xs.length 0 ?_ (Nat.zero_le _) ?_ ?_
  · refine ⟨[0, 0], ⟨1, 0, 0, 0⟩, ⟨1, 0, 0, 0⟩, .sl h.nx 0 2 (.exact 2), h.nx, h.nx + 1, ?_, by simp, by simp only [go_sem, Nat.reduceLT, Nat.reduceLeDiff, Nat.reduceEqDiff, Nat.reduceAdd, Nat.reduceSub, Nat.reduceMul, reduceCtorEq, Int.reduceBEq, Int.reduceLT, Int.reduceLE, Int.reduceAdd, Int.reduceSub, Int.reduceEq, Int.reduceNeg, Int.reduceToNat, Int.reduceGT, Int.reduceGE], by simp only [go_sem, Nat.reduceLT, Nat.reduceLeDiff, Nat.reduceEqDiff, Nat.reduceAdd, Nat.reduceSub, Nat.reduceMul, reduceCtorEq, Int.reduceBEq, Int.reduceLT, Int.reduceLE, Int.reduceAdd, Int.reduceSub, Int.reduceEq, Int.reduceNeg, Int.reduceToNat, Int.reduceGT, Int.reduceGE], by simp only [go_sem, Nat.reduceLT, Nat.reduceLeDiff, Nat.reduceEqDiff, Nat.reduceAdd, Nat.reduceSub, Nat.reduceMul, reduceCtorEq, Int.reduceBEq, Int.reduceLT, Int.reduceLE, Int.reduceAdd, Int.reduceSub, Int.reduceEq, Int.reduceNeg, Int.reduceToNat, Int.reduceGT, Int.reduceGE], by simp only [go_sem, Nat.reduceLT, Nat.reduceLeDiff, Nat.reduceEqDiff, Nat.reduceAdd, Nat.reduceSub, Nat.reduceMul, reduceCtorEq, Int.reduceBEq, Int.reduceLT, Int.reduceLE, Int.reduceAdd, Int.reduceSub, Int.reduceEq, Int.reduceNeg, Int.reduceToNat, Int.reduceGT, Int.reduceGE]; rfl⟩
    have tg : TG [0, 0] ⟨1, 0, 0, 0⟩ := ⟨by decide, by decide, fun i x hx => by
      have : (⟨1, 0, 0, 0⟩ : Ln).el = [] := rfl
      rw [this] at hx; simp at hx⟩
    refine ⟨(((Ext.lo h).alloc' _).alloc' _).put _ (by omega), by simp only [go_sem, Nat.reduceLT, Nat.reduceLeDiff, Nat.reduceEqDiff, Nat.reduceAdd, Nat.reduceSub, Nat.reduceMul, reduceCtorEq, Int.reduceBEq, Int.reduceLT, Int.reduceLE, Int.reduceAdd, Int.reduceSub, Int.reduceEq, Int.reduceNeg, Int.reduceToNat, Int.reduceGT, Int.reduceGE] <;> omega, ⟨fun i hi => ?_, rfl⟩, tg, tg, .inr ⟨rfl, rfl, by simp only [go_sem, Nat.reduceLT, Nat.reduceLeDiff, Nat.reduceEqDiff, Nat.reduceAdd, Nat.reduceSub, Nat.reduceMul, reduceCtorEq, Int.reduceBEq, Int.reduceLT, Int.reduceLE, Int.reduceAdd, Int.reduceSub, Int.reduceEq, Int.reduceNeg, Int.reduceToNat, Int.reduceGT, Int.reduceGE] <;> omega, by unfold tb; simp only [go_sem, Nat.reduceLT, Nat.reduceLeDiff, Nat.reduceEqDiff, Nat.reduceAdd, Nat.reduceSub, Nat.reduceMul, reduceCtorEq, Int.reduceBEq, Int.reduceLT, Int.reduceLE, Int.reduceAdd, Int.reduceSub, Int.reduceEq, Int.reduceNeg, Int.reduceToNat, Int.reduceGT, Int.reduceGE, ne_succ]⟩, Nat.le_refl _, ⟨by simp only [go_sem, Nat.reduceLT, Nat.reduceLeDiff, Nat.reduceEqDiff, Nat.reduceAdd, Nat.reduceSub, Nat.reduceMul, reduceCtorEq, Int.reduceBEq, Int.reduceLT, Int.reduceLE, Int.reduceAdd, Int.reduceSub, Int.reduceEq, Int.reduceNeg, Int.reduceToNat, Int.reduceGT, Int.reduceGE] <;> omega, _, put_blk_same _ _ _, rfl, rfl, fun i => ?_⟩, by omega, by omega⟩
    · match i, hi with
      | 1, _ => decide
      | i+2, _ => show (0 : Nat) < i + 2; omega
    · match i with
      | 0 => rfl
      | 1 => rfl
      | 2 => rfl
      | 3 => rfl
      | 4 => rfl
      | 5 => rfl
      | 6 => rfl
      | 7 => rfl
      | i+8 => rw [st_get]; simp only [st_n, newBlk_n, blt_eq']; rw [decide_eq_false (by simp)]; rfl
  · rintro i env h' ⟨t, a, b, v3, lid, lb, st, ht, e0, e3, e4, e5⟩ hi next
    have c0 := ofNat_lt hi
    obtain ⟨id, off, bb, ea, hid, hb, hro, hg⟩ := S.elt i hi
    obtain ⟨x, hx⟩ : ∃ x, xs[i]? = some x := ⟨_, List.getElem?_eq_getElem hi⟩
    have hg0 : bb.get (off + 0) = some (.int .i64 x) := hg 0 _ (by decide) (by rw [nth_eq, Nat.mul_one, Nat.add_zero, List.getElem?_map, hx]; rfl)
    rw [Nat.add_zero] at hg0
    have hb' : h'.blk id = some bb := (st.ext.blk hid).trans hb
    simp only [go_sem, Nat.reduceLT, Nat.reduceLeDiff, Nat.reduceEqDiff, Nat.reduceAdd, Nat.reduceSub, Nat.reduceMul, reduceCtorEq, Int.reduceBEq, Int.reduceLT, Int.reduceLE, Int.reduceAdd, Int.reduceSub, Int.reduceEq, Int.reduceNeg, Int.reduceToNat, Int.reduceGT, Int.reduceGE, S.len, e0, e3, e4, e5, c0, ea, hb', hg0]
    have wi := wrap_succ (i := i) (by omega)
    obtain ⟨k, hk1, hkn, hkr, hkg⟩ := st.lines.bk
    have kg0 := hkg 0
    have kg1 := hkg 1
    have kg2 := hkg 2
    have kg3 := hkg 3
    have kg4 := hkg 4
    have kg5 := hkg 5
    have kg6 := hkg 6
    have kg7 := hkg 7
    simp only [l8, nth] at kg0 kg1 kg2 kg3 kg4 kg5 kg6 kg7
    have lenl : ∀ h' ts az, builtinT Try.prog h' .len (49 :: ts) (v3 :: az) = some (.val (.int .i64 (Int.ofNat t.length))) := fun h' ts az => st.tl.len h' ts az
    have cu := fun X => cvu (n := t.length) (by omega) X
    have al0 : ∀ (L : Ln) (Y : H), (lim Try.prog σ).call 21 [.agg [u64 L.c, u64 L.b, u64 L.h0, u64 L.h1], u64 t.length] Y = some (.tup [(alone L t.length).cv, .bool (decide (L.b = 0))], none) := fun L Y => alone_run hσ Y L t.length
    have en0 : ∀ (L : Ln) (Y : H), (lim Try.prog σ).call 22 [.agg [u64 L.c, u64 L.b, u64 L.h0, u64 L.h1]] Y = some ((ended L).cv, none) := fun L Y => ended_run hσ Y L
    by_cases x0 : x = 0
    · subst x0
      by_cases ub : a.b = 0
      · have d1 : decide (a.b = 0) = true := decide_eq_true ub
        have ca := fun X => cvi (n := a.c) (by have := st.A.lt; have := st.B.lt; omega) X
        simp only [go_sem, Nat.reduceLT, Nat.reduceLeDiff, Nat.reduceEqDiff, Nat.reduceAdd, Nat.reduceSub, Nat.reduceMul, reduceCtorEq, Int.reduceBEq, Int.reduceLT, Int.reduceLE, Int.reduceAdd, Int.reduceSub, Int.reduceEq, Int.reduceNeg, Int.reduceToNat, Int.reduceGT, Int.reduceGE, S.len, e0, e3, e4, e5, c0, ea, hb', hg0, row0, row1, hk1, kg0, kg1, kg2, kg3, kg4, kg5, kg6, kg7, hkn, hkr, lenl, cu, al0, en0, Ln.cv_eq, d1, ca]
        obtain ⟨X, hX⟩ : ∃ X, X = (h'.alloc (.cells (newBlk [CV.int .u64 0, CV.int .u64 0, CV.int .u64 0, CV.int .u64 0]))).put h'.nx (.cells (((((newBlk [CV.int .u64 0, CV.int .u64 0, CV.int .u64 0, CV.int .u64 0]).st 0 (u64 (alone a t.length).c)).st 1 (u64 (alone a t.length).b)).st 2 (u64 (alone a t.length).h0)).st 3 (u64 (alone a t.length).h1))) := ⟨_, rfl⟩
        have Xnx : X.nx = h'.nx + 1 := by rw [hX]; rfl
        have Xlow : X.low = h.nx := by rw [hX]; simp only [go_sem, Nat.reduceLT, Nat.reduceLeDiff, Nat.reduceEqDiff, Nat.reduceAdd, Nat.reduceSub, Nat.reduceMul, reduceCtorEq, Int.reduceBEq, Int.reduceLT, Int.reduceLE, Int.reduceAdd, Int.reduceSub, Int.reduceEq, Int.reduceNeg, Int.reduceToNat, Int.reduceGT, Int.reduceGE, st.low]; have := st.ext.nx; omega
        have XE : Ext h' X := by rw [hX]; exact (Ext.alloc' (Ext.refl _) _).put _ (Nat.le_refl _)
        have Xi : X.blk id = some bb := (XE.blk (Nat.lt_of_lt_of_le hid st.ext.nx)).trans hb'
        have Xk : X.blk lb = some k := (XE.blk st.lines.lt).trans hk1
        have Xn : X.blk h'.nx = some (((((newBlk [CV.int .u64 0, CV.int .u64 0, CV.int .u64 0, CV.int .u64 0]).st 0 (u64 (alone a t.length).c)).st 1 (u64 (alone a t.length).b)).st 2 (u64 (alone a t.length).h0)).st 3 (u64 (alone a t.length).h1)) := by rw [hX]; simp only [go_sem, Nat.reduceLT, Nat.reduceLeDiff, Nat.reduceEqDiff, Nat.reduceAdd, Nat.reduceSub, Nat.reduceMul, reduceCtorEq, Int.reduceBEq, Int.reduceLT, Int.reduceLE, Int.reduceAdd, Int.reduceSub, Int.reduceEq, Int.reduceNeg, Int.reduceToNat, Int.reduceGT, Int.reduceGE]
        have sX := st.grow XE Xlow
        try simp only [go_sem, Nat.reduceLT, Nat.reduceLeDiff, Nat.reduceEqDiff, Nat.reduceAdd, Nat.reduceSub, Nat.reduceMul, reduceCtorEq, Int.reduceBEq, Int.reduceLT, Int.reduceLE, Int.reduceAdd, Int.reduceSub, Int.reduceEq, Int.reduceNeg, Int.reduceToNat, Int.reduceGT, Int.reduceGE, S.len, e0, e3, e4, e5, c0, ea, hb', hg0, row0, row1, hk1, kg0, kg1, kg2, kg3, kg4, kg5, kg6, kg7, hkn, hkr, lenl, cu, al0, en0, Ln.cv_eq, d1, ca, ← hX, Xi, Xk, Xn]
        refine growT (Q := Q) (X := X.alloc _) (sX.grow (Ext.alloc _ _) Xlow) (x := a.c) (by have := st.A.lt; have := st.B.lt; omega) (by omega) fun Y v32 sY hold => ?_
        have hlid : lid < h'.nx := st.lst.lt (by have := st.A.lt; omega)
        have Yi : Y.blk id = some bb := (sY.ext.blk hid).trans hb
        have Yk : Y.blk lb = some k := (hold lb (by have := st.lines.lt; simp only [go_sem, Nat.reduceLT, Nat.reduceLeDiff, Nat.reduceEqDiff, Nat.reduceAdd, Nat.reduceSub, Nat.reduceMul, reduceCtorEq, Int.reduceBEq, Int.reduceLT, Int.reduceLE, Int.reduceAdd, Int.reduceSub, Int.reduceEq, Int.reduceNeg, Int.reduceToNat, Int.reduceGT, Int.reduceGE]; omega) (fun e => st.ne e.symm)).trans (((Ext.alloc X _).blk (by have := st.lines.lt; omega)).trans Xk)
        have Yn : Y.blk h'.nx = some (((((newBlk [CV.int .u64 0, CV.int .u64 0, CV.int .u64 0, CV.int .u64 0]).st 0 (u64 (alone a t.length).c)).st 1 (u64 (alone a t.length).b)).st 2 (u64 (alone a t.length).h0)).st 3 (u64 (alone a t.length).h1)) := (hold h'.nx (by simp only [go_sem, Nat.reduceLT, Nat.reduceLeDiff, Nat.reduceEqDiff, Nat.reduceAdd, Nat.reduceSub, Nat.reduceMul, reduceCtorEq, Int.reduceBEq, Int.reduceLT, Int.reduceLE, Int.reduceAdd, Int.reduceSub, Int.reduceEq, Int.reduceNeg, Int.reduceToNat, Int.reduceGT, Int.reduceGE]; omega) (by omega)).trans (((Ext.alloc X _).blk (by omega)).trans Xn)
        simp only [go_sem, Nat.reduceLT, Nat.reduceLeDiff, Nat.reduceEqDiff, Nat.reduceAdd, Nat.reduceSub, Nat.reduceMul, reduceCtorEq, Int.reduceBEq, Int.reduceLT, Int.reduceLE, Int.reduceAdd, Int.reduceSub, Int.reduceEq, Int.reduceNeg, Int.reduceToNat, Int.reduceGT, Int.reduceGE, S.len, e0, e3, e4, e5, c0, ea, hb', hg0, row0, row1, hk1, kg0, kg1, kg2, kg3, kg4, kg5, kg6, kg7, hkn, hkr, lenl, cu, al0, en0, Ln.cv_eq, d1, ca, ← hX, Yi, Yk, Yn]
        refine cnd_go (Q := Q) (by kernel_rfl) ?_
        simp only [go_sem, Nat.reduceLT, Nat.reduceLeDiff, Nat.reduceEqDiff, Nat.reduceAdd, Nat.reduceSub, Nat.reduceMul, reduceCtorEq, Int.reduceBEq, Int.reduceLT, Int.reduceLE, Int.reduceAdd, Int.reduceSub, Int.reduceEq, Int.reduceNeg, Int.reduceToNat, Int.reduceGT, Int.reduceGE, S.len, e0, e3, e4, e5, c0, ea, hb', hg0, row0, row1, hk1, kg0, kg1, kg2, kg3, kg4, kg5, kg6, kg7, hkn, hkr, lenl, cu, al0, en0, Ln.cv_eq, d1, ca, ← hX, Yi, Yk, Yn]
        refine cnd_go (Q := Q) (by kernel_rfl) ?_
        refine quiet_go (Q := Q) (by kernel_rfl) ?_
        simp only [go_sem, Nat.reduceLT, Nat.reduceLeDiff, Nat.reduceEqDiff, Nat.reduceAdd, Nat.reduceSub, Nat.reduceMul, reduceCtorEq, Int.reduceBEq, Int.reduceLT, Int.reduceLE, Int.reduceAdd, Int.reduceSub, Int.reduceEq, Int.reduceNeg, Int.reduceToNat, Int.reduceGT, Int.reduceGE, S.len, e0, e3, e4, e5, c0, ea, hb', hg0, row0, row1, hk1, kg0, kg1, kg2, kg3, kg4, kg5, kg6, kg7, hkn, hkr, lenl, cu, al0, en0, Ln.cv_eq, d1, ca, ← hX, Yi, Yk, Yn]
        obtain ⟨Z, hZ⟩ : ∃ Z, Z = Y.put lb (.cells ((((k.st 0 (u64 (alone a t.length).c)).st 1 (u64 (alone a t.length).b)).st 2 (u64 (alone a t.length).h0)).st 3 (u64 (alone a t.length).h1))) := ⟨_, rfl⟩
        obtain ⟨a2, ha2⟩ : ∃ a2, a2 = alone a t.length := ⟨_, rfl⟩
        obtain ⟨b2, hb2⟩ : ∃ b2, b2 = b := ⟨_, rfl⟩
        obtain ⟨t2, ht2⟩ : ∃ t2, t2 = t ++ [a.c] := ⟨_, rfl⟩
        obtain ⟨lid2, hl2⟩ : ∃ l, l = (X.alloc (.cells ({ n := 1, d := [CV.int IntKind.i64 0], t := T.nil, ro := false : Blk }))).nx := ⟨_, rfl⟩
        have htl : t2.length = t.length + 1 := by rw [ht2]; simp
        have S2 : Sta h Z t2 a2 b2 v32 lid2 lb := by
          rw [hZ, ha2, hb2, ht2, hl2]
          exact sY.put (by simp only [go_sem, Nat.reduceLT, Nat.reduceLeDiff, Nat.reduceEqDiff, Nat.reduceAdd, Nat.reduceSub, Nat.reduceMul, reduceCtorEq, Int.reduceBEq, Int.reduceLT, Int.reduceLE, Int.reduceAdd, Int.reduceSub, Int.reduceEq, Int.reduceNeg, Int.reduceToNat, Int.reduceGT, Int.reduceGE, hkn]) (by simp only [go_sem, Nat.reduceLT, Nat.reduceLeDiff, Nat.reduceEqDiff, Nat.reduceAdd, Nat.reduceSub, Nat.reduceMul, reduceCtorEq, Int.reduceBEq, Int.reduceLT, Int.reduceLE, Int.reduceAdd, Int.reduceSub, Int.reduceEq, Int.reduceNeg, Int.reduceToNat, Int.reduceGT, Int.reduceGE, hkr]) (l8_set0 hkn hkg) (st.A.alone st.tree ub) (st.B.app st.tree _)
        obtain ⟨k2, hk2, hk2n, hk2r, hk2g⟩ := S2.lines.bk
        have kh0 := hk2g 0
        have kh1 := hk2g 1
        have kh2 := hk2g 2
        have kh3 := hk2g 3
        have kh4 := hk2g 4
        have kh5 := hk2g 5
        have kh6 := hk2g 6
        have kh7 := hk2g 7
        simp only [l8, nth] at kh0 kh1 kh2 kh3 kh4 kh5 kh6 kh7
        have hlb2 := S2.lines.lt
        have hne1 : lb ≠ Z.nx := by omega
        have hne2 : lb ≠ Z.nx + 1 := by omega
        refine cnd_go (Q := Q) (by kernel_rfl) ?_
        simp only [go_sem, Nat.reduceLT, Nat.reduceLeDiff, Nat.reduceEqDiff, Nat.reduceAdd, Nat.reduceSub, Nat.reduceMul, reduceCtorEq, Int.reduceBEq, Int.reduceLT, Int.reduceLE, Int.reduceAdd, Int.reduceSub, Int.reduceEq, Int.reduceNeg, Int.reduceToNat, Int.reduceGT, Int.reduceGE, e0, e3, e4, e5, wi, row0, row1, ← hX, ← hZ, hk2, kh0, kh1, kh2, kh3, kh4, kh5, kh6, kh7, hlb2, hne1, hne2]
        refine cnd_goF (Q := Q) (by kernel_rfl) ?_
        refine cnd_go' (Q := Q) (by kernel_rfl) ?_
        refine cnd_go' (Q := Q) ?_ ?_
        · rw [show leadN _ _ = 2 from by kernel_rfl]
          simp only [go_sem, Nat.reduceLT, Nat.reduceLeDiff, Nat.reduceEqDiff, Nat.reduceAdd, Nat.reduceSub, Nat.reduceMul, reduceCtorEq, Int.reduceBEq, Int.reduceLT, Int.reduceLE, Int.reduceAdd, Int.reduceSub, Int.reduceEq, Int.reduceNeg, Int.reduceToNat, Int.reduceGT, Int.reduceGE, List.take_succ_cons, List.take_zero, leadH_blk, leadH_gn, leadH_nx, ids_ptr, ids_4, beqC_4, leadId_lt, e0, e3, e4, e5, wi, row0, row1, ← hX, ← hZ, hk2, kh0, kh1, kh2, kh3, kh4, kh5, kh6, kh7, hlb2, hne1, hne2]
        simp only [go_sem, Nat.reduceLT, Nat.reduceLeDiff, Nat.reduceEqDiff, Nat.reduceAdd, Nat.reduceSub, Nat.reduceMul, reduceCtorEq, Int.reduceBEq, Int.reduceLT, Int.reduceLE, Int.reduceAdd, Int.reduceSub, Int.reduceEq, Int.reduceNeg, Int.reduceToNat, Int.reduceGT, Int.reduceGE, e0, e3, e4, e5, wi, row0, row1, ← hX, ← hZ, hk2, kh0, kh1, kh2, kh3, kh4, kh5, kh6, kh7, hlb2, hne1, hne2]
        obtain ⟨ka, hka⟩ : ∃ k, k = (((((newBlk [CV.int .u64 0, CV.int .u64 0, CV.int .u64 0, CV.int .u64 0]).st 0 (u64 a2.c)).st 1 (u64 a2.b)).st 2 (u64 a2.h0)).st 3 (u64 a2.h1)) := ⟨_, rfl⟩
        obtain ⟨kb, hkb⟩ : ∃ k, k = (((((newBlk [CV.int .u64 0, CV.int .u64 0, CV.int .u64 0, CV.int .u64 0]).st 0 (u64 b2.c)).st 1 (u64 b2.b)).st 2 (u64 b2.h0)).st 3 (u64 b2.h1)) := ⟨_, rfl⟩
        obtain ⟨V, hV⟩ : ∃ V, V = (((Z.alloc (.cells (newBlk [CV.int .u64 0, CV.int .u64 0, CV.int .u64 0, CV.int .u64 0]))).alloc (.cells (newBlk [CV.int .u64 0, CV.int .u64 0, CV.int .u64 0, CV.int .u64 0]))).put Z.nx (.cells (((((newBlk [CV.int .u64 0, CV.int .u64 0, CV.int .u64 0, CV.int .u64 0]).st 0 (u64 a2.c)).st 1 (u64 a2.b)).st 2 (u64 a2.h0)).st 3 (u64 a2.h1)))).put (Z.nx + 1) (.cells (((((newBlk [CV.int .u64 0, CV.int .u64 0, CV.int .u64 0, CV.int .u64 0]).st 0 (u64 b2.c)).st 1 (u64 b2.b)).st 2 (u64 b2.h0)).st 3 (u64 b2.h1))) := ⟨_, rfl⟩
        have VE : Ext Z V := by rw [hV]; exact (((Ext.alloc' (Ext.alloc' (Ext.refl _) _) _).put _ (Nat.le_refl _)).put _ (by omega))
        have Vnx : V.nx = Z.nx + 2 := by rw [hV]; rfl
        have nxV : Z.nx + 2 ≤ V.nx := by omega
        have lowV : V.low = h.nx := by rw [hV]; simp only [go_sem, Nat.reduceLT, Nat.reduceLeDiff, Nat.reduceEqDiff, Nat.reduceAdd, Nat.reduceSub, Nat.reduceMul, reduceCtorEq, Int.reduceBEq, Int.reduceLT, Int.reduceLE, Int.reduceAdd, Int.reduceSub, Int.reduceEq, Int.reduceNeg, Int.reduceToNat, Int.reduceGT, Int.reduceGE, S2.low]; have := S2.ext.nx; omega
        have aV : V.blk Z.nx = some ka := by rw [hV, hka]; simp only [go_sem, Nat.reduceLT, Nat.reduceLeDiff, Nat.reduceEqDiff, Nat.reduceAdd, Nat.reduceSub, Nat.reduceMul, reduceCtorEq, Int.reduceBEq, Int.reduceLT, Int.reduceLE, Int.reduceAdd, Int.reduceSub, Int.reduceEq, Int.reduceNeg, Int.reduceToNat, Int.reduceGT, Int.reduceGE, ne_succ]
        have bV : V.blk (Z.nx + 1) = some kb := by rw [hV, hkb]; simp only [go_sem, Nat.reduceLT, Nat.reduceLeDiff, Nat.reduceEqDiff, Nat.reduceAdd, Nat.reduceSub, Nat.reduceMul, reduceCtorEq, Int.reduceBEq, Int.reduceLT, Int.reduceLE, Int.reduceAdd, Int.reduceSub, Int.reduceEq, Int.reduceNeg, Int.reduceToNat, Int.reduceGT, Int.reduceGE]
        have ga0 : ka.get 0 = some (u64 a2.c) := by rw [hka]; simp only [go_sem, Nat.reduceLT, Nat.reduceLeDiff, Nat.reduceEqDiff, Nat.reduceAdd, Nat.reduceSub, Nat.reduceMul, reduceCtorEq, Int.reduceBEq, Int.reduceLT, Int.reduceLE, Int.reduceAdd, Int.reduceSub, Int.reduceEq, Int.reduceNeg, Int.reduceToNat, Int.reduceGT, Int.reduceGE]
        have ga1 : ka.get 1 = some (u64 a2.b) := by rw [hka]; simp only [go_sem, Nat.reduceLT, Nat.reduceLeDiff, Nat.reduceEqDiff, Nat.reduceAdd, Nat.reduceSub, Nat.reduceMul, reduceCtorEq, Int.reduceBEq, Int.reduceLT, Int.reduceLE, Int.reduceAdd, Int.reduceSub, Int.reduceEq, Int.reduceNeg, Int.reduceToNat, Int.reduceGT, Int.reduceGE]
        have ga2 : ka.get 2 = some (u64 a2.h0) := by rw [hka]; simp only [go_sem, Nat.reduceLT, Nat.reduceLeDiff, Nat.reduceEqDiff, Nat.reduceAdd, Nat.reduceSub, Nat.reduceMul, reduceCtorEq, Int.reduceBEq, Int.reduceLT, Int.reduceLE, Int.reduceAdd, Int.reduceSub, Int.reduceEq, Int.reduceNeg, Int.reduceToNat, Int.reduceGT, Int.reduceGE]
        have ga3 : ka.get 3 = some (u64 a2.h1) := by rw [hka]; simp only [go_sem, Nat.reduceLT, Nat.reduceLeDiff, Nat.reduceEqDiff, Nat.reduceAdd, Nat.reduceSub, Nat.reduceMul, reduceCtorEq, Int.reduceBEq, Int.reduceLT, Int.reduceLE, Int.reduceAdd, Int.reduceSub, Int.reduceEq, Int.reduceNeg, Int.reduceToNat, Int.reduceGT, Int.reduceGE]
        have gb0 : kb.get 0 = some (u64 b2.c) := by rw [hkb]; simp only [go_sem, Nat.reduceLT, Nat.reduceLeDiff, Nat.reduceEqDiff, Nat.reduceAdd, Nat.reduceSub, Nat.reduceMul, reduceCtorEq, Int.reduceBEq, Int.reduceLT, Int.reduceLE, Int.reduceAdd, Int.reduceSub, Int.reduceEq, Int.reduceNeg, Int.reduceToNat, Int.reduceGT, Int.reduceGE]
        have gb1 : kb.get 1 = some (u64 b2.b) := by rw [hkb]; simp only [go_sem, Nat.reduceLT, Nat.reduceLeDiff, Nat.reduceEqDiff, Nat.reduceAdd, Nat.reduceSub, Nat.reduceMul, reduceCtorEq, Int.reduceBEq, Int.reduceLT, Int.reduceLE, Int.reduceAdd, Int.reduceSub, Int.reduceEq, Int.reduceNeg, Int.reduceToNat, Int.reduceGT, Int.reduceGE]
        have gb2 : kb.get 2 = some (u64 b2.h0) := by rw [hkb]; simp only [go_sem, Nat.reduceLT, Nat.reduceLeDiff, Nat.reduceEqDiff, Nat.reduceAdd, Nat.reduceSub, Nat.reduceMul, reduceCtorEq, Int.reduceBEq, Int.reduceLT, Int.reduceLE, Int.reduceAdd, Int.reduceSub, Int.reduceEq, Int.reduceNeg, Int.reduceToNat, Int.reduceGT, Int.reduceGE]
        have gb3 : kb.get 3 = some (u64 b2.h1) := by rw [hkb]; simp only [go_sem, Nat.reduceLT, Nat.reduceLeDiff, Nat.reduceEqDiff, Nat.reduceAdd, Nat.reduceSub, Nat.reduceMul, reduceCtorEq, Int.reduceBEq, Int.reduceLT, Int.reduceLE, Int.reduceAdd, Int.reduceSub, Int.reduceEq, Int.reduceNeg, Int.reduceToNat, Int.reduceGT, Int.reduceGE]
        have pa := S2.A.pos
        have pb := S2.B.pos
        have la2 := S2.A.lt
        have lb2 := S2.B.lt
        have cmp : ∀ Y, (lim Try.prog σ).call 23 [.agg [u64 a2.c, u64 a2.b, u64 a2.h0, u64 a2.h1], .agg [u64 b2.c, u64 b2.b, u64 b2.h0, u64 b2.h1]] Y = some (.int .i64 (Int.ofNat (cmpV a2 b2)), none) := fun Y => compare_run hσ Y a2 b2 (by omega) (by omega)
        have ca2 := fun X => cvi (n := a2.c) (by omega) X
        have cb2 := fun X => cvi (n := b2.c) (by omega) X
        have BV : TL V v32 t2 := S2.tl.ext VE
        have len2 := fun h' ts az => BV.len h' ts az
        have p1 : ¬ Int.ofNat a2.c < 1 := by show ¬ (a2.c : Int) < 1; omega
        have p2 : ¬ Int.ofNat b2.c < 1 := by show ¬ (b2.c : Int) < 1; omega
        have p3 : ¬ Int.ofNat a2.c ≥ Int.ofNat t2.length := by show ¬ (a2.c : Int) ≥ (t2.length : Int); omega
        have p4 : ¬ Int.ofNat b2.c ≥ Int.ofNat t2.length := by show ¬ (b2.c : Int) ≥ (t2.length : Int); omega
        obtain ⟨far, up, r1, hf1, ab1'⟩ := above_run hσ BV S2.tree (by omega) a2.c b2.c pa lb2
        obtain ⟨way, down, r2, hf2, ab2'⟩ := above_run hσ BV S2.tree (by omega) b2.c a2.c pb la2
        have ab1 : (lim Try.prog σ).call 24 [v32, .int .i64 (Int.ofNat a2.c), .int .i64 (Int.ofNat b2.c)] V = _ := ab1'
        have ab2 : (lim Try.prog σ).call 24 [v32, .int .i64 (Int.ofNat b2.c), .int .i64 (Int.ofNat a2.c)] V = _ := ab2'
        simp only [go_sem, Nat.reduceLT, Nat.reduceLeDiff, Nat.reduceEqDiff, Nat.reduceAdd, Nat.reduceSub, Nat.reduceMul, reduceCtorEq, Int.reduceBEq, Int.reduceLT, Int.reduceLE, Int.reduceAdd, Int.reduceSub, Int.reduceEq, Int.reduceNeg, Int.reduceToNat, Int.reduceGT, Int.reduceGE, i4, i5, i6, i7, i8, e0, e3, e4, e5, wi, row0, row1, ← hX, ← hZ, ← hV, aV, bV, ga0, ga1, ga2, ga3, gb0, gb1, gb2, gb3, cmp, ca2, cb2, len2, p1, p2, p3, p4, ab1, ab2]
        refine cnd_go (Q := Q) (by kernel_rfl) ?_
        simp only [go_sem, Nat.reduceLT, Nat.reduceLeDiff, Nat.reduceEqDiff, Nat.reduceAdd, Nat.reduceSub, Nat.reduceMul, reduceCtorEq, Int.reduceBEq, Int.reduceLT, Int.reduceLE, Int.reduceAdd, Int.reduceSub, Int.reduceEq, Int.reduceNeg, Int.reduceToNat, Int.reduceGT, Int.reduceGE, i4, i5, i6, i7, i8, e0, e3, e4, e5, wi, row0, row1, ← hX, ← hZ, ← hV, aV, bV, ga0, ga1, ga2, ga3, gb0, gb1, gb2, gb3, cmp, ca2, cb2, len2, p1, p2, p3, p4, ab1, ab2]
        by_cases q : a2.c = b2.c
        · have q' : Int.ofNat a2.c = Int.ofNat b2.c := congrArg _ q
          have cv : cmpV a2 b2 = 4 := if_pos q
          simp only [go_sem, Nat.reduceLT, Nat.reduceLeDiff, Nat.reduceEqDiff, Nat.reduceAdd, Nat.reduceSub, Nat.reduceMul, reduceCtorEq, Int.reduceBEq, Int.reduceLT, Int.reduceLE, Int.reduceAdd, Int.reduceSub, Int.reduceEq, Int.reduceNeg, Int.reduceToNat, Int.reduceGT, Int.reduceGE, i4, i5, i6, i7, i8, e0, e3, e4, e5, wi, row0, row1, ← hX, ← hZ, ← hV, aV, bV, ga0, ga1, ga2, ga3, gb0, gb1, gb2, gb3, cmp, ca2, cb2, len2, p1, p2, p3, p4, ab1, ab2, q', cv]
          refine next _ _ ⟨t2, a2, b2, v32, lid2, lb, ?_, by omega, by simp only [go_sem, Nat.reduceLT, Nat.reduceLeDiff, Nat.reduceEqDiff, Nat.reduceAdd, Nat.reduceSub, Nat.reduceMul, reduceCtorEq, Int.reduceBEq, Int.reduceLT, Int.reduceLE, Int.reduceAdd, Int.reduceSub, Int.reduceEq, Int.reduceNeg, Int.reduceToNat, Int.reduceGT, Int.reduceGE, e0], by simp only [go_sem, Nat.reduceLT, Nat.reduceLeDiff, Nat.reduceEqDiff, Nat.reduceAdd, Nat.reduceSub, Nat.reduceMul, reduceCtorEq, Int.reduceBEq, Int.reduceLT, Int.reduceLE, Int.reduceAdd, Int.reduceSub, Int.reduceEq, Int.reduceNeg, Int.reduceToNat, Int.reduceGT, Int.reduceGE, e3], by simp only [go_sem, Nat.reduceLT, Nat.reduceLeDiff, Nat.reduceEqDiff, Nat.reduceAdd, Nat.reduceSub, Nat.reduceMul, reduceCtorEq, Int.reduceBEq, Int.reduceLT, Int.reduceLE, Int.reduceAdd, Int.reduceSub, Int.reduceEq, Int.reduceNeg, Int.reduceToNat, Int.reduceGT, Int.reduceGE, e4], by simp only [go_sem, Nat.reduceLT, Nat.reduceLeDiff, Nat.reduceEqDiff, Nat.reduceAdd, Nat.reduceSub, Nat.reduceMul, reduceCtorEq, Int.reduceBEq, Int.reduceLT, Int.reduceLE, Int.reduceAdd, Int.reduceSub, Int.reduceEq, Int.reduceNeg, Int.reduceToNat, Int.reduceGT, Int.reduceGE, wi]⟩
          have fs := S2.grow (VE) (lowV)
          rw [hV] at fs
          first | exact fs | (rw [hZ] at fs; exact fs)
        have q' : ¬ Int.ofNat a2.c = Int.ofNat b2.c := fun e => q (Int.ofNat.inj e)
        have M5 := mem_iff S2.tree S2.B pa q r1
        have M6 := mem_iff S2.tree S2.A pb (fun e => q e.symm) r2
        by_cases m5 : a2.c ∈ b2.el
        · obtain ⟨u1, u2⟩ := M5.1 m5
          subst u1
          have cv : cmpV a2 b2 = 5 := by unfold cmpV; rw [if_neg q, if_pos m5]
          have le5 : Int.ofNat far ≤ Int.ofNat b2.el.length := by show (far : Int) ≤ _; exact Int.ofNat_le.2 u2
          obtain ⟨vY1, xY1, eY1, BY1, EY1, lY1⟩ := elder_c hσ (X := V) (by have := (VE).nx; have := S2.ext.nx; omega) b2
          obtain ⟨Y1, hY1⟩ : ∃ Y', Y' = xY1.getD V := ⟨_, rfl⟩
          rw [← hY1] at BY1 EY1 lY1
          have cY1 : (lim Try.prog σ).call 25 [.agg [u64 b2.c, u64 b2.b, u64 b2.h0, u64 b2.h1]] V = some (vY1, xY1) := eY1
          have aY1 : Y1.blk Z.nx = some ka := (EY1.blk (by omega)).trans aV
          have bY1 : Y1.blk (Z.nx + 1) = some kb := (EY1.blk (by omega)).trans bV
          have nxY1 : Z.nx + 2 ≤ Y1.nx := by have := EY1.nx; omega
          have EEY1 : Ext Z Y1 := (VE).trans EY1
          have lowY1 : Y1.low = h.nx := by rw [lY1, lowV]
          simp only [go_sem, Nat.reduceLT, Nat.reduceLeDiff, Nat.reduceEqDiff, Nat.reduceAdd, Nat.reduceSub, Nat.reduceMul, reduceCtorEq, Int.reduceBEq, Int.reduceLT, Int.reduceLE, Int.reduceAdd, Int.reduceSub, Int.reduceEq, Int.reduceNeg, Int.reduceToNat, Int.reduceGT, Int.reduceGE, i4, i5, i6, i7, i8, e0, e3, e4, e5, wi, row0, row1, ← hX, ← hZ, ← hV, aV, bV, ga0, ga1, ga2, ga3, gb0, gb1, gb2, gb3, cmp, ca2, cb2, len2, p1, p2, p3, p4, ab1, ab2, q', cv, cY1, ← hY1, aY1, bY1, BY1.len, le5]
          refine next _ _ ⟨t2, a2, b2, v32, lid2, lb, ?_, by omega, by simp only [go_sem, Nat.reduceLT, Nat.reduceLeDiff, Nat.reduceEqDiff, Nat.reduceAdd, Nat.reduceSub, Nat.reduceMul, reduceCtorEq, Int.reduceBEq, Int.reduceLT, Int.reduceLE, Int.reduceAdd, Int.reduceSub, Int.reduceEq, Int.reduceNeg, Int.reduceToNat, Int.reduceGT, Int.reduceGE, e0], by simp only [go_sem, Nat.reduceLT, Nat.reduceLeDiff, Nat.reduceEqDiff, Nat.reduceAdd, Nat.reduceSub, Nat.reduceMul, reduceCtorEq, Int.reduceBEq, Int.reduceLT, Int.reduceLE, Int.reduceAdd, Int.reduceSub, Int.reduceEq, Int.reduceNeg, Int.reduceToNat, Int.reduceGT, Int.reduceGE, e3], by simp only [go_sem, Nat.reduceLT, Nat.reduceLeDiff, Nat.reduceEqDiff, Nat.reduceAdd, Nat.reduceSub, Nat.reduceMul, reduceCtorEq, Int.reduceBEq, Int.reduceLT, Int.reduceLE, Int.reduceAdd, Int.reduceSub, Int.reduceEq, Int.reduceNeg, Int.reduceToNat, Int.reduceGT, Int.reduceGE, e4], by simp only [go_sem, Nat.reduceLT, Nat.reduceLeDiff, Nat.reduceEqDiff, Nat.reduceAdd, Nat.reduceSub, Nat.reduceMul, reduceCtorEq, Int.reduceBEq, Int.reduceLT, Int.reduceLE, Int.reduceAdd, Int.reduceSub, Int.reduceEq, Int.reduceNeg, Int.reduceToNat, Int.reduceGT, Int.reduceGE, wi]⟩
          have fs := S2.grow (EEY1) (lowY1)
          rw [hY1] at fs
          rw [hV] at fs
          first | exact fs | (rw [hZ] at fs; exact fs)
        cases up
        · by_cases m6 : b2.c ∈ a2.el
          · obtain ⟨u1, u2⟩ := M6.1 m6
            subst u1
            have cv : cmpV a2 b2 = 6 := by unfold cmpV; rw [if_neg q, if_neg m5, if_pos m6]
            have le6 : Int.ofNat way ≤ Int.ofNat a2.el.length := by show (way : Int) ≤ _; exact Int.ofNat_le.2 u2
            obtain ⟨vY2, xY2, eY2, BY2, EY2, lY2⟩ := elder_c hσ (X := V) (by have := (VE).nx; have := S2.ext.nx; omega) a2
            obtain ⟨Y2, hY2⟩ : ∃ Y', Y' = xY2.getD V := ⟨_, rfl⟩
            rw [← hY2] at BY2 EY2 lY2
            have cY2 : (lim Try.prog σ).call 25 [.agg [u64 a2.c, u64 a2.b, u64 a2.h0, u64 a2.h1]] V = some (vY2, xY2) := eY2
            have aY2 : Y2.blk Z.nx = some ka := (EY2.blk (by omega)).trans aV
            have bY2 : Y2.blk (Z.nx + 1) = some kb := (EY2.blk (by omega)).trans bV
            have nxY2 : Z.nx + 2 ≤ Y2.nx := by have := EY2.nx; omega
            have EEY2 : Ext Z Y2 := (VE).trans EY2
            have lowY2 : Y2.low = h.nx := by rw [lY2, lowV]
            simp only [go_sem, Nat.reduceLT, Nat.reduceLeDiff, Nat.reduceEqDiff, Nat.reduceAdd, Nat.reduceSub, Nat.reduceMul, reduceCtorEq, Int.reduceBEq, Int.reduceLT, Int.reduceLE, Int.reduceAdd, Int.reduceSub, Int.reduceEq, Int.reduceNeg, Int.reduceToNat, Int.reduceGT, Int.reduceGE, i4, i5, i6, i7, i8, e0, e3, e4, e5, wi, row0, row1, ← hX, ← hZ, ← hV, aV, bV, ga0, ga1, ga2, ga3, gb0, gb1, gb2, gb3, cmp, ca2, cb2, len2, p1, p2, p3, p4, ab1, ab2, q', cv, cY2, ← hY2, aY2, bY2, BY2.len, le6]
            refine next _ _ ⟨t2, a2, b2, v32, lid2, lb, ?_, by omega, by simp only [go_sem, Nat.reduceLT, Nat.reduceLeDiff, Nat.reduceEqDiff, Nat.reduceAdd, Nat.reduceSub, Nat.reduceMul, reduceCtorEq, Int.reduceBEq, Int.reduceLT, Int.reduceLE, Int.reduceAdd, Int.reduceSub, Int.reduceEq, Int.reduceNeg, Int.reduceToNat, Int.reduceGT, Int.reduceGE, e0], by simp only [go_sem, Nat.reduceLT, Nat.reduceLeDiff, Nat.reduceEqDiff, Nat.reduceAdd, Nat.reduceSub, Nat.reduceMul, reduceCtorEq, Int.reduceBEq, Int.reduceLT, Int.reduceLE, Int.reduceAdd, Int.reduceSub, Int.reduceEq, Int.reduceNeg, Int.reduceToNat, Int.reduceGT, Int.reduceGE, e3], by simp only [go_sem, Nat.reduceLT, Nat.reduceLeDiff, Nat.reduceEqDiff, Nat.reduceAdd, Nat.reduceSub, Nat.reduceMul, reduceCtorEq, Int.reduceBEq, Int.reduceLT, Int.reduceLE, Int.reduceAdd, Int.reduceSub, Int.reduceEq, Int.reduceNeg, Int.reduceToNat, Int.reduceGT, Int.reduceGE, e4], by simp only [go_sem, Nat.reduceLT, Nat.reduceLeDiff, Nat.reduceEqDiff, Nat.reduceAdd, Nat.reduceSub, Nat.reduceMul, reduceCtorEq, Int.reduceBEq, Int.reduceLT, Int.reduceLE, Int.reduceAdd, Int.reduceSub, Int.reduceEq, Int.reduceNeg, Int.reduceToNat, Int.reduceGT, Int.reduceGE, wi]⟩
            have fs := S2.grow (EEY2) (lowY2)
            rw [hY2] at fs
            rw [hV] at fs
            first | exact fs | (rw [hZ] at fs; exact fs)
          cases down
          · have shr : (lim Try.prog σ).call 26 [v32, .agg [u64 a2.c, u64 a2.b, u64 a2.h0, u64 a2.h1], .agg [u64 b2.c, u64 b2.b, u64 b2.h0, u64 b2.h1]] V = some (.bool (decide (sh a2.el b2.el ≠ 0)), none) := lshared_run hσ (S2.tl.ext VE) S2.tree (by omega) a2 b2 la2 lb2 S2.A.ch S2.B.ch
            by_cases s0 : sh a2.el b2.el ≠ 0
            · have cv : cmpV a2 b2 = 7 := by unfold cmpV; rw [if_neg q, if_neg m5, if_neg m6, if_pos s0]
              have ds : decide (sh a2.el b2.el ≠ 0) = true := decide_eq_true s0
              rw [ds] at shr
              simp only [go_sem, Nat.reduceLT, Nat.reduceLeDiff, Nat.reduceEqDiff, Nat.reduceAdd, Nat.reduceSub, Nat.reduceMul, reduceCtorEq, Int.reduceBEq, Int.reduceLT, Int.reduceLE, Int.reduceAdd, Int.reduceSub, Int.reduceEq, Int.reduceNeg, Int.reduceToNat, Int.reduceGT, Int.reduceGE, i4, i5, i6, i7, i8, e0, e3, e4, e5, wi, row0, row1, ← hX, ← hZ, ← hV, aV, bV, ga0, ga1, ga2, ga3, gb0, gb1, gb2, gb3, cmp, ca2, cb2, len2, p1, p2, p3, p4, ab1, ab2, q', cv, shr]
              refine next _ _ ⟨t2, a2, b2, v32, lid2, lb, ?_, by omega, by simp only [go_sem, Nat.reduceLT, Nat.reduceLeDiff, Nat.reduceEqDiff, Nat.reduceAdd, Nat.reduceSub, Nat.reduceMul, reduceCtorEq, Int.reduceBEq, Int.reduceLT, Int.reduceLE, Int.reduceAdd, Int.reduceSub, Int.reduceEq, Int.reduceNeg, Int.reduceToNat, Int.reduceGT, Int.reduceGE, e0], by simp only [go_sem, Nat.reduceLT, Nat.reduceLeDiff, Nat.reduceEqDiff, Nat.reduceAdd, Nat.reduceSub, Nat.reduceMul, reduceCtorEq, Int.reduceBEq, Int.reduceLT, Int.reduceLE, Int.reduceAdd, Int.reduceSub, Int.reduceEq, Int.reduceNeg, Int.reduceToNat, Int.reduceGT, Int.reduceGE, e3], by simp only [go_sem, Nat.reduceLT, Nat.reduceLeDiff, Nat.reduceEqDiff, Nat.reduceAdd, Nat.reduceSub, Nat.reduceMul, reduceCtorEq, Int.reduceBEq, Int.reduceLT, Int.reduceLE, Int.reduceAdd, Int.reduceSub, Int.reduceEq, Int.reduceNeg, Int.reduceToNat, Int.reduceGT, Int.reduceGE, e4], by simp only [go_sem, Nat.reduceLT, Nat.reduceLeDiff, Nat.reduceEqDiff, Nat.reduceAdd, Nat.reduceSub, Nat.reduceMul, reduceCtorEq, Int.reduceBEq, Int.reduceLT, Int.reduceLE, Int.reduceAdd, Int.reduceSub, Int.reduceEq, Int.reduceNeg, Int.reduceToNat, Int.reduceGT, Int.reduceGE, wi]⟩
              have fs := S2.grow (VE) (lowV)
              rw [hV] at fs
              first | exact fs | (rw [hZ] at fs; exact fs)
            · have cv : cmpV a2 b2 = 8 := by unfold cmpV; rw [if_neg q, if_neg m5, if_neg m6, if_neg s0]
              have ds : decide (sh a2.el b2.el ≠ 0) = false := decide_eq_false s0
              rw [ds] at shr
              simp only [go_sem, Nat.reduceLT, Nat.reduceLeDiff, Nat.reduceEqDiff, Nat.reduceAdd, Nat.reduceSub, Nat.reduceMul, reduceCtorEq, Int.reduceBEq, Int.reduceLT, Int.reduceLE, Int.reduceAdd, Int.reduceSub, Int.reduceEq, Int.reduceNeg, Int.reduceToNat, Int.reduceGT, Int.reduceGE, i4, i5, i6, i7, i8, e0, e3, e4, e5, wi, row0, row1, ← hX, ← hZ, ← hV, aV, bV, ga0, ga1, ga2, ga3, gb0, gb1, gb2, gb3, cmp, ca2, cb2, len2, p1, p2, p3, p4, ab1, ab2, q', cv, shr]
              refine next _ _ ⟨t2, a2, b2, v32, lid2, lb, ?_, by omega, by simp only [go_sem, Nat.reduceLT, Nat.reduceLeDiff, Nat.reduceEqDiff, Nat.reduceAdd, Nat.reduceSub, Nat.reduceMul, reduceCtorEq, Int.reduceBEq, Int.reduceLT, Int.reduceLE, Int.reduceAdd, Int.reduceSub, Int.reduceEq, Int.reduceNeg, Int.reduceToNat, Int.reduceGT, Int.reduceGE, e0], by simp only [go_sem, Nat.reduceLT, Nat.reduceLeDiff, Nat.reduceEqDiff, Nat.reduceAdd, Nat.reduceSub, Nat.reduceMul, reduceCtorEq, Int.reduceBEq, Int.reduceLT, Int.reduceLE, Int.reduceAdd, Int.reduceSub, Int.reduceEq, Int.reduceNeg, Int.reduceToNat, Int.reduceGT, Int.reduceGE, e3], by simp only [go_sem, Nat.reduceLT, Nat.reduceLeDiff, Nat.reduceEqDiff, Nat.reduceAdd, Nat.reduceSub, Nat.reduceMul, reduceCtorEq, Int.reduceBEq, Int.reduceLT, Int.reduceLE, Int.reduceAdd, Int.reduceSub, Int.reduceEq, Int.reduceNeg, Int.reduceToNat, Int.reduceGT, Int.reduceGE, e4], by simp only [go_sem, Nat.reduceLT, Nat.reduceLeDiff, Nat.reduceEqDiff, Nat.reduceAdd, Nat.reduceSub, Nat.reduceMul, reduceCtorEq, Int.reduceBEq, Int.reduceLT, Int.reduceLE, Int.reduceAdd, Int.reduceSub, Int.reduceEq, Int.reduceNeg, Int.reduceToNat, Int.reduceGT, Int.reduceGE, wi]⟩
              have fs := S2.grow (VE) (lowV)
              rw [hV] at fs
              first | exact fs | (rw [hZ] at fs; exact fs)
          · obtain ⟨vY2, xY2, eY2, BY2, EY2, lY2⟩ := elder_c hσ (X := V) (by have := (VE).nx; have := S2.ext.nx; omega) a2
            obtain ⟨Y2, hY2⟩ : ∃ Y', Y' = xY2.getD V := ⟨_, rfl⟩
            rw [← hY2] at BY2 EY2 lY2
            have cY2 : (lim Try.prog σ).call 25 [.agg [u64 a2.c, u64 a2.b, u64 a2.h0, u64 a2.h1]] V = some (vY2, xY2) := eY2
            have aY2 : Y2.blk Z.nx = some ka := (EY2.blk (by omega)).trans aV
            have bY2 : Y2.blk (Z.nx + 1) = some kb := (EY2.blk (by omega)).trans bV
            have nxY2 : Z.nx + 2 ≤ Y2.nx := by have := EY2.nx; omega
            have EEY2 : Ext Z Y2 := (VE).trans EY2
            have lowY2 : Y2.low = h.nx := by rw [lY2, lowV]
            have nle6 : ¬ Int.ofNat way ≤ Int.ofNat a2.el.length := fun e => m6 (M6.2 ⟨rfl, Int.ofNat_le.1 e⟩)
            have shr : (lim Try.prog σ).call 26 [v32, .agg [u64 a2.c, u64 a2.b, u64 a2.h0, u64 a2.h1], .agg [u64 b2.c, u64 b2.b, u64 b2.h0, u64 b2.h1]] Y2 = some (.bool (decide (sh a2.el b2.el ≠ 0)), none) := lshared_run hσ (S2.tl.ext EEY2) S2.tree (by omega) a2 b2 la2 lb2 S2.A.ch S2.B.ch
            by_cases s0 : sh a2.el b2.el ≠ 0
            · have cv : cmpV a2 b2 = 7 := by unfold cmpV; rw [if_neg q, if_neg m5, if_neg m6, if_pos s0]
              have ds : decide (sh a2.el b2.el ≠ 0) = true := decide_eq_true s0
              rw [ds] at shr
              simp only [go_sem, Nat.reduceLT, Nat.reduceLeDiff, Nat.reduceEqDiff, Nat.reduceAdd, Nat.reduceSub, Nat.reduceMul, reduceCtorEq, Int.reduceBEq, Int.reduceLT, Int.reduceLE, Int.reduceAdd, Int.reduceSub, Int.reduceEq, Int.reduceNeg, Int.reduceToNat, Int.reduceGT, Int.reduceGE, i4, i5, i6, i7, i8, e0, e3, e4, e5, wi, row0, row1, ← hX, ← hZ, ← hV, aV, bV, ga0, ga1, ga2, ga3, gb0, gb1, gb2, gb3, cmp, ca2, cb2, len2, p1, p2, p3, p4, ab1, ab2, q', cv, cY2, ← hY2, aY2, bY2, BY2.len, nle6, shr]
              refine next _ _ ⟨t2, a2, b2, v32, lid2, lb, ?_, by omega, by simp only [go_sem, Nat.reduceLT, Nat.reduceLeDiff, Nat.reduceEqDiff, Nat.reduceAdd, Nat.reduceSub, Nat.reduceMul, reduceCtorEq, Int.reduceBEq, Int.reduceLT, Int.reduceLE, Int.reduceAdd, Int.reduceSub, Int.reduceEq, Int.reduceNeg, Int.reduceToNat, Int.reduceGT, Int.reduceGE, e0], by simp only [go_sem, Nat.reduceLT, Nat.reduceLeDiff, Nat.reduceEqDiff, Nat.reduceAdd, Nat.reduceSub, Nat.reduceMul, reduceCtorEq, Int.reduceBEq, Int.reduceLT, Int.reduceLE, Int.reduceAdd, Int.reduceSub, Int.reduceEq, Int.reduceNeg, Int.reduceToNat, Int.reduceGT, Int.reduceGE, e3], by simp only [go_sem, Nat.reduceLT, Nat.reduceLeDiff, Nat.reduceEqDiff, Nat.reduceAdd, Nat.reduceSub, Nat.reduceMul, reduceCtorEq, Int.reduceBEq, Int.reduceLT, Int.reduceLE, Int.reduceAdd, Int.reduceSub, Int.reduceEq, Int.reduceNeg, Int.reduceToNat, Int.reduceGT, Int.reduceGE, e4], by simp only [go_sem, Nat.reduceLT, Nat.reduceLeDiff, Nat.reduceEqDiff, Nat.reduceAdd, Nat.reduceSub, Nat.reduceMul, reduceCtorEq, Int.reduceBEq, Int.reduceLT, Int.reduceLE, Int.reduceAdd, Int.reduceSub, Int.reduceEq, Int.reduceNeg, Int.reduceToNat, Int.reduceGT, Int.reduceGE, wi]⟩
              have fs := S2.grow (EEY2) (lowY2)
              rw [hY2] at fs
              rw [hV] at fs
              first | exact fs | (rw [hZ] at fs; exact fs)
            · have cv : cmpV a2 b2 = 8 := by unfold cmpV; rw [if_neg q, if_neg m5, if_neg m6, if_neg s0]
              have ds : decide (sh a2.el b2.el ≠ 0) = false := decide_eq_false s0
              rw [ds] at shr
              simp only [go_sem, Nat.reduceLT, Nat.reduceLeDiff, Nat.reduceEqDiff, Nat.reduceAdd, Nat.reduceSub, Nat.reduceMul, reduceCtorEq, Int.reduceBEq, Int.reduceLT, Int.reduceLE, Int.reduceAdd, Int.reduceSub, Int.reduceEq, Int.reduceNeg, Int.reduceToNat, Int.reduceGT, Int.reduceGE, i4, i5, i6, i7, i8, e0, e3, e4, e5, wi, row0, row1, ← hX, ← hZ, ← hV, aV, bV, ga0, ga1, ga2, ga3, gb0, gb1, gb2, gb3, cmp, ca2, cb2, len2, p1, p2, p3, p4, ab1, ab2, q', cv, cY2, ← hY2, aY2, bY2, BY2.len, nle6, shr]
              refine next _ _ ⟨t2, a2, b2, v32, lid2, lb, ?_, by omega, by simp only [go_sem, Nat.reduceLT, Nat.reduceLeDiff, Nat.reduceEqDiff, Nat.reduceAdd, Nat.reduceSub, Nat.reduceMul, reduceCtorEq, Int.reduceBEq, Int.reduceLT, Int.reduceLE, Int.reduceAdd, Int.reduceSub, Int.reduceEq, Int.reduceNeg, Int.reduceToNat, Int.reduceGT, Int.reduceGE, e0], by simp only [go_sem, Nat.reduceLT, Nat.reduceLeDiff, Nat.reduceEqDiff, Nat.reduceAdd, Nat.reduceSub, Nat.reduceMul, reduceCtorEq, Int.reduceBEq, Int.reduceLT, Int.reduceLE, Int.reduceAdd, Int.reduceSub, Int.reduceEq, Int.reduceNeg, Int.reduceToNat, Int.reduceGT, Int.reduceGE, e3], by simp only [go_sem, Nat.reduceLT, Nat.reduceLeDiff, Nat.reduceEqDiff, Nat.reduceAdd, Nat.reduceSub, Nat.reduceMul, reduceCtorEq, Int.reduceBEq, Int.reduceLT, Int.reduceLE, Int.reduceAdd, Int.reduceSub, Int.reduceEq, Int.reduceNeg, Int.reduceToNat, Int.reduceGT, Int.reduceGE, e4], by simp only [go_sem, Nat.reduceLT, Nat.reduceLeDiff, Nat.reduceEqDiff, Nat.reduceAdd, Nat.reduceSub, Nat.reduceMul, reduceCtorEq, Int.reduceBEq, Int.reduceLT, Int.reduceLE, Int.reduceAdd, Int.reduceSub, Int.reduceEq, Int.reduceNeg, Int.reduceToNat, Int.reduceGT, Int.reduceGE, wi]⟩
              have fs := S2.grow (EEY2) (lowY2)
              rw [hY2] at fs
              rw [hV] at fs
              first | exact fs | (rw [hZ] at fs; exact fs)
        · obtain ⟨vY1, xY1, eY1, BY1, EY1, lY1⟩ := elder_c hσ (X := V) (by have := (VE).nx; have := S2.ext.nx; omega) b2
          obtain ⟨Y1, hY1⟩ : ∃ Y', Y' = xY1.getD V := ⟨_, rfl⟩
          rw [← hY1] at BY1 EY1 lY1
          have cY1 : (lim Try.prog σ).call 25 [.agg [u64 b2.c, u64 b2.b, u64 b2.h0, u64 b2.h1]] V = some (vY1, xY1) := eY1
          have aY1 : Y1.blk Z.nx = some ka := (EY1.blk (by omega)).trans aV
          have bY1 : Y1.blk (Z.nx + 1) = some kb := (EY1.blk (by omega)).trans bV
          have nxY1 : Z.nx + 2 ≤ Y1.nx := by have := EY1.nx; omega
          have EEY1 : Ext Z Y1 := (VE).trans EY1
          have lowY1 : Y1.low = h.nx := by rw [lY1, lowV]
          have nle5 : ¬ Int.ofNat far ≤ Int.ofNat b2.el.length := fun e => m5 (M5.2 ⟨rfl, Int.ofNat_le.1 e⟩)
          by_cases m6 : b2.c ∈ a2.el
          · obtain ⟨u1, u2⟩ := M6.1 m6
            subst u1
            have cv : cmpV a2 b2 = 6 := by unfold cmpV; rw [if_neg q, if_neg m5, if_pos m6]
            have le6 : Int.ofNat way ≤ Int.ofNat a2.el.length := by show (way : Int) ≤ _; exact Int.ofNat_le.2 u2
            obtain ⟨vY2, xY2, eY2, BY2, EY2, lY2⟩ := elder_c hσ (X := Y1) (by have := (EEY1).nx; have := S2.ext.nx; omega) a2
            obtain ⟨Y2, hY2⟩ : ∃ Y', Y' = xY2.getD Y1 := ⟨_, rfl⟩
            rw [← hY2] at BY2 EY2 lY2
            have cY2 : (lim Try.prog σ).call 25 [.agg [u64 a2.c, u64 a2.b, u64 a2.h0, u64 a2.h1]] Y1 = some (vY2, xY2) := eY2
            have aY2 : Y2.blk Z.nx = some ka := (EY2.blk (by omega)).trans aY1
            have bY2 : Y2.blk (Z.nx + 1) = some kb := (EY2.blk (by omega)).trans bY1
            have nxY2 : Z.nx + 2 ≤ Y2.nx := by have := EY2.nx; omega
            have EEY2 : Ext Z Y2 := (EEY1).trans EY2
            have lowY2 : Y2.low = h.nx := by rw [lY2, lowY1]
            simp only [go_sem, Nat.reduceLT, Nat.reduceLeDiff, Nat.reduceEqDiff, Nat.reduceAdd, Nat.reduceSub, Nat.reduceMul, reduceCtorEq, Int.reduceBEq, Int.reduceLT, Int.reduceLE, Int.reduceAdd, Int.reduceSub, Int.reduceEq, Int.reduceNeg, Int.reduceToNat, Int.reduceGT, Int.reduceGE, i4, i5, i6, i7, i8, e0, e3, e4, e5, wi, row0, row1, ← hX, ← hZ, ← hV, aV, bV, ga0, ga1, ga2, ga3, gb0, gb1, gb2, gb3, cmp, ca2, cb2, len2, p1, p2, p3, p4, ab1, ab2, q', cv, cY1, ← hY1, aY1, bY1, BY1.len, nle5, cY2, ← hY2, aY2, bY2, BY2.len, le6]
            refine next _ _ ⟨t2, a2, b2, v32, lid2, lb, ?_, by omega, by simp only [go_sem, Nat.reduceLT, Nat.reduceLeDiff, Nat.reduceEqDiff, Nat.reduceAdd, Nat.reduceSub, Nat.reduceMul, reduceCtorEq, Int.reduceBEq, Int.reduceLT, Int.reduceLE, Int.reduceAdd, Int.reduceSub, Int.reduceEq, Int.reduceNeg, Int.reduceToNat, Int.reduceGT, Int.reduceGE, e0], by simp only [go_sem, Nat.reduceLT, Nat.reduceLeDiff, Nat.reduceEqDiff, Nat.reduceAdd, Nat.reduceSub, Nat.reduceMul, reduceCtorEq, Int.reduceBEq, Int.reduceLT, Int.reduceLE, Int.reduceAdd, Int.reduceSub, Int.reduceEq, Int.reduceNeg, Int.reduceToNat, Int.reduceGT, Int.reduceGE, e3], by simp only [go_sem, Nat.reduceLT, Nat.reduceLeDiff, Nat.reduceEqDiff, Nat.reduceAdd, Nat.reduceSub, Nat.reduceMul, reduceCtorEq, Int.reduceBEq, Int.reduceLT, Int.reduceLE, Int.reduceAdd, Int.reduceSub, Int.reduceEq, Int.reduceNeg, Int.reduceToNat, Int.reduceGT, Int.reduceGE, e4], by simp only [go_sem, Nat.reduceLT, Nat.reduceLeDiff, Nat.reduceEqDiff, Nat.reduceAdd, Nat.reduceSub, Nat.reduceMul, reduceCtorEq, Int.reduceBEq, Int.reduceLT, Int.reduceLE, Int.reduceAdd, Int.reduceSub, Int.reduceEq, Int.reduceNeg, Int.reduceToNat, Int.reduceGT, Int.reduceGE, wi]⟩
            have fs := S2.grow (EEY2) (lowY2)
            rw [hY2] at fs
            rw [hY1] at fs
            rw [hV] at fs
            first | exact fs | (rw [hZ] at fs; exact fs)
          cases down
          · have shr : (lim Try.prog σ).call 26 [v32, .agg [u64 a2.c, u64 a2.b, u64 a2.h0, u64 a2.h1], .agg [u64 b2.c, u64 b2.b, u64 b2.h0, u64 b2.h1]] Y1 = some (.bool (decide (sh a2.el b2.el ≠ 0)), none) := lshared_run hσ (S2.tl.ext EEY1) S2.tree (by omega) a2 b2 la2 lb2 S2.A.ch S2.B.ch
            by_cases s0 : sh a2.el b2.el ≠ 0
            · have cv : cmpV a2 b2 = 7 := by unfold cmpV; rw [if_neg q, if_neg m5, if_neg m6, if_pos s0]
              have ds : decide (sh a2.el b2.el ≠ 0) = true := decide_eq_true s0
              rw [ds] at shr
              simp only [go_sem, Nat.reduceLT, Nat.reduceLeDiff, Nat.reduceEqDiff, Nat.reduceAdd, Nat.reduceSub, Nat.reduceMul, reduceCtorEq, Int.reduceBEq, Int.reduceLT, Int.reduceLE, Int.reduceAdd, Int.reduceSub, Int.reduceEq, Int.reduceNeg, Int.reduceToNat, Int.reduceGT, Int.reduceGE, i4, i5, i6, i7, i8, e0, e3, e4, e5, wi, row0, row1, ← hX, ← hZ, ← hV, aV, bV, ga0, ga1, ga2, ga3, gb0, gb1, gb2, gb3, cmp, ca2, cb2, len2, p1, p2, p3, p4, ab1, ab2, q', cv, cY1, ← hY1, aY1, bY1, BY1.len, nle5, shr]
              refine next _ _ ⟨t2, a2, b2, v32, lid2, lb, ?_, by omega, by simp only [go_sem, Nat.reduceLT, Nat.reduceLeDiff, Nat.reduceEqDiff, Nat.reduceAdd, Nat.reduceSub, Nat.reduceMul, reduceCtorEq, Int.reduceBEq, Int.reduceLT, Int.reduceLE, Int.reduceAdd, Int.reduceSub, Int.reduceEq, Int.reduceNeg, Int.reduceToNat, Int.reduceGT, Int.reduceGE, e0], by simp only [go_sem, Nat.reduceLT, Nat.reduceLeDiff, Nat.reduceEqDiff, Nat.reduceAdd, Nat.reduceSub, Nat.reduceMul, reduceCtorEq, Int.reduceBEq, Int.reduceLT, Int.reduceLE, Int.reduceAdd, Int.reduceSub, Int.reduceEq, Int.reduceNeg, Int.reduceToNat, Int.reduceGT, Int.reduceGE, e3], by simp only [go_sem, Nat.reduceLT, Nat.reduceLeDiff, Nat.reduceEqDiff, Nat.reduceAdd, Nat.reduceSub, Nat.reduceMul, reduceCtorEq, Int.reduceBEq, Int.reduceLT, Int.reduceLE, Int.reduceAdd, Int.reduceSub, Int.reduceEq, Int.reduceNeg, Int.reduceToNat, Int.reduceGT, Int.reduceGE, e4], by simp only [go_sem, Nat.reduceLT, Nat.reduceLeDiff, Nat.reduceEqDiff, Nat.reduceAdd, Nat.reduceSub, Nat.reduceMul, reduceCtorEq, Int.reduceBEq, Int.reduceLT, Int.reduceLE, Int.reduceAdd, Int.reduceSub, Int.reduceEq, Int.reduceNeg, Int.reduceToNat, Int.reduceGT, Int.reduceGE, wi]⟩
              have fs := S2.grow (EEY1) (lowY1)
              rw [hY1] at fs
              rw [hV] at fs
              first | exact fs | (rw [hZ] at fs; exact fs)
            · have cv : cmpV a2 b2 = 8 := by unfold cmpV; rw [if_neg q, if_neg m5, if_neg m6, if_neg s0]
              have ds : decide (sh a2.el b2.el ≠ 0) = false := decide_eq_false s0
              rw [ds] at shr
              simp only [go_sem, Nat.reduceLT, Nat.reduceLeDiff, Nat.reduceEqDiff, Nat.reduceAdd, Nat.reduceSub, Nat.reduceMul, reduceCtorEq, Int.reduceBEq, Int.reduceLT, Int.reduceLE, Int.reduceAdd, Int.reduceSub, Int.reduceEq, Int.reduceNeg, Int.reduceToNat, Int.reduceGT, Int.reduceGE, i4, i5, i6, i7, i8, e0, e3, e4, e5, wi, row0, row1, ← hX, ← hZ, ← hV, aV, bV, ga0, ga1, ga2, ga3, gb0, gb1, gb2, gb3, cmp, ca2, cb2, len2, p1, p2, p3, p4, ab1, ab2, q', cv, cY1, ← hY1, aY1, bY1, BY1.len, nle5, shr]
              refine next _ _ ⟨t2, a2, b2, v32, lid2, lb, ?_, by omega, by simp only [go_sem, Nat.reduceLT, Nat.reduceLeDiff, Nat.reduceEqDiff, Nat.reduceAdd, Nat.reduceSub, Nat.reduceMul, reduceCtorEq, Int.reduceBEq, Int.reduceLT, Int.reduceLE, Int.reduceAdd, Int.reduceSub, Int.reduceEq, Int.reduceNeg, Int.reduceToNat, Int.reduceGT, Int.reduceGE, e0], by simp only [go_sem, Nat.reduceLT, Nat.reduceLeDiff, Nat.reduceEqDiff, Nat.reduceAdd, Nat.reduceSub, Nat.reduceMul, reduceCtorEq, Int.reduceBEq, Int.reduceLT, Int.reduceLE, Int.reduceAdd, Int.reduceSub, Int.reduceEq, Int.reduceNeg, Int.reduceToNat, Int.reduceGT, Int.reduceGE, e3], by simp only [go_sem, Nat.reduceLT, Nat.reduceLeDiff, Nat.reduceEqDiff, Nat.reduceAdd, Nat.reduceSub, Nat.reduceMul, reduceCtorEq, Int.reduceBEq, Int.reduceLT, Int.reduceLE, Int.reduceAdd, Int.reduceSub, Int.reduceEq, Int.reduceNeg, Int.reduceToNat, Int.reduceGT, Int.reduceGE, e4], by simp only [go_sem, Nat.reduceLT, Nat.reduceLeDiff, Nat.reduceEqDiff, Nat.reduceAdd, Nat.reduceSub, Nat.reduceMul, reduceCtorEq, Int.reduceBEq, Int.reduceLT, Int.reduceLE, Int.reduceAdd, Int.reduceSub, Int.reduceEq, Int.reduceNeg, Int.reduceToNat, Int.reduceGT, Int.reduceGE, wi]⟩
              have fs := S2.grow (EEY1) (lowY1)
              rw [hY1] at fs
              rw [hV] at fs
              first | exact fs | (rw [hZ] at fs; exact fs)
          · obtain ⟨vY2, xY2, eY2, BY2, EY2, lY2⟩ := elder_c hσ (X := Y1) (by have := (EEY1).nx; have := S2.ext.nx; omega) a2
            obtain ⟨Y2, hY2⟩ : ∃ Y', Y' = xY2.getD Y1 := ⟨_, rfl⟩
            rw [← hY2] at BY2 EY2 lY2
            have cY2 : (lim Try.prog σ).call 25 [.agg [u64 a2.c, u64 a2.b, u64 a2.h0, u64 a2.h1]] Y1 = some (vY2, xY2) := eY2
            have aY2 : Y2.blk Z.nx = some ka := (EY2.blk (by omega)).trans aY1
            have bY2 : Y2.blk (Z.nx + 1) = some kb := (EY2.blk (by omega)).trans bY1
            have nxY2 : Z.nx + 2 ≤ Y2.nx := by have := EY2.nx; omega
            have EEY2 : Ext Z Y2 := (EEY1).trans EY2
            have lowY2 : Y2.low = h.nx := by rw [lY2, lowY1]
            have nle6 : ¬ Int.ofNat way ≤ Int.ofNat a2.el.length := fun e => m6 (M6.2 ⟨rfl, Int.ofNat_le.1 e⟩)
            have shr : (lim Try.prog σ).call 26 [v32, .agg [u64 a2.c, u64 a2.b, u64 a2.h0, u64 a2.h1], .agg [u64 b2.c, u64 b2.b, u64 b2.h0, u64 b2.h1]] Y2 = some (.bool (decide (sh a2.el b2.el ≠ 0)), none) := lshared_run hσ (S2.tl.ext EEY2) S2.tree (by omega) a2 b2 la2 lb2 S2.A.ch S2.B.ch
            by_cases s0 : sh a2.el b2.el ≠ 0
            · have cv : cmpV a2 b2 = 7 := by unfold cmpV; rw [if_neg q, if_neg m5, if_neg m6, if_pos s0]
              have ds : decide (sh a2.el b2.el ≠ 0) = true := decide_eq_true s0
              rw [ds] at shr
              simp only [go_sem, Nat.reduceLT, Nat.reduceLeDiff, Nat.reduceEqDiff, Nat.reduceAdd, Nat.reduceSub, Nat.reduceMul, reduceCtorEq, Int.reduceBEq, Int.reduceLT, Int.reduceLE, Int.reduceAdd, Int.reduceSub, Int.reduceEq, Int.reduceNeg, Int.reduceToNat, Int.reduceGT, Int.reduceGE, i4, i5, i6, i7, i8, e0, e3, e4, e5, wi, row0, row1, ← hX, ← hZ, ← hV, aV, bV, ga0, ga1, ga2, ga3, gb0, gb1, gb2, gb3, cmp, ca2, cb2, len2, p1, p2, p3, p4, ab1, ab2, q', cv, cY1, ← hY1, aY1, bY1, BY1.len, nle5, cY2, ← hY2, aY2, bY2, BY2.len, nle6, shr]
              refine next _ _ ⟨t2, a2, b2, v32, lid2, lb, ?_, by omega, by simp only [go_sem, Nat.reduceLT, Nat.reduceLeDiff, Nat.reduceEqDiff, Nat.reduceAdd, Nat.reduceSub, Nat.reduceMul, reduceCtorEq, Int.reduceBEq, Int.reduceLT, Int.reduceLE, Int.reduceAdd, Int.reduceSub, Int.reduceEq, Int.reduceNeg, Int.reduceToNat, Int.reduceGT, Int.reduceGE, e0], by simp only [go_sem, Nat.reduceLT, Nat.reduceLeDiff, Nat.reduceEqDiff, Nat.reduceAdd, Nat.reduceSub, Nat.reduceMul, reduceCtorEq, Int.reduceBEq, Int.reduceLT, Int.reduceLE, Int.reduceAdd, Int.reduceSub, Int.reduceEq, Int.reduceNeg, Int.reduceToNat, Int.reduceGT, Int.reduceGE, e3], by simp only [go_sem, Nat.reduceLT, Nat.reduceLeDiff, Nat.reduceEqDiff, Nat.reduceAdd, Nat.reduceSub, Nat.reduceMul, reduceCtorEq, Int.reduceBEq, Int.reduceLT, Int.reduceLE, Int.reduceAdd, Int.reduceSub, Int.reduceEq, Int.reduceNeg, Int.reduceToNat, Int.reduceGT, Int.reduceGE, e4], by simp only [go_sem, Nat.reduceLT, Nat.reduceLeDiff, Nat.reduceEqDiff, Nat.reduceAdd, Nat.reduceSub, Nat.reduceMul, reduceCtorEq, Int.reduceBEq, Int.reduceLT, Int.reduceLE, Int.reduceAdd, Int.reduceSub, Int.reduceEq, Int.reduceNeg, Int.reduceToNat, Int.reduceGT, Int.reduceGE, wi]⟩
              have fs := S2.grow (EEY2) (lowY2)
              rw [hY2] at fs
              rw [hY1] at fs
              rw [hV] at fs
              first | exact fs | (rw [hZ] at fs; exact fs)
            · have cv : cmpV a2 b2 = 8 := by unfold cmpV; rw [if_neg q, if_neg m5, if_neg m6, if_neg s0]
              have ds : decide (sh a2.el b2.el ≠ 0) = false := decide_eq_false s0
              rw [ds] at shr
              simp only [go_sem, Nat.reduceLT, Nat.reduceLeDiff, Nat.reduceEqDiff, Nat.reduceAdd, Nat.reduceSub, Nat.reduceMul, reduceCtorEq, Int.reduceBEq, Int.reduceLT, Int.reduceLE, Int.reduceAdd, Int.reduceSub, Int.reduceEq, Int.reduceNeg, Int.reduceToNat, Int.reduceGT, Int.reduceGE, i4, i5, i6, i7, i8, e0, e3, e4, e5, wi, row0, row1, ← hX, ← hZ, ← hV, aV, bV, ga0, ga1, ga2, ga3, gb0, gb1, gb2, gb3, cmp, ca2, cb2, len2, p1, p2, p3, p4, ab1, ab2, q', cv, cY1, ← hY1, aY1, bY1, BY1.len, nle5, cY2, ← hY2, aY2, bY2, BY2.len, nle6, shr]
              refine next _ _ ⟨t2, a2, b2, v32, lid2, lb, ?_, by omega, by simp only [go_sem, Nat.reduceLT, Nat.reduceLeDiff, Nat.reduceEqDiff, Nat.reduceAdd, Nat.reduceSub, Nat.reduceMul, reduceCtorEq, Int.reduceBEq, Int.reduceLT, Int.reduceLE, Int.reduceAdd, Int.reduceSub, Int.reduceEq, Int.reduceNeg, Int.reduceToNat, Int.reduceGT, Int.reduceGE, e0], by simp only [go_sem, Nat.reduceLT, Nat.reduceLeDiff, Nat.reduceEqDiff, Nat.reduceAdd, Nat.reduceSub, Nat.reduceMul, reduceCtorEq, Int.reduceBEq, Int.reduceLT, Int.reduceLE, Int.reduceAdd, Int.reduceSub, Int.reduceEq, Int.reduceNeg, Int.reduceToNat, Int.reduceGT, Int.reduceGE, e3], by simp only [go_sem, Nat.reduceLT, Nat.reduceLeDiff, Nat.reduceEqDiff, Nat.reduceAdd, Nat.reduceSub, Nat.reduceMul, reduceCtorEq, Int.reduceBEq, Int.reduceLT, Int.reduceLE, Int.reduceAdd, Int.reduceSub, Int.reduceEq, Int.reduceNeg, Int.reduceToNat, Int.reduceGT, Int.reduceGE, e4], by simp only [go_sem, Nat.reduceLT, Nat.reduceLeDiff, Nat.reduceEqDiff, Nat.reduceAdd, Nat.reduceSub, Nat.reduceMul, reduceCtorEq, Int.reduceBEq, Int.reduceLT, Int.reduceLE, Int.reduceAdd, Int.reduceSub, Int.reduceEq, Int.reduceNeg, Int.reduceToNat, Int.reduceGT, Int.reduceGE, wi]⟩
              have fs := S2.grow (EEY2) (lowY2)
              rw [hY2] at fs
              rw [hY1] at fs
              rw [hV] at fs
              first | exact fs | (rw [hZ] at fs; exact fs)
      · have d1 : decide (a.b = 0) = false := decide_eq_false ub
        have hal : alone a t.length = a := if_neg ub
        simp only [go_sem, Nat.reduceLT, Nat.reduceLeDiff, Nat.reduceEqDiff, Nat.reduceAdd, Nat.reduceSub, Nat.reduceMul, reduceCtorEq, Int.reduceBEq, Int.reduceLT, Int.reduceLE, Int.reduceAdd, Int.reduceSub, Int.reduceEq, Int.reduceNeg, Int.reduceToNat, Int.reduceGT, Int.reduceGE, S.len, e0, e3, e4, e5, c0, ea, hb', hg0, row0, row1, hk1, kg0, kg1, kg2, kg3, kg4, kg5, kg6, kg7, hkn, hkr, lenl, cu, al0, en0, Ln.cv_eq, d1]
        obtain ⟨X, hX⟩ : ∃ X, X = (h'.alloc (.cells (newBlk [CV.int .u64 0, CV.int .u64 0, CV.int .u64 0, CV.int .u64 0]))).put h'.nx (.cells (((((newBlk [CV.int .u64 0, CV.int .u64 0, CV.int .u64 0, CV.int .u64 0]).st 0 (u64 (alone a t.length).c)).st 1 (u64 (alone a t.length).b)).st 2 (u64 (alone a t.length).h0)).st 3 (u64 (alone a t.length).h1))) := ⟨_, rfl⟩
        have Xnx : X.nx = h'.nx + 1 := by rw [hX]; rfl
        have Xlow : X.low = h.nx := by rw [hX]; simp only [go_sem, Nat.reduceLT, Nat.reduceLeDiff, Nat.reduceEqDiff, Nat.reduceAdd, Nat.reduceSub, Nat.reduceMul, reduceCtorEq, Int.reduceBEq, Int.reduceLT, Int.reduceLE, Int.reduceAdd, Int.reduceSub, Int.reduceEq, Int.reduceNeg, Int.reduceToNat, Int.reduceGT, Int.reduceGE, st.low]; have := st.ext.nx; omega
        have XE : Ext h' X := by rw [hX]; exact (Ext.alloc' (Ext.refl _) _).put _ (Nat.le_refl _)
        have Xi : X.blk id = some bb := (XE.blk (Nat.lt_of_lt_of_le hid st.ext.nx)).trans hb'
        have Xk : X.blk lb = some k := (XE.blk st.lines.lt).trans hk1
        have Xn : X.blk h'.nx = some (((((newBlk [CV.int .u64 0, CV.int .u64 0, CV.int .u64 0, CV.int .u64 0]).st 0 (u64 (alone a t.length).c)).st 1 (u64 (alone a t.length).b)).st 2 (u64 (alone a t.length).h0)).st 3 (u64 (alone a t.length).h1)) := by rw [hX]; simp only [go_sem, Nat.reduceLT, Nat.reduceLeDiff, Nat.reduceEqDiff, Nat.reduceAdd, Nat.reduceSub, Nat.reduceMul, reduceCtorEq, Int.reduceBEq, Int.reduceLT, Int.reduceLE, Int.reduceAdd, Int.reduceSub, Int.reduceEq, Int.reduceNeg, Int.reduceToNat, Int.reduceGT, Int.reduceGE]
        have sX := st.grow XE Xlow
        refine cnd_go (Q := Q) (by kernel_rfl) ?_
        simp only [go_sem, Nat.reduceLT, Nat.reduceLeDiff, Nat.reduceEqDiff, Nat.reduceAdd, Nat.reduceSub, Nat.reduceMul, reduceCtorEq, Int.reduceBEq, Int.reduceLT, Int.reduceLE, Int.reduceAdd, Int.reduceSub, Int.reduceEq, Int.reduceNeg, Int.reduceToNat, Int.reduceGT, Int.reduceGE, S.len, e0, e3, e4, e5, c0, ea, hb', hg0, row0, row1, hk1, kg0, kg1, kg2, kg3, kg4, kg5, kg6, kg7, hkn, hkr, lenl, cu, al0, en0, Ln.cv_eq, d1, ← hX, Xi, Xk, Xn]
        refine cnd_go (Q := Q) (by kernel_rfl) ?_
        refine quiet_go (Q := Q) (by kernel_rfl) ?_
        simp only [go_sem, Nat.reduceLT, Nat.reduceLeDiff, Nat.reduceEqDiff, Nat.reduceAdd, Nat.reduceSub, Nat.reduceMul, reduceCtorEq, Int.reduceBEq, Int.reduceLT, Int.reduceLE, Int.reduceAdd, Int.reduceSub, Int.reduceEq, Int.reduceNeg, Int.reduceToNat, Int.reduceGT, Int.reduceGE, S.len, e0, e3, e4, e5, c0, ea, hb', hg0, row0, row1, hk1, kg0, kg1, kg2, kg3, kg4, kg5, kg6, kg7, hkn, hkr, lenl, cu, al0, en0, Ln.cv_eq, d1, ← hX, Xi, Xk, Xn]
        obtain ⟨Z, hZ⟩ : ∃ Z, Z = X.put lb (.cells ((((k.st 0 (u64 (alone a t.length).c)).st 1 (u64 (alone a t.length).b)).st 2 (u64 (alone a t.length).h0)).st 3 (u64 (alone a t.length).h1))) := ⟨_, rfl⟩
        obtain ⟨a2, ha2⟩ : ∃ a2, a2 = alone a t.length := ⟨_, rfl⟩
        obtain ⟨b2, hb2⟩ : ∃ b2, b2 = b := ⟨_, rfl⟩
        obtain ⟨t2, ht2⟩ : ∃ t2, t2 = t := ⟨_, rfl⟩
        obtain ⟨lid2, hl2⟩ : ∃ l, l = lid := ⟨_, rfl⟩
        obtain ⟨v32, hv32⟩ : ∃ l, l = v3 := ⟨_, rfl⟩
        have htl : t2.length = t.length := by rw [ht2]
        have S2 : Sta h Z t2 a2 b2 v32 lid2 lb := by
          rw [hZ, ha2, hb2, ht2, hl2, hv32]
          exact sX.put (by simp only [go_sem, Nat.reduceLT, Nat.reduceLeDiff, Nat.reduceEqDiff, Nat.reduceAdd, Nat.reduceSub, Nat.reduceMul, reduceCtorEq, Int.reduceBEq, Int.reduceLT, Int.reduceLE, Int.reduceAdd, Int.reduceSub, Int.reduceEq, Int.reduceNeg, Int.reduceToNat, Int.reduceGT, Int.reduceGE, hkn]) (by simp only [go_sem, Nat.reduceLT, Nat.reduceLeDiff, Nat.reduceEqDiff, Nat.reduceAdd, Nat.reduceSub, Nat.reduceMul, reduceCtorEq, Int.reduceBEq, Int.reduceLT, Int.reduceLE, Int.reduceAdd, Int.reduceSub, Int.reduceEq, Int.reduceNeg, Int.reduceToNat, Int.reduceGT, Int.reduceGE, hkr]) (l8_set0 hkn hkg) (hal.symm ▸ st.A) st.B
        have e3 : evT env 3 = v32 := e3.trans hv32.symm
        obtain ⟨k2, hk2, hk2n, hk2r, hk2g⟩ := S2.lines.bk
        have kh0 := hk2g 0
        have kh1 := hk2g 1
        have kh2 := hk2g 2
        have kh3 := hk2g 3
        have kh4 := hk2g 4
        have kh5 := hk2g 5
        have kh6 := hk2g 6
        have kh7 := hk2g 7
        simp only [l8, nth] at kh0 kh1 kh2 kh3 kh4 kh5 kh6 kh7
        have hlb2 := S2.lines.lt
        have hne1 : lb ≠ Z.nx := by omega
        have hne2 : lb ≠ Z.nx + 1 := by omega
        refine cnd_go (Q := Q) (by kernel_rfl) ?_
        simp only [go_sem, Nat.reduceLT, Nat.reduceLeDiff, Nat.reduceEqDiff, Nat.reduceAdd, Nat.reduceSub, Nat.reduceMul, reduceCtorEq, Int.reduceBEq, Int.reduceLT, Int.reduceLE, Int.reduceAdd, Int.reduceSub, Int.reduceEq, Int.reduceNeg, Int.reduceToNat, Int.reduceGT, Int.reduceGE, e0, e3, e4, e5, wi, row0, row1, ← hX, ← hZ, hk2, kh0, kh1, kh2, kh3, kh4, kh5, kh6, kh7, hlb2, hne1, hne2]
        refine cnd_goF (Q := Q) (by kernel_rfl) ?_
        refine cnd_go' (Q := Q) (by kernel_rfl) ?_
        refine cnd_go' (Q := Q) ?_ ?_
        · rw [show leadN _ _ = 2 from by kernel_rfl]
          simp only [go_sem, Nat.reduceLT, Nat.reduceLeDiff, Nat.reduceEqDiff, Nat.reduceAdd, Nat.reduceSub, Nat.reduceMul, reduceCtorEq, Int.reduceBEq, Int.reduceLT, Int.reduceLE, Int.reduceAdd, Int.reduceSub, Int.reduceEq, Int.reduceNeg, Int.reduceToNat, Int.reduceGT, Int.reduceGE, List.take_succ_cons, List.take_zero, leadH_blk, leadH_gn, leadH_nx, ids_ptr, ids_4, beqC_4, leadId_lt, e0, e3, e4, e5, wi, row0, row1, ← hX, ← hZ, hk2, kh0, kh1, kh2, kh3, kh4, kh5, kh6, kh7, hlb2, hne1, hne2]
        simp only [go_sem, Nat.reduceLT, Nat.reduceLeDiff, Nat.reduceEqDiff, Nat.reduceAdd, Nat.reduceSub, Nat.reduceMul, reduceCtorEq, Int.reduceBEq, Int.reduceLT, Int.reduceLE, Int.reduceAdd, Int.reduceSub, Int.reduceEq, Int.reduceNeg, Int.reduceToNat, Int.reduceGT, Int.reduceGE, e0, e3, e4, e5, wi, row0, row1, ← hX, ← hZ, hk2, kh0, kh1, kh2, kh3, kh4, kh5, kh6, kh7, hlb2, hne1, hne2]
        obtain ⟨ka, hka⟩ : ∃ k, k = (((((newBlk [CV.int .u64 0, CV.int .u64 0, CV.int .u64 0, CV.int .u64 0]).st 0 (u64 a2.c)).st 1 (u64 a2.b)).st 2 (u64 a2.h0)).st 3 (u64 a2.h1)) := ⟨_, rfl⟩
        obtain ⟨kb, hkb⟩ : ∃ k, k = (((((newBlk [CV.int .u64 0, CV.int .u64 0, CV.int .u64 0, CV.int .u64 0]).st 0 (u64 b2.c)).st 1 (u64 b2.b)).st 2 (u64 b2.h0)).st 3 (u64 b2.h1)) := ⟨_, rfl⟩
        obtain ⟨V, hV⟩ : ∃ V, V = (((Z.alloc (.cells (newBlk [CV.int .u64 0, CV.int .u64 0, CV.int .u64 0, CV.int .u64 0]))).alloc (.cells (newBlk [CV.int .u64 0, CV.int .u64 0, CV.int .u64 0, CV.int .u64 0]))).put Z.nx (.cells (((((newBlk [CV.int .u64 0, CV.int .u64 0, CV.int .u64 0, CV.int .u64 0]).st 0 (u64 a2.c)).st 1 (u64 a2.b)).st 2 (u64 a2.h0)).st 3 (u64 a2.h1)))).put (Z.nx + 1) (.cells (((((newBlk [CV.int .u64 0, CV.int .u64 0, CV.int .u64 0, CV.int .u64 0]).st 0 (u64 b2.c)).st 1 (u64 b2.b)).st 2 (u64 b2.h0)).st 3 (u64 b2.h1))) := ⟨_, rfl⟩
        have VE : Ext Z V := by rw [hV]; exact (((Ext.alloc' (Ext.alloc' (Ext.refl _) _) _).put _ (Nat.le_refl _)).put _ (by omega))
        have Vnx : V.nx = Z.nx + 2 := by rw [hV]; rfl
        have nxV : Z.nx + 2 ≤ V.nx := by omega
        have lowV : V.low = h.nx := by rw [hV]; simp only [go_sem, Nat.reduceLT, Nat.reduceLeDiff, Nat.reduceEqDiff, Nat.reduceAdd, Nat.reduceSub, Nat.reduceMul, reduceCtorEq, Int.reduceBEq, Int.reduceLT, Int.reduceLE, Int.reduceAdd, Int.reduceSub, Int.reduceEq, Int.reduceNeg, Int.reduceToNat, Int.reduceGT, Int.reduceGE, S2.low]; have := S2.ext.nx; omega
        have aV : V.blk Z.nx = some ka := by rw [hV, hka]; simp only [go_sem, Nat.reduceLT, Nat.reduceLeDiff, Nat.reduceEqDiff, Nat.reduceAdd, Nat.reduceSub, Nat.reduceMul, reduceCtorEq, Int.reduceBEq, Int.reduceLT, Int.reduceLE, Int.reduceAdd, Int.reduceSub, Int.reduceEq, Int.reduceNeg, Int.reduceToNat, Int.reduceGT, Int.reduceGE, ne_succ]
        have bV : V.blk (Z.nx + 1) = some kb := by rw [hV, hkb]; simp only [go_sem, Nat.reduceLT, Nat.reduceLeDiff, Nat.reduceEqDiff, Nat.reduceAdd, Nat.reduceSub, Nat.reduceMul, reduceCtorEq, Int.reduceBEq, Int.reduceLT, Int.reduceLE, Int.reduceAdd, Int.reduceSub, Int.reduceEq, Int.reduceNeg, Int.reduceToNat, Int.reduceGT, Int.reduceGE]
        have ga0 : ka.get 0 = some (u64 a2.c) := by rw [hka]; simp only [go_sem, Nat.reduceLT, Nat.reduceLeDiff, Nat.reduceEqDiff, Nat.reduceAdd, Nat.reduceSub, Nat.reduceMul, reduceCtorEq, Int.reduceBEq, Int.reduceLT, Int.reduceLE, Int.reduceAdd, Int.reduceSub, Int.reduceEq, Int.reduceNeg, Int.reduceToNat, Int.reduceGT, Int.reduceGE]
        have ga1 : ka.get 1 = some (u64 a2.b) := by rw [hka]; simp only [go_sem, Nat.reduceLT, Nat.reduceLeDiff, Nat.reduceEqDiff, Nat.reduceAdd, Nat.reduceSub, Nat.reduceMul, reduceCtorEq, Int.reduceBEq, Int.reduceLT, Int.reduceLE, Int.reduceAdd, Int.reduceSub, Int.reduceEq, Int.reduceNeg, Int.reduceToNat, Int.reduceGT, Int.reduceGE]
        have ga2 : ka.get 2 = some (u64 a2.h0) := by rw [hka]; simp only [go_sem, Nat.reduceLT, Nat.reduceLeDiff, Nat.reduceEqDiff, Nat.reduceAdd, Nat.reduceSub, Nat.reduceMul, reduceCtorEq, Int.reduceBEq, Int.reduceLT, Int.reduceLE, Int.reduceAdd, Int.reduceSub, Int.reduceEq, Int.reduceNeg, Int.reduceToNat, Int.reduceGT, Int.reduceGE]
        have ga3 : ka.get 3 = some (u64 a2.h1) := by rw [hka]; simp only [go_sem, Nat.reduceLT, Nat.reduceLeDiff, Nat.reduceEqDiff, Nat.reduceAdd, Nat.reduceSub, Nat.reduceMul, reduceCtorEq, Int.reduceBEq, Int.reduceLT, Int.reduceLE, Int.reduceAdd, Int.reduceSub, Int.reduceEq, Int.reduceNeg, Int.reduceToNat, Int.reduceGT, Int.reduceGE]
        have gb0 : kb.get 0 = some (u64 b2.c) := by rw [hkb]; simp only [go_sem, Nat.reduceLT, Nat.reduceLeDiff, Nat.reduceEqDiff, Nat.reduceAdd, Nat.reduceSub, Nat.reduceMul, reduceCtorEq, Int.reduceBEq, Int.reduceLT, Int.reduceLE, Int.reduceAdd, Int.reduceSub, Int.reduceEq, Int.reduceNeg, Int.reduceToNat, Int.reduceGT, Int.reduceGE]
        have gb1 : kb.get 1 = some (u64 b2.b) := by rw [hkb]; simp only [go_sem, Nat.reduceLT, Nat.reduceLeDiff, Nat.reduceEqDiff, Nat.reduceAdd, Nat.reduceSub, Nat.reduceMul, reduceCtorEq, Int.reduceBEq, Int.reduceLT, Int.reduceLE, Int.reduceAdd, Int.reduceSub, Int.reduceEq, Int.reduceNeg, Int.reduceToNat, Int.reduceGT, Int.reduceGE]
        have gb2 : kb.get 2 = some (u64 b2.h0) := by rw [hkb]; simp only [go_sem, Nat.reduceLT, Nat.reduceLeDiff, Nat.reduceEqDiff, Nat.reduceAdd, Nat.reduceSub, Nat.reduceMul, reduceCtorEq, Int.reduceBEq, Int.reduceLT, Int.reduceLE, Int.reduceAdd, Int.reduceSub, Int.reduceEq, Int.reduceNeg, Int.reduceToNat, Int.reduceGT, Int.reduceGE]
        have gb3 : kb.get 3 = some (u64 b2.h1) := by rw [hkb]; simp only [go_sem, Nat.reduceLT, Nat.reduceLeDiff, Nat.reduceEqDiff, Nat.reduceAdd, Nat.reduceSub, Nat.reduceMul, reduceCtorEq, Int.reduceBEq, Int.reduceLT, Int.reduceLE, Int.reduceAdd, Int.reduceSub, Int.reduceEq, Int.reduceNeg, Int.reduceToNat, Int.reduceGT, Int.reduceGE]
        have pa := S2.A.pos
        have pb := S2.B.pos
        have la2 := S2.A.lt
        have lb2 := S2.B.lt
        have cmp : ∀ Y, (lim Try.prog σ).call 23 [.agg [u64 a2.c, u64 a2.b, u64 a2.h0, u64 a2.h1], .agg [u64 b2.c, u64 b2.b, u64 b2.h0, u64 b2.h1]] Y = some (.int .i64 (Int.ofNat (cmpV a2 b2)), none) := fun Y => compare_run hσ Y a2 b2 (by omega) (by omega)
        have ca2 := fun X => cvi (n := a2.c) (by omega) X
        have cb2 := fun X => cvi (n := b2.c) (by omega) X
        have BV : TL V v32 t2 := S2.tl.ext VE
        have len2 := fun h' ts az => BV.len h' ts az
        have p1 : ¬ Int.ofNat a2.c < 1 := by show ¬ (a2.c : Int) < 1; omega
        have p2 : ¬ Int.ofNat b2.c < 1 := by show ¬ (b2.c : Int) < 1; omega
        have p3 : ¬ Int.ofNat a2.c ≥ Int.ofNat t2.length := by show ¬ (a2.c : Int) ≥ (t2.length : Int); omega
        have p4 : ¬ Int.ofNat b2.c ≥ Int.ofNat t2.length := by show ¬ (b2.c : Int) ≥ (t2.length : Int); omega
        obtain ⟨far, up, r1, hf1, ab1'⟩ := above_run hσ BV S2.tree (by omega) a2.c b2.c pa lb2
        obtain ⟨way, down, r2, hf2, ab2'⟩ := above_run hσ BV S2.tree (by omega) b2.c a2.c pb la2
        have ab1 : (lim Try.prog σ).call 24 [v32, .int .i64 (Int.ofNat a2.c), .int .i64 (Int.ofNat b2.c)] V = _ := ab1'
        have ab2 : (lim Try.prog σ).call 24 [v32, .int .i64 (Int.ofNat b2.c), .int .i64 (Int.ofNat a2.c)] V = _ := ab2'
        simp only [go_sem, Nat.reduceLT, Nat.reduceLeDiff, Nat.reduceEqDiff, Nat.reduceAdd, Nat.reduceSub, Nat.reduceMul, reduceCtorEq, Int.reduceBEq, Int.reduceLT, Int.reduceLE, Int.reduceAdd, Int.reduceSub, Int.reduceEq, Int.reduceNeg, Int.reduceToNat, Int.reduceGT, Int.reduceGE, i4, i5, i6, i7, i8, e0, e3, e4, e5, wi, row0, row1, ← hX, ← hZ, ← hV, aV, bV, ga0, ga1, ga2, ga3, gb0, gb1, gb2, gb3, cmp, ca2, cb2, len2, p1, p2, p3, p4, ab1, ab2]
        refine cnd_go (Q := Q) (by kernel_rfl) ?_
        simp only [go_sem, Nat.reduceLT, Nat.reduceLeDiff, Nat.reduceEqDiff, Nat.reduceAdd, Nat.reduceSub, Nat.reduceMul, reduceCtorEq, Int.reduceBEq, Int.reduceLT, Int.reduceLE, Int.reduceAdd, Int.reduceSub, Int.reduceEq, Int.reduceNeg, Int.reduceToNat, Int.reduceGT, Int.reduceGE, i4, i5, i6, i7, i8, e0, e3, e4, e5, wi, row0, row1, ← hX, ← hZ, ← hV, aV, bV, ga0, ga1, ga2, ga3, gb0, gb1, gb2, gb3, cmp, ca2, cb2, len2, p1, p2, p3, p4, ab1, ab2]
        by_cases q : a2.c = b2.c
        · have q' : Int.ofNat a2.c = Int.ofNat b2.c := congrArg _ q
          have cv : cmpV a2 b2 = 4 := if_pos q
          simp only [go_sem, Nat.reduceLT, Nat.reduceLeDiff, Nat.reduceEqDiff, Nat.reduceAdd, Nat.reduceSub, Nat.reduceMul, reduceCtorEq, Int.reduceBEq, Int.reduceLT, Int.reduceLE, Int.reduceAdd, Int.reduceSub, Int.reduceEq, Int.reduceNeg, Int.reduceToNat, Int.reduceGT, Int.reduceGE, i4, i5, i6, i7, i8, e0, e3, e4, e5, wi, row0, row1, ← hX, ← hZ, ← hV, aV, bV, ga0, ga1, ga2, ga3, gb0, gb1, gb2, gb3, cmp, ca2, cb2, len2, p1, p2, p3, p4, ab1, ab2, q', cv]
          refine next _ _ ⟨t2, a2, b2, v32, lid2, lb, ?_, by omega, by simp only [go_sem, Nat.reduceLT, Nat.reduceLeDiff, Nat.reduceEqDiff, Nat.reduceAdd, Nat.reduceSub, Nat.reduceMul, reduceCtorEq, Int.reduceBEq, Int.reduceLT, Int.reduceLE, Int.reduceAdd, Int.reduceSub, Int.reduceEq, Int.reduceNeg, Int.reduceToNat, Int.reduceGT, Int.reduceGE, e0], by simp only [go_sem, Nat.reduceLT, Nat.reduceLeDiff, Nat.reduceEqDiff, Nat.reduceAdd, Nat.reduceSub, Nat.reduceMul, reduceCtorEq, Int.reduceBEq, Int.reduceLT, Int.reduceLE, Int.reduceAdd, Int.reduceSub, Int.reduceEq, Int.reduceNeg, Int.reduceToNat, Int.reduceGT, Int.reduceGE, e3], by simp only [go_sem, Nat.reduceLT, Nat.reduceLeDiff, Nat.reduceEqDiff, Nat.reduceAdd, Nat.reduceSub, Nat.reduceMul, reduceCtorEq, Int.reduceBEq, Int.reduceLT, Int.reduceLE, Int.reduceAdd, Int.reduceSub, Int.reduceEq, Int.reduceNeg, Int.reduceToNat, Int.reduceGT, Int.reduceGE, e4], by simp only [go_sem, Nat.reduceLT, Nat.reduceLeDiff, Nat.reduceEqDiff, Nat.reduceAdd, Nat.reduceSub, Nat.reduceMul, reduceCtorEq, Int.reduceBEq, Int.reduceLT, Int.reduceLE, Int.reduceAdd, Int.reduceSub, Int.reduceEq, Int.reduceNeg, Int.reduceToNat, Int.reduceGT, Int.reduceGE, wi]⟩
          have fs := S2.grow (VE) (lowV)
          rw [hV] at fs
          first | exact fs | (rw [hZ] at fs; exact fs)
        have q' : ¬ Int.ofNat a2.c = Int.ofNat b2.c := fun e => q (Int.ofNat.inj e)
        have M5 := mem_iff S2.tree S2.B pa q r1
        have M6 := mem_iff S2.tree S2.A pb (fun e => q e.symm) r2
        by_cases m5 : a2.c ∈ b2.el
        · obtain ⟨u1, u2⟩ := M5.1 m5
          subst u1
          have cv : cmpV a2 b2 = 5 := by unfold cmpV; rw [if_neg q, if_pos m5]
          have le5 : Int.ofNat far ≤ Int.ofNat b2.el.length := by show (far : Int) ≤ _; exact Int.ofNat_le.2 u2
          obtain ⟨vY1, xY1, eY1, BY1, EY1, lY1⟩ := elder_c hσ (X := V) (by have := (VE).nx; have := S2.ext.nx; omega) b2
          obtain ⟨Y1, hY1⟩ : ∃ Y', Y' = xY1.getD V := ⟨_, rfl⟩
          rw [← hY1] at BY1 EY1 lY1
          have cY1 : (lim Try.prog σ).call 25 [.agg [u64 b2.c, u64 b2.b, u64 b2.h0, u64 b2.h1]] V = some (vY1, xY1) := eY1
          have aY1 : Y1.blk Z.nx = some ka := (EY1.blk (by omega)).trans aV
          have bY1 : Y1.blk (Z.nx + 1) = some kb := (EY1.blk (by omega)).trans bV
          have nxY1 : Z.nx + 2 ≤ Y1.nx := by have := EY1.nx; omega
          have EEY1 : Ext Z Y1 := (VE).trans EY1
          have lowY1 : Y1.low = h.nx := by rw [lY1, lowV]
          simp only [go_sem, Nat.reduceLT, Nat.reduceLeDiff, Nat.reduceEqDiff, Nat.reduceAdd, Nat.reduceSub, Nat.reduceMul, reduceCtorEq, Int.reduceBEq, Int.reduceLT, Int.reduceLE, Int.reduceAdd, Int.reduceSub, Int.reduceEq, Int.reduceNeg, Int.reduceToNat, Int.reduceGT, Int.reduceGE, i4, i5, i6, i7, i8, e0, e3, e4, e5, wi, row0, row1, ← hX, ← hZ, ← hV, aV, bV, ga0, ga1, ga2, ga3, gb0, gb1, gb2, gb3, cmp, ca2, cb2, len2, p1, p2, p3, p4, ab1, ab2, q', cv, cY1, ← hY1, aY1, bY1, BY1.len, le5]
          refine next _ _ ⟨t2, a2, b2, v32, lid2, lb, ?_, by omega, by simp only [go_sem, Nat.reduceLT, Nat.reduceLeDiff, Nat.reduceEqDiff, Nat.reduceAdd, Nat.reduceSub, Nat.reduceMul, reduceCtorEq, Int.reduceBEq, Int.reduceLT, Int.reduceLE, Int.reduceAdd, Int.reduceSub, Int.reduceEq, Int.reduceNeg, Int.reduceToNat, Int.reduceGT, Int.reduceGE, e0], by simp only [go_sem, Nat.reduceLT, Nat.reduceLeDiff, Nat.reduceEqDiff, Nat.reduceAdd, Nat.reduceSub, Nat.reduceMul, reduceCtorEq, Int.reduceBEq, Int.reduceLT, Int.reduceLE, Int.reduceAdd, Int.reduceSub, Int.reduceEq, Int.reduceNeg, Int.reduceToNat, Int.reduceGT, Int.reduceGE, e3], by simp only [go_sem, Nat.reduceLT, Nat.reduceLeDiff, Nat.reduceEqDiff, Nat.reduceAdd, Nat.reduceSub, Nat.reduceMul, reduceCtorEq, Int.reduceBEq, Int.reduceLT, Int.reduceLE, Int.reduceAdd, Int.reduceSub, Int.reduceEq, Int.reduceNeg, Int.reduceToNat, Int.reduceGT, Int.reduceGE, e4], by simp only [go_sem, Nat.reduceLT, Nat.reduceLeDiff, Nat.reduceEqDiff, Nat.reduceAdd, Nat.reduceSub, Nat.reduceMul, reduceCtorEq, Int.reduceBEq, Int.reduceLT, Int.reduceLE, Int.reduceAdd, Int.reduceSub, Int.reduceEq, Int.reduceNeg, Int.reduceToNat, Int.reduceGT, Int.reduceGE, wi]⟩
          have fs := S2.grow (EEY1) (lowY1)
          rw [hY1] at fs
          rw [hV] at fs
          first | exact fs | (rw [hZ] at fs; exact fs)
        cases up
        · by_cases m6 : b2.c ∈ a2.el
          · obtain ⟨u1, u2⟩ := M6.1 m6
            subst u1
            have cv : cmpV a2 b2 = 6 := by unfold cmpV; rw [if_neg q, if_neg m5, if_pos m6]
            have le6 : Int.ofNat way ≤ Int.ofNat a2.el.length := by show (way : Int) ≤ _; exact Int.ofNat_le.2 u2
            obtain ⟨vY2, xY2, eY2, BY2, EY2, lY2⟩ := elder_c hσ (X := V) (by have := (VE).nx; have := S2.ext.nx; omega) a2
            obtain ⟨Y2, hY2⟩ : ∃ Y', Y' = xY2.getD V := ⟨_, rfl⟩
            rw [← hY2] at BY2 EY2 lY2
            have cY2 : (lim Try.prog σ).call 25 [.agg [u64 a2.c, u64 a2.b, u64 a2.h0, u64 a2.h1]] V = some (vY2, xY2) := eY2
            have aY2 : Y2.blk Z.nx = some ka := (EY2.blk (by omega)).trans aV
            have bY2 : Y2.blk (Z.nx + 1) = some kb := (EY2.blk (by omega)).trans bV
            have nxY2 : Z.nx + 2 ≤ Y2.nx := by have := EY2.nx; omega
            have EEY2 : Ext Z Y2 := (VE).trans EY2
            have lowY2 : Y2.low = h.nx := by rw [lY2, lowV]
            simp only [go_sem, Nat.reduceLT, Nat.reduceLeDiff, Nat.reduceEqDiff, Nat.reduceAdd, Nat.reduceSub, Nat.reduceMul, reduceCtorEq, Int.reduceBEq, Int.reduceLT, Int.reduceLE, Int.reduceAdd, Int.reduceSub, Int.reduceEq, Int.reduceNeg, Int.reduceToNat, Int.reduceGT, Int.reduceGE, i4, i5, i6, i7, i8, e0, e3, e4, e5, wi, row0, row1, ← hX, ← hZ, ← hV, aV, bV, ga0, ga1, ga2, ga3, gb0, gb1, gb2, gb3, cmp, ca2, cb2, len2, p1, p2, p3, p4, ab1, ab2, q', cv, cY2, ← hY2, aY2, bY2, BY2.len, le6]
            refine next _ _ ⟨t2, a2, b2, v32, lid2, lb, ?_, by omega, by simp only [go_sem, Nat.reduceLT, Nat.reduceLeDiff, Nat.reduceEqDiff, Nat.reduceAdd, Nat.reduceSub, Nat.reduceMul, reduceCtorEq, Int.reduceBEq, Int.reduceLT, Int.reduceLE, Int.reduceAdd, Int.reduceSub, Int.reduceEq, Int.reduceNeg, Int.reduceToNat, Int.reduceGT, Int.reduceGE, e0], by simp only [go_sem, Nat.reduceLT, Nat.reduceLeDiff, Nat.reduceEqDiff, Nat.reduceAdd, Nat.reduceSub, Nat.reduceMul, reduceCtorEq, Int.reduceBEq, Int.reduceLT, Int.reduceLE, Int.reduceAdd, Int.reduceSub, Int.reduceEq, Int.reduceNeg, Int.reduceToNat, Int.reduceGT, Int.reduceGE, e3], by simp only [go_sem, Nat.reduceLT, Nat.reduceLeDiff, Nat.reduceEqDiff, Nat.reduceAdd, Nat.reduceSub, Nat.reduceMul, reduceCtorEq, Int.reduceBEq, Int.reduceLT, Int.reduceLE, Int.reduceAdd, Int.reduceSub, Int.reduceEq, Int.reduceNeg, Int.reduceToNat, Int.reduceGT, Int.reduceGE, e4], by simp only [go_sem, Nat.reduceLT, Nat.reduceLeDiff, Nat.reduceEqDiff, Nat.reduceAdd, Nat.reduceSub, Nat.reduceMul, reduceCtorEq, Int.reduceBEq, Int.reduceLT, Int.reduceLE, Int.reduceAdd, Int.reduceSub, Int.reduceEq, Int.reduceNeg, Int.reduceToNat, Int.reduceGT, Int.reduceGE, wi]⟩
            have fs := S2.grow (EEY2) (lowY2)
            rw [hY2] at fs
            rw [hV] at fs
            first | exact fs | (rw [hZ] at fs; exact fs)
          cases down
          · have shr : (lim Try.prog σ).call 26 [v32, .agg [u64 a2.c, u64 a2.b, u64 a2.h0, u64 a2.h1], .agg [u64 b2.c, u64 b2.b, u64 b2.h0, u64 b2.h1]] V = some (.bool (decide (sh a2.el b2.el ≠ 0)), none) := lshared_run hσ (S2.tl.ext VE) S2.tree (by omega) a2 b2 la2 lb2 S2.A.ch S2.B.ch
            by_cases s0 : sh a2.el b2.el ≠ 0
            · have cv : cmpV a2 b2 = 7 := by unfold cmpV; rw [if_neg q, if_neg m5, if_neg m6, if_pos s0]
              have ds : decide (sh a2.el b2.el ≠ 0) = true := decide_eq_true s0
              rw [ds] at shr
              simp only [go_sem, Nat.reduceLT, Nat.reduceLeDiff, Nat.reduceEqDiff, Nat.reduceAdd, Nat.reduceSub, Nat.reduceMul, reduceCtorEq, Int.reduceBEq, Int.reduceLT, Int.reduceLE, Int.reduceAdd, Int.reduceSub, Int.reduceEq, Int.reduceNeg, Int.reduceToNat, Int.reduceGT, Int.reduceGE, i4, i5, i6, i7, i8, e0, e3, e4, e5, wi, row0, row1, ← hX, ← hZ, ← hV, aV, bV, ga0, ga1, ga2, ga3, gb0, gb1, gb2, gb3, cmp, ca2, cb2, len2, p1, p2, p3, p4, ab1, ab2, q', cv, shr]
              refine next _ _ ⟨t2, a2, b2, v32, lid2, lb, ?_, by omega, by simp only [go_sem, Nat.reduceLT, Nat.reduceLeDiff, Nat.reduceEqDiff, Nat.reduceAdd, Nat.reduceSub, Nat.reduceMul, reduceCtorEq, Int.reduceBEq, Int.reduceLT, Int.reduceLE, Int.reduceAdd, Int.reduceSub, Int.reduceEq, Int.reduceNeg, Int.reduceToNat, Int.reduceGT, Int.reduceGE, e0], by simp only [go_sem, Nat.reduceLT, Nat.reduceLeDiff, Nat.reduceEqDiff, Nat.reduceAdd, Nat.reduceSub, Nat.reduceMul, reduceCtorEq, Int.reduceBEq, Int.reduceLT, Int.reduceLE, Int.reduceAdd, Int.reduceSub, Int.reduceEq, Int.reduceNeg, Int.reduceToNat, Int.reduceGT, Int.reduceGE, e3], by simp only [go_sem, Nat.reduceLT, Nat.reduceLeDiff, Nat.reduceEqDiff, Nat.reduceAdd, Nat.reduceSub, Nat.reduceMul, reduceCtorEq, Int.reduceBEq, Int.reduceLT, Int.reduceLE, Int.reduceAdd, Int.reduceSub, Int.reduceEq, Int.reduceNeg, Int.reduceToNat, Int.reduceGT, Int.reduceGE, e4], by simp only [go_sem, Nat.reduceLT, Nat.reduceLeDiff, Nat.reduceEqDiff, Nat.reduceAdd, Nat.reduceSub, Nat.reduceMul, reduceCtorEq, Int.reduceBEq, Int.reduceLT, Int.reduceLE, Int.reduceAdd, Int.reduceSub, Int.reduceEq, Int.reduceNeg, Int.reduceToNat, Int.reduceGT, Int.reduceGE, wi]⟩
              have fs := S2.grow (VE) (lowV)
              rw [hV] at fs
              first | exact fs | (rw [hZ] at fs; exact fs)
            · have cv : cmpV a2 b2 = 8 := by unfold cmpV; rw [if_neg q, if_neg m5, if_neg m6, if_neg s0]
              have ds : decide (sh a2.el b2.el ≠ 0) = false := decide_eq_false s0
              rw [ds] at shr
              simp only [go_sem, Nat.reduceLT, Nat.reduceLeDiff, Nat.reduceEqDiff, Nat.reduceAdd, Nat.reduceSub, Nat.reduceMul, reduceCtorEq, Int.reduceBEq, Int.reduceLT, Int.reduceLE, Int.reduceAdd, Int.reduceSub, Int.reduceEq, Int.reduceNeg, Int.reduceToNat, Int.reduceGT, Int.reduceGE, i4, i5, i6, i7, i8, e0, e3, e4, e5, wi, row0, row1, ← hX, ← hZ, ← hV, aV, bV, ga0, ga1, ga2, ga3, gb0, gb1, gb2, gb3, cmp, ca2, cb2, len2, p1, p2, p3, p4, ab1, ab2, q', cv, shr]
              refine next _ _ ⟨t2, a2, b2, v32, lid2, lb, ?_, by omega, by simp only [go_sem, Nat.reduceLT, Nat.reduceLeDiff, Nat.reduceEqDiff, Nat.reduceAdd, Nat.reduceSub, Nat.reduceMul, reduceCtorEq, Int.reduceBEq, Int.reduceLT, Int.reduceLE, Int.reduceAdd, Int.reduceSub, Int.reduceEq, Int.reduceNeg, Int.reduceToNat, Int.reduceGT, Int.reduceGE, e0], by simp only [go_sem, Nat.reduceLT, Nat.reduceLeDiff, Nat.reduceEqDiff, Nat.reduceAdd, Nat.reduceSub, Nat.reduceMul, reduceCtorEq, Int.reduceBEq, Int.reduceLT, Int.reduceLE, Int.reduceAdd, Int.reduceSub, Int.reduceEq, Int.reduceNeg, Int.reduceToNat, Int.reduceGT, Int.reduceGE, e3], by simp only [go_sem, Nat.reduceLT, Nat.reduceLeDiff, Nat.reduceEqDiff, Nat.reduceAdd, Nat.reduceSub, Nat.reduceMul, reduceCtorEq, Int.reduceBEq, Int.reduceLT, Int.reduceLE, Int.reduceAdd, Int.reduceSub, Int.reduceEq, Int.reduceNeg, Int.reduceToNat, Int.reduceGT, Int.reduceGE, e4], by simp only [go_sem, Nat.reduceLT, Nat.reduceLeDiff, Nat.reduceEqDiff, Nat.reduceAdd, Nat.reduceSub, Nat.reduceMul, reduceCtorEq, Int.reduceBEq, Int.reduceLT, Int.reduceLE, Int.reduceAdd, Int.reduceSub, Int.reduceEq, Int.reduceNeg, Int.reduceToNat, Int.reduceGT, Int.reduceGE, wi]⟩
              have fs := S2.grow (VE) (lowV)
              rw [hV] at fs
              first | exact fs | (rw [hZ] at fs; exact fs)
          · obtain ⟨vY2, xY2, eY2, BY2, EY2, lY2⟩ := elder_c hσ (X := V) (by have := (VE).nx; have := S2.ext.nx; omega) a2
            obtain ⟨Y2, hY2⟩ : ∃ Y', Y' = xY2.getD V := ⟨_, rfl⟩
            rw [← hY2] at BY2 EY2 lY2
            have cY2 : (lim Try.prog σ).call 25 [.agg [u64 a2.c, u64 a2.b, u64 a2.h0, u64 a2.h1]] V = some (vY2, xY2) := eY2
            have aY2 : Y2.blk Z.nx = some ka := (EY2.blk (by omega)).trans aV
            have bY2 : Y2.blk (Z.nx + 1) = some kb := (EY2.blk (by omega)).trans bV
            have nxY2 : Z.nx + 2 ≤ Y2.nx := by have := EY2.nx; omega
            have EEY2 : Ext Z Y2 := (VE).trans EY2
            have lowY2 : Y2.low = h.nx := by rw [lY2, lowV]
            have nle6 : ¬ Int.ofNat way ≤ Int.ofNat a2.el.length := fun e => m6 (M6.2 ⟨rfl, Int.ofNat_le.1 e⟩)
            have shr : (lim Try.prog σ).call 26 [v32, .agg [u64 a2.c, u64 a2.b, u64 a2.h0, u64 a2.h1], .agg [u64 b2.c, u64 b2.b, u64 b2.h0, u64 b2.h1]] Y2 = some (.bool (decide (sh a2.el b2.el ≠ 0)), none) := lshared_run hσ (S2.tl.ext EEY2) S2.tree (by omega) a2 b2 la2 lb2 S2.A.ch S2.B.ch
            by_cases s0 : sh a2.el b2.el ≠ 0
            · have cv : cmpV a2 b2 = 7 := by unfold cmpV; rw [if_neg q, if_neg m5, if_neg m6, if_pos s0]
              have ds : decide (sh a2.el b2.el ≠ 0) = true := decide_eq_true s0
              rw [ds] at shr
              simp only [go_sem, Nat.reduceLT, Nat.reduceLeDiff, Nat.reduceEqDiff, Nat.reduceAdd, Nat.reduceSub, Nat.reduceMul, reduceCtorEq, Int.reduceBEq, Int.reduceLT, Int.reduceLE, Int.reduceAdd, Int.reduceSub, Int.reduceEq, Int.reduceNeg, Int.reduceToNat, Int.reduceGT, Int.reduceGE, i4, i5, i6, i7, i8, e0, e3, e4, e5, wi, row0, row1, ← hX, ← hZ, ← hV, aV, bV, ga0, ga1, ga2, ga3, gb0, gb1, gb2, gb3, cmp, ca2, cb2, len2, p1, p2, p3, p4, ab1, ab2, q', cv, cY2, ← hY2, aY2, bY2, BY2.len, nle6, shr]
              refine next _ _ ⟨t2, a2, b2, v32, lid2, lb, ?_, by omega, by simp only [go_sem, Nat.reduceLT, Nat.reduceLeDiff, Nat.reduceEqDiff, Nat.reduceAdd, Nat.reduceSub, Nat.reduceMul, reduceCtorEq, Int.reduceBEq, Int.reduceLT, Int.reduceLE, Int.reduceAdd, Int.reduceSub, Int.reduceEq, Int.reduceNeg, Int.reduceToNat, Int.reduceGT, Int.reduceGE, e0], by simp only [go_sem, Nat.reduceLT, Nat.reduceLeDiff, Nat.reduceEqDiff, Nat.reduceAdd, Nat.reduceSub, Nat.reduceMul, reduceCtorEq, Int.reduceBEq, Int.reduceLT, Int.reduceLE, Int.reduceAdd, Int.reduceSub, Int.reduceEq, Int.reduceNeg, Int.reduceToNat, Int.reduceGT, Int.reduceGE, e3], by simp only [go_sem, Nat.reduceLT, Nat.reduceLeDiff, Nat.reduceEqDiff, Nat.reduceAdd, Nat.reduceSub, Nat.reduceMul, reduceCtorEq, Int.reduceBEq, Int.reduceLT, Int.reduceLE, Int.reduceAdd, Int.reduceSub, Int.reduceEq, Int.reduceNeg, Int.reduceToNat, Int.reduceGT, Int.reduceGE, e4], by simp only [go_sem, Nat.reduceLT, Nat.reduceLeDiff, Nat.reduceEqDiff, Nat.reduceAdd, Nat.reduceSub, Nat.reduceMul, reduceCtorEq, Int.reduceBEq, Int.reduceLT, Int.reduceLE, Int.reduceAdd, Int.reduceSub, Int.reduceEq, Int.reduceNeg, Int.reduceToNat, Int.reduceGT, Int.reduceGE, wi]⟩
              have fs := S2.grow (EEY2) (lowY2)
              rw [hY2] at fs
              rw [hV] at fs
              first | exact fs | (rw [hZ] at fs; exact fs)
            · have cv : cmpV a2 b2 = 8 := by unfold cmpV; rw [if_neg q, if_neg m5, if_neg m6, if_neg s0]
              have ds : decide (sh a2.el b2.el ≠ 0) = false := decide_eq_false s0
              rw [ds] at shr
              simp only [go_sem, Nat.reduceLT, Nat.reduceLeDiff, Nat.reduceEqDiff, Nat.reduceAdd, Nat.reduceSub, Nat.reduceMul, reduceCtorEq, Int.reduceBEq, Int.reduceLT, Int.reduceLE, Int.reduceAdd, Int.reduceSub, Int.reduceEq, Int.reduceNeg, Int.reduceToNat, Int.reduceGT, Int.reduceGE, i4, i5, i6, i7, i8, e0, e3, e4, e5, wi, row0, row1, ← hX, ← hZ, ← hV, aV, bV, ga0, ga1, ga2, ga3, gb0, gb1, gb2, gb3, cmp, ca2, cb2, len2, p1, p2, p3, p4, ab1, ab2, q', cv, cY2, ← hY2, aY2, bY2, BY2.len, nle6, shr]
              refine next _ _ ⟨t2, a2, b2, v32, lid2, lb, ?_, by omega, by simp only [go_sem, Nat.reduceLT, Nat.reduceLeDiff, Nat.reduceEqDiff, Nat.reduceAdd, Nat.reduceSub, Nat.reduceMul, reduceCtorEq, Int.reduceBEq, Int.reduceLT, Int.reduceLE, Int.reduceAdd, Int.reduceSub, Int.reduceEq, Int.reduceNeg, Int.reduceToNat, Int.reduceGT, Int.reduceGE, e0], by simp only [go_sem, Nat.reduceLT, Nat.reduceLeDiff, Nat.reduceEqDiff, Nat.reduceAdd, Nat.reduceSub, Nat.reduceMul, reduceCtorEq, Int.reduceBEq, Int.reduceLT, Int.reduceLE, Int.reduceAdd, Int.reduceSub, Int.reduceEq, Int.reduceNeg, Int.reduceToNat, Int.reduceGT, Int.reduceGE, e3], by simp only [go_sem, Nat.reduceLT, Nat.reduceLeDiff, Nat.reduceEqDiff, Nat.reduceAdd, Nat.reduceSub, Nat.reduceMul, reduceCtorEq, Int.reduceBEq, Int.reduceLT, Int.reduceLE, Int.reduceAdd, Int.reduceSub, Int.reduceEq, Int.reduceNeg, Int.reduceToNat, Int.reduceGT, Int.reduceGE, e4], by simp only [go_sem, Nat.reduceLT, Nat.reduceLeDiff, Nat.reduceEqDiff, Nat.reduceAdd, Nat.reduceSub, Nat.reduceMul, reduceCtorEq, Int.reduceBEq, Int.reduceLT, Int.reduceLE, Int.reduceAdd, Int.reduceSub, Int.reduceEq, Int.reduceNeg, Int.reduceToNat, Int.reduceGT, Int.reduceGE, wi]⟩
              have fs := S2.grow (EEY2) (lowY2)
              rw [hY2] at fs
              rw [hV] at fs
              first | exact fs | (rw [hZ] at fs; exact fs)
        · obtain ⟨vY1, xY1, eY1, BY1, EY1, lY1⟩ := elder_c hσ (X := V) (by have := (VE).nx; have := S2.ext.nx; omega) b2
          obtain ⟨Y1, hY1⟩ : ∃ Y', Y' = xY1.getD V := ⟨_, rfl⟩
          rw [← hY1] at BY1 EY1 lY1
          have cY1 : (lim Try.prog σ).call 25 [.agg [u64 b2.c, u64 b2.b, u64 b2.h0, u64 b2.h1]] V = some (vY1, xY1) := eY1
          have aY1 : Y1.blk Z.nx = some ka := (EY1.blk (by omega)).trans aV
          have bY1 : Y1.blk (Z.nx + 1) = some kb := (EY1.blk (by omega)).trans bV
          have nxY1 : Z.nx + 2 ≤ Y1.nx := by have := EY1.nx; omega
          have EEY1 : Ext Z Y1 := (VE).trans EY1
          have lowY1 : Y1.low = h.nx := by rw [lY1, lowV]
          have nle5 : ¬ Int.ofNat far ≤ Int.ofNat b2.el.length := fun e => m5 (M5.2 ⟨rfl, Int.ofNat_le.1 e⟩)
          by_cases m6 : b2.c ∈ a2.el
          · obtain ⟨u1, u2⟩ := M6.1 m6
            subst u1
            have cv : cmpV a2 b2 = 6 := by unfold cmpV; rw [if_neg q, if_neg m5, if_pos m6]
            have le6 : Int.ofNat way ≤ Int.ofNat a2.el.length := by show (way : Int) ≤ _; exact Int.ofNat_le.2 u2
            obtain ⟨vY2, xY2, eY2, BY2, EY2, lY2⟩ := elder_c hσ (X := Y1) (by have := (EEY1).nx; have := S2.ext.nx; omega) a2
            obtain ⟨Y2, hY2⟩ : ∃ Y', Y' = xY2.getD Y1 := ⟨_, rfl⟩
            rw [← hY2] at BY2 EY2 lY2
            have cY2 : (lim Try.prog σ).call 25 [.agg [u64 a2.c, u64 a2.b, u64 a2.h0, u64 a2.h1]] Y1 = some (vY2, xY2) := eY2
            have aY2 : Y2.blk Z.nx = some ka := (EY2.blk (by omega)).trans aY1
            have bY2 : Y2.blk (Z.nx + 1) = some kb := (EY2.blk (by omega)).trans bY1
            have nxY2 : Z.nx + 2 ≤ Y2.nx := by have := EY2.nx; omega
            have EEY2 : Ext Z Y2 := (EEY1).trans EY2
            have lowY2 : Y2.low = h.nx := by rw [lY2, lowY1]
            simp only [go_sem, Nat.reduceLT, Nat.reduceLeDiff, Nat.reduceEqDiff, Nat.reduceAdd, Nat.reduceSub, Nat.reduceMul, reduceCtorEq, Int.reduceBEq, Int.reduceLT, Int.reduceLE, Int.reduceAdd, Int.reduceSub, Int.reduceEq, Int.reduceNeg, Int.reduceToNat, Int.reduceGT, Int.reduceGE, i4, i5, i6, i7, i8, e0, e3, e4, e5, wi, row0, row1, ← hX, ← hZ, ← hV, aV, bV, ga0, ga1, ga2, ga3, gb0, gb1, gb2, gb3, cmp, ca2, cb2, len2, p1, p2, p3, p4, ab1, ab2, q', cv, cY1, ← hY1, aY1, bY1, BY1.len, nle5, cY2, ← hY2, aY2, bY2, BY2.len, le6]
            refine next _ _ ⟨t2, a2, b2, v32, lid2, lb, ?_, by omega, by simp only [go_sem, Nat.reduceLT, Nat.reduceLeDiff, Nat.reduceEqDiff, Nat.reduceAdd, Nat.reduceSub, Nat.reduceMul, reduceCtorEq, Int.reduceBEq, Int.reduceLT, Int.reduceLE, Int.reduceAdd, Int.reduceSub, Int.reduceEq, Int.reduceNeg, Int.reduceToNat, Int.reduceGT, Int.reduceGE, e0], by simp only [go_sem, Nat.reduceLT, Nat.reduceLeDiff, Nat.reduceEqDiff, Nat.reduceAdd, Nat.reduceSub, Nat.reduceMul, reduceCtorEq, Int.reduceBEq, Int.reduceLT, Int.reduceLE, Int.reduceAdd, Int.reduceSub, Int.reduceEq, Int.reduceNeg, Int.reduceToNat, Int.reduceGT, Int.reduceGE, e3], by simp only [go_sem, Nat.reduceLT, Nat.reduceLeDiff, Nat.reduceEqDiff, Nat.reduceAdd, Nat.reduceSub, Nat.reduceMul, reduceCtorEq, Int.reduceBEq, Int.reduceLT, Int.reduceLE, Int.reduceAdd, Int.reduceSub, Int.reduceEq, Int.reduceNeg, Int.reduceToNat, Int.reduceGT, Int.reduceGE, e4], by simp only [go_sem, Nat.reduceLT, Nat.reduceLeDiff, Nat.reduceEqDiff, Nat.reduceAdd, Nat.reduceSub, Nat.reduceMul, reduceCtorEq, Int.reduceBEq, Int.reduceLT, Int.reduceLE, Int.reduceAdd, Int.reduceSub, Int.reduceEq, Int.reduceNeg, Int.reduceToNat, Int.reduceGT, Int.reduceGE, wi]⟩
            have fs := S2.grow (EEY2) (lowY2)
            rw [hY2] at fs
            rw [hY1] at fs
            rw [hV] at fs
            first | exact fs | (rw [hZ] at fs; exact fs)
          cases down
          · have shr : (lim Try.prog σ).call 26 [v32, .agg [u64 a2.c, u64 a2.b, u64 a2.h0, u64 a2.h1], .agg [u64 b2.c, u64 b2.b, u64 b2.h0, u64 b2.h1]] Y1 = some (.bool (decide (sh a2.el b2.el ≠ 0)), none) := lshared_run hσ (S2.tl.ext EEY1) S2.tree (by omega) a2 b2 la2 lb2 S2.A.ch S2.B.ch
            by_cases s0 : sh a2.el b2.el ≠ 0
            · have cv : cmpV a2 b2 = 7 := by unfold cmpV; rw [if_neg q, if_neg m5, if_neg m6, if_pos s0]
              have ds : decide (sh a2.el b2.el ≠ 0) = true := decide_eq_true s0
              rw [ds] at shr
              simp only [go_sem, Nat.reduceLT, Nat.reduceLeDiff, Nat.reduceEqDiff, Nat.reduceAdd, Nat.reduceSub, Nat.reduceMul, reduceCtorEq, Int.reduceBEq, Int.reduceLT, Int.reduceLE, Int.reduceAdd, Int.reduceSub, Int.reduceEq, Int.reduceNeg, Int.reduceToNat, Int.reduceGT, Int.reduceGE, i4, i5, i6, i7, i8, e0, e3, e4, e5, wi, row0, row1, ← hX, ← hZ, ← hV, aV, bV, ga0, ga1, ga2, ga3, gb0, gb1, gb2, gb3, cmp, ca2, cb2, len2, p1, p2, p3, p4, ab1, ab2, q', cv, cY1, ← hY1, aY1, bY1, BY1.len, nle5, shr]
              refine next _ _ ⟨t2, a2, b2, v32, lid2, lb, ?_, by omega, by simp only [go_sem, Nat.reduceLT, Nat.reduceLeDiff, Nat.reduceEqDiff, Nat.reduceAdd, Nat.reduceSub, Nat.reduceMul, reduceCtorEq, Int.reduceBEq, Int.reduceLT, Int.reduceLE, Int.reduceAdd, Int.reduceSub, Int.reduceEq, Int.reduceNeg, Int.reduceToNat, Int.reduceGT, Int.reduceGE, e0], by simp only [go_sem, Nat.reduceLT, Nat.reduceLeDiff, Nat.reduceEqDiff, Nat.reduceAdd, Nat.reduceSub, Nat.reduceMul, reduceCtorEq, Int.reduceBEq, Int.reduceLT, Int.reduceLE, Int.reduceAdd, Int.reduceSub, Int.reduceEq, Int.reduceNeg, Int.reduceToNat, Int.reduceGT, Int.reduceGE, e3], by simp only [go_sem, Nat.reduceLT, Nat.reduceLeDiff, Nat.reduceEqDiff, Nat.reduceAdd, Nat.reduceSub, Nat.reduceMul, reduceCtorEq, Int.reduceBEq, Int.reduceLT, Int.reduceLE, Int.reduceAdd, Int.reduceSub, Int.reduceEq, Int.reduceNeg, Int.reduceToNat, Int.reduceGT, Int.reduceGE, e4], by simp only [go_sem, Nat.reduceLT, Nat.reduceLeDiff, Nat.reduceEqDiff, Nat.reduceAdd, Nat.reduceSub, Nat.reduceMul, reduceCtorEq, Int.reduceBEq, Int.reduceLT, Int.reduceLE, Int.reduceAdd, Int.reduceSub, Int.reduceEq, Int.reduceNeg, Int.reduceToNat, Int.reduceGT, Int.reduceGE, wi]⟩
              have fs := S2.grow (EEY1) (lowY1)
              rw [hY1] at fs
              rw [hV] at fs
              first | exact fs | (rw [hZ] at fs; exact fs)
            · have cv : cmpV a2 b2 = 8 := by unfold cmpV; rw [if_neg q, if_neg m5, if_neg m6, if_neg s0]
              have ds : decide (sh a2.el b2.el ≠ 0) = false := decide_eq_false s0
              rw [ds] at shr
              simp only [go_sem, Nat.reduceLT, Nat.reduceLeDiff, Nat.reduceEqDiff, Nat.reduceAdd, Nat.reduceSub, Nat.reduceMul, reduceCtorEq, Int.reduceBEq, Int.reduceLT, Int.reduceLE, Int.reduceAdd, Int.reduceSub, Int.reduceEq, Int.reduceNeg, Int.reduceToNat, Int.reduceGT, Int.reduceGE, i4, i5, i6, i7, i8, e0, e3, e4, e5, wi, row0, row1, ← hX, ← hZ, ← hV, aV, bV, ga0, ga1, ga2, ga3, gb0, gb1, gb2, gb3, cmp, ca2, cb2, len2, p1, p2, p3, p4, ab1, ab2, q', cv, cY1, ← hY1, aY1, bY1, BY1.len, nle5, shr]
              refine next _ _ ⟨t2, a2, b2, v32, lid2, lb, ?_, by omega, by simp only [go_sem, Nat.reduceLT, Nat.reduceLeDiff, Nat.reduceEqDiff, Nat.reduceAdd, Nat.reduceSub, Nat.reduceMul, reduceCtorEq, Int.reduceBEq, Int.reduceLT, Int.reduceLE, Int.reduceAdd, Int.reduceSub, Int.reduceEq, Int.reduceNeg, Int.reduceToNat, Int.reduceGT, Int.reduceGE, e0], by simp only [go_sem, Nat.reduceLT, Nat.reduceLeDiff, Nat.reduceEqDiff, Nat.reduceAdd, Nat.reduceSub, Nat.reduceMul, reduceCtorEq, Int.reduceBEq, Int.reduceLT, Int.reduceLE, Int.reduceAdd, Int.reduceSub, Int.reduceEq, Int.reduceNeg, Int.reduceToNat, Int.reduceGT, Int.reduceGE, e3], by simp only [go_sem, Nat.reduceLT, Nat.reduceLeDiff, Nat.reduceEqDiff, Nat.reduceAdd, Nat.reduceSub, Nat.reduceMul, reduceCtorEq, Int.reduceBEq, Int.reduceLT, Int.reduceLE, Int.reduceAdd, Int.reduceSub, Int.reduceEq, Int.reduceNeg, Int.reduceToNat, Int.reduceGT, Int.reduceGE, e4], by simp only [go_sem, Nat.reduceLT, Nat.reduceLeDiff, Nat.reduceEqDiff, Nat.reduceAdd, Nat.reduceSub, Nat.reduceMul, reduceCtorEq, Int.reduceBEq, Int.reduceLT, Int.reduceLE, Int.reduceAdd, Int.reduceSub, Int.reduceEq, Int.reduceNeg, Int.reduceToNat, Int.reduceGT, Int.reduceGE, wi]⟩
              have fs := S2.grow (EEY1) (lowY1)
              rw [hY1] at fs
              rw [hV] at fs
              first | exact fs | (rw [hZ] at fs; exact fs)
          · obtain ⟨vY2, xY2, eY2, BY2, EY2, lY2⟩ := elder_c hσ (X := Y1) (by have := (EEY1).nx; have := S2.ext.nx; omega) a2
            obtain ⟨Y2, hY2⟩ : ∃ Y', Y' = xY2.getD Y1 := ⟨_, rfl⟩
            rw [← hY2] at BY2 EY2 lY2
            have cY2 : (lim Try.prog σ).call 25 [.agg [u64 a2.c, u64 a2.b, u64 a2.h0, u64 a2.h1]] Y1 = some (vY2, xY2) := eY2
            have aY2 : Y2.blk Z.nx = some ka := (EY2.blk (by omega)).trans aY1
            have bY2 : Y2.blk (Z.nx + 1) = some kb := (EY2.blk (by omega)).trans bY1
            have nxY2 : Z.nx + 2 ≤ Y2.nx := by have := EY2.nx; omega
            have EEY2 : Ext Z Y2 := (EEY1).trans EY2
            have lowY2 : Y2.low = h.nx := by rw [lY2, lowY1]
            have nle6 : ¬ Int.ofNat way ≤ Int.ofNat a2.el.length := fun e => m6 (M6.2 ⟨rfl, Int.ofNat_le.1 e⟩)
            have shr : (lim Try.prog σ).call 26 [v32, .agg [u64 a2.c, u64 a2.b, u64 a2.h0, u64 a2.h1], .agg [u64 b2.c, u64 b2.b, u64 b2.h0, u64 b2.h1]] Y2 = some (.bool (decide (sh a2.el b2.el ≠ 0)), none) := lshared_run hσ (S2.tl.ext EEY2) S2.tree (by omega) a2 b2 la2 lb2 S2.A.ch S2.B.ch
            by_cases s0 : sh a2.el b2.el ≠ 0
            · have cv : cmpV a2 b2 = 7 := by unfold cmpV; rw [if_neg q, if_neg m5, if_neg m6, if_pos s0]
              have ds : decide (sh a2.el b2.el ≠ 0) = true := decide_eq_true s0
              rw [ds] at shr
              simp only [go_sem, Nat.reduceLT, Nat.reduceLeDiff, Nat.reduceEqDiff, Nat.reduceAdd, Nat.reduceSub, Nat.reduceMul, reduceCtorEq, Int.reduceBEq, Int.reduceLT, Int.reduceLE, Int.reduceAdd, Int.reduceSub, Int.reduceEq, Int.reduceNeg, Int.reduceToNat, Int.reduceGT, Int.reduceGE, i4, i5, i6, i7, i8, e0, e3, e4, e5, wi, row0, row1, ← hX, ← hZ, ← hV, aV, bV, ga0, ga1, ga2, ga3, gb0, gb1, gb2, gb3, cmp, ca2, cb2, len2, p1, p2, p3, p4, ab1, ab2, q', cv, cY1, ← hY1, aY1, bY1, BY1.len, nle5, cY2, ← hY2, aY2, bY2, BY2.len, nle6, shr]
              refine next _ _ ⟨t2, a2, b2, v32, lid2, lb, ?_, by omega, by simp only [go_sem, Nat.reduceLT, Nat.reduceLeDiff, Nat.reduceEqDiff, Nat.reduceAdd, Nat.reduceSub, Nat.reduceMul, reduceCtorEq, Int.reduceBEq, Int.reduceLT, Int.reduceLE, Int.reduceAdd, Int.reduceSub, Int.reduceEq, Int.reduceNeg, Int.reduceToNat, Int.reduceGT, Int.reduceGE, e0], by simp only [go_sem, Nat.reduceLT, Nat.reduceLeDiff, Nat.reduceEqDiff, Nat.reduceAdd, Nat.reduceSub, Nat.reduceMul, reduceCtorEq, Int.reduceBEq, Int.reduceLT, Int.reduceLE, Int.reduceAdd, Int.reduceSub, Int.reduceEq, Int.reduceNeg, Int.reduceToNat, Int.reduceGT, Int.reduceGE, e3], by simp only [go_sem, Nat.reduceLT, Nat.reduceLeDiff, Nat.reduceEqDiff, Nat.reduceAdd, Nat.reduceSub, Nat.reduceMul, reduceCtorEq, Int.reduceBEq, Int.reduceLT, Int.reduceLE, Int.reduceAdd, Int.reduceSub, Int.reduceEq, Int.reduceNeg, Int.reduceToNat, Int.reduceGT, Int.reduceGE, e4], by simp only [go_sem, Nat.reduceLT, Nat.reduceLeDiff, Nat.reduceEqDiff, Nat.reduceAdd, Nat.reduceSub, Nat.reduceMul, reduceCtorEq, Int.reduceBEq, Int.reduceLT, Int.reduceLE, Int.reduceAdd, Int.reduceSub, Int.reduceEq, Int.reduceNeg, Int.reduceToNat, Int.reduceGT, Int.reduceGE, wi]⟩
              have fs := S2.grow (EEY2) (lowY2)
              rw [hY2] at fs
              rw [hY1] at fs
              rw [hV] at fs
              first | exact fs | (rw [hZ] at fs; exact fs)
            · have cv : cmpV a2 b2 = 8 := by unfold cmpV; rw [if_neg q, if_neg m5, if_neg m6, if_neg s0]
              have ds : decide (sh a2.el b2.el ≠ 0) = false := decide_eq_false s0
              rw [ds] at shr
              simp only [go_sem, Nat.reduceLT, Nat.reduceLeDiff, Nat.reduceEqDiff, Nat.reduceAdd, Nat.reduceSub, Nat.reduceMul, reduceCtorEq, Int.reduceBEq, Int.reduceLT, Int.reduceLE, Int.reduceAdd, Int.reduceSub, Int.reduceEq, Int.reduceNeg, Int.reduceToNat, Int.reduceGT, Int.reduceGE, i4, i5, i6, i7, i8, e0, e3, e4, e5, wi, row0, row1, ← hX, ← hZ, ← hV, aV, bV, ga0, ga1, ga2, ga3, gb0, gb1, gb2, gb3, cmp, ca2, cb2, len2, p1, p2, p3, p4, ab1, ab2, q', cv, cY1, ← hY1, aY1, bY1, BY1.len, nle5, cY2, ← hY2, aY2, bY2, BY2.len, nle6, shr]
              refine next _ _ ⟨t2, a2, b2, v32, lid2, lb, ?_, by omega, by simp only [go_sem, Nat.reduceLT, Nat.reduceLeDiff, Nat.reduceEqDiff, Nat.reduceAdd, Nat.reduceSub, Nat.reduceMul, reduceCtorEq, Int.reduceBEq, Int.reduceLT, Int.reduceLE, Int.reduceAdd, Int.reduceSub, Int.reduceEq, Int.reduceNeg, Int.reduceToNat, Int.reduceGT, Int.reduceGE, e0], by simp only [go_sem, Nat.reduceLT, Nat.reduceLeDiff, Nat.reduceEqDiff, Nat.reduceAdd, Nat.reduceSub, Nat.reduceMul, reduceCtorEq, Int.reduceBEq, Int.reduceLT, Int.reduceLE, Int.reduceAdd, Int.reduceSub, Int.reduceEq, Int.reduceNeg, Int.reduceToNat, Int.reduceGT, Int.reduceGE, e3], by simp only [go_sem, Nat.reduceLT, Nat.reduceLeDiff, Nat.reduceEqDiff, Nat.reduceAdd, Nat.reduceSub, Nat.reduceMul, reduceCtorEq, Int.reduceBEq, Int.reduceLT, Int.reduceLE, Int.reduceAdd, Int.reduceSub, Int.reduceEq, Int.reduceNeg, Int.reduceToNat, Int.reduceGT, Int.reduceGE, e4], by simp only [go_sem, Nat.reduceLT, Nat.reduceLeDiff, Nat.reduceEqDiff, Nat.reduceAdd, Nat.reduceSub, Nat.reduceMul, reduceCtorEq, Int.reduceBEq, Int.reduceLT, Int.reduceLE, Int.reduceAdd, Int.reduceSub, Int.reduceEq, Int.reduceNeg, Int.reduceToNat, Int.reduceGT, Int.reduceGE, wi]⟩
              have fs := S2.grow (EEY2) (lowY2)
              rw [hY2] at fs
              rw [hY1] at fs
              rw [hV] at fs
              first | exact fs | (rw [hZ] at fs; exact fs)
    by_cases x1 : x = 1
    · subst x1
      by_cases ub : b.b = 0
      · have d1 : decide (b.b = 0) = true := decide_eq_true ub
        have ca := fun X => cvi (n := b.c) (by have := st.A.lt; have := st.B.lt; omega) X
        simp only [go_sem, Nat.reduceLT, Nat.reduceLeDiff, Nat.reduceEqDiff, Nat.reduceAdd, Nat.reduceSub, Nat.reduceMul, reduceCtorEq, Int.reduceBEq, Int.reduceLT, Int.reduceLE, Int.reduceAdd, Int.reduceSub, Int.reduceEq, Int.reduceNeg, Int.reduceToNat, Int.reduceGT, Int.reduceGE, S.len, e0, e3, e4, e5, c0, ea, hb', hg0, row0, row1, hk1, kg0, kg1, kg2, kg3, kg4, kg5, kg6, kg7, hkn, hkr, lenl, cu, al0, en0, Ln.cv_eq, d1, ca]
        obtain ⟨X, hX⟩ : ∃ X, X = (h'.alloc (.cells (newBlk [CV.int .u64 0, CV.int .u64 0, CV.int .u64 0, CV.int .u64 0]))).put h'.nx (.cells (((((newBlk [CV.int .u64 0, CV.int .u64 0, CV.int .u64 0, CV.int .u64 0]).st 0 (u64 (alone b t.length).c)).st 1 (u64 (alone b t.length).b)).st 2 (u64 (alone b t.length).h0)).st 3 (u64 (alone b t.length).h1))) := ⟨_, rfl⟩
        have Xnx : X.nx = h'.nx + 1 := by rw [hX]; rfl
        have Xlow : X.low = h.nx := by rw [hX]; simp only [go_sem, Nat.reduceLT, Nat.reduceLeDiff, Nat.reduceEqDiff, Nat.reduceAdd, Nat.reduceSub, Nat.reduceMul, reduceCtorEq, Int.reduceBEq, Int.reduceLT, Int.reduceLE, Int.reduceAdd, Int.reduceSub, Int.reduceEq, Int.reduceNeg, Int.reduceToNat, Int.reduceGT, Int.reduceGE, st.low]; have := st.ext.nx; omega
        have XE : Ext h' X := by rw [hX]; exact (Ext.alloc' (Ext.refl _) _).put _ (Nat.le_refl _)
        have Xi : X.blk id = some bb := (XE.blk (Nat.lt_of_lt_of_le hid st.ext.nx)).trans hb'
        have Xk : X.blk lb = some k := (XE.blk st.lines.lt).trans hk1
        have Xn : X.blk h'.nx = some (((((newBlk [CV.int .u64 0, CV.int .u64 0, CV.int .u64 0, CV.int .u64 0]).st 0 (u64 (alone b t.length).c)).st 1 (u64 (alone b t.length).b)).st 2 (u64 (alone b t.length).h0)).st 3 (u64 (alone b t.length).h1)) := by rw [hX]; simp only [go_sem, Nat.reduceLT, Nat.reduceLeDiff, Nat.reduceEqDiff, Nat.reduceAdd, Nat.reduceSub, Nat.reduceMul, reduceCtorEq, Int.reduceBEq, Int.reduceLT, Int.reduceLE, Int.reduceAdd, Int.reduceSub, Int.reduceEq, Int.reduceNeg, Int.reduceToNat, Int.reduceGT, Int.reduceGE]
        have sX := st.grow XE Xlow
        try simp only [go_sem, Nat.reduceLT, Nat.reduceLeDiff, Nat.reduceEqDiff, Nat.reduceAdd, Nat.reduceSub, Nat.reduceMul, reduceCtorEq, Int.reduceBEq, Int.reduceLT, Int.reduceLE, Int.reduceAdd, Int.reduceSub, Int.reduceEq, Int.reduceNeg, Int.reduceToNat, Int.reduceGT, Int.reduceGE, S.len, e0, e3, e4, e5, c0, ea, hb', hg0, row0, row1, hk1, kg0, kg1, kg2, kg3, kg4, kg5, kg6, kg7, hkn, hkr, lenl, cu, al0, en0, Ln.cv_eq, d1, ca, ← hX, Xi, Xk, Xn]
        refine growT (Q := Q) (X := X.alloc _) (sX.grow (Ext.alloc _ _) Xlow) (x := b.c) (by have := st.A.lt; have := st.B.lt; omega) (by omega) fun Y v32 sY hold => ?_
        have hlid : lid < h'.nx := st.lst.lt (by have := st.A.lt; omega)
        have Yi : Y.blk id = some bb := (sY.ext.blk hid).trans hb
        have Yk : Y.blk lb = some k := (hold lb (by have := st.lines.lt; simp only [go_sem, Nat.reduceLT, Nat.reduceLeDiff, Nat.reduceEqDiff, Nat.reduceAdd, Nat.reduceSub, Nat.reduceMul, reduceCtorEq, Int.reduceBEq, Int.reduceLT, Int.reduceLE, Int.reduceAdd, Int.reduceSub, Int.reduceEq, Int.reduceNeg, Int.reduceToNat, Int.reduceGT, Int.reduceGE]; omega) (fun e => st.ne e.symm)).trans (((Ext.alloc X _).blk (by have := st.lines.lt; omega)).trans Xk)
        have Yn : Y.blk h'.nx = some (((((newBlk [CV.int .u64 0, CV.int .u64 0, CV.int .u64 0, CV.int .u64 0]).st 0 (u64 (alone b t.length).c)).st 1 (u64 (alone b t.length).b)).st 2 (u64 (alone b t.length).h0)).st 3 (u64 (alone b t.length).h1)) := (hold h'.nx (by simp only [go_sem, Nat.reduceLT, Nat.reduceLeDiff, Nat.reduceEqDiff, Nat.reduceAdd, Nat.reduceSub, Nat.reduceMul, reduceCtorEq, Int.reduceBEq, Int.reduceLT, Int.reduceLE, Int.reduceAdd, Int.reduceSub, Int.reduceEq, Int.reduceNeg, Int.reduceToNat, Int.reduceGT, Int.reduceGE]; omega) (by omega)).trans (((Ext.alloc X _).blk (by omega)).trans Xn)
        simp only [go_sem, Nat.reduceLT, Nat.reduceLeDiff, Nat.reduceEqDiff, Nat.reduceAdd, Nat.reduceSub, Nat.reduceMul, reduceCtorEq, Int.reduceBEq, Int.reduceLT, Int.reduceLE, Int.reduceAdd, Int.reduceSub, Int.reduceEq, Int.reduceNeg, Int.reduceToNat, Int.reduceGT, Int.reduceGE, S.len, e0, e3, e4, e5, c0, ea, hb', hg0, row0, row1, hk1, kg0, kg1, kg2, kg3, kg4, kg5, kg6, kg7, hkn, hkr, lenl, cu, al0, en0, Ln.cv_eq, d1, ca, ← hX, Yi, Yk, Yn]
        refine cnd_go (Q := Q) (by kernel_rfl) ?_
        simp only [go_sem, Nat.reduceLT, Nat.reduceLeDiff, Nat.reduceEqDiff, Nat.reduceAdd, Nat.reduceSub, Nat.reduceMul, reduceCtorEq, Int.reduceBEq, Int.reduceLT, Int.reduceLE, Int.reduceAdd, Int.reduceSub, Int.reduceEq, Int.reduceNeg, Int.reduceToNat, Int.reduceGT, Int.reduceGE, S.len, e0, e3, e4, e5, c0, ea, hb', hg0, row0, row1, hk1, kg0, kg1, kg2, kg3, kg4, kg5, kg6, kg7, hkn, hkr, lenl, cu, al0, en0, Ln.cv_eq, d1, ca, ← hX, Yi, Yk, Yn]
        refine cnd_go (Q := Q) (by kernel_rfl) ?_
        refine quiet_go (Q := Q) (by kernel_rfl) ?_
        simp only [go_sem, Nat.reduceLT, Nat.reduceLeDiff, Nat.reduceEqDiff, Nat.reduceAdd, Nat.reduceSub, Nat.reduceMul, reduceCtorEq, Int.reduceBEq, Int.reduceLT, Int.reduceLE, Int.reduceAdd, Int.reduceSub, Int.reduceEq, Int.reduceNeg, Int.reduceToNat, Int.reduceGT, Int.reduceGE, S.len, e0, e3, e4, e5, c0, ea, hb', hg0, row0, row1, hk1, kg0, kg1, kg2, kg3, kg4, kg5, kg6, kg7, hkn, hkr, lenl, cu, al0, en0, Ln.cv_eq, d1, ca, ← hX, Yi, Yk, Yn]
        obtain ⟨Z, hZ⟩ : ∃ Z, Z = Y.put lb (.cells ((((k.st 4 (u64 (alone b t.length).c)).st 5 (u64 (alone b t.length).b)).st 6 (u64 (alone b t.length).h0)).st 7 (u64 (alone b t.length).h1))) := ⟨_, rfl⟩
        obtain ⟨a2, ha2⟩ : ∃ a2, a2 = a := ⟨_, rfl⟩
        obtain ⟨b2, hb2⟩ : ∃ b2, b2 = alone b t.length := ⟨_, rfl⟩
        obtain ⟨t2, ht2⟩ : ∃ t2, t2 = t ++ [b.c] := ⟨_, rfl⟩
        obtain ⟨lid2, hl2⟩ : ∃ l, l = (X.alloc (.cells ({ n := 1, d := [CV.int IntKind.i64 0], t := T.nil, ro := false : Blk }))).nx := ⟨_, rfl⟩
        have htl : t2.length = t.length + 1 := by rw [ht2]; simp
        have S2 : Sta h Z t2 a2 b2 v32 lid2 lb := by
          rw [hZ, ha2, hb2, ht2, hl2]
          exact sY.put (by simp only [go_sem, Nat.reduceLT, Nat.reduceLeDiff, Nat.reduceEqDiff, Nat.reduceAdd, Nat.reduceSub, Nat.reduceMul, reduceCtorEq, Int.reduceBEq, Int.reduceLT, Int.reduceLE, Int.reduceAdd, Int.reduceSub, Int.reduceEq, Int.reduceNeg, Int.reduceToNat, Int.reduceGT, Int.reduceGE, hkn]) (by simp only [go_sem, Nat.reduceLT, Nat.reduceLeDiff, Nat.reduceEqDiff, Nat.reduceAdd, Nat.reduceSub, Nat.reduceMul, reduceCtorEq, Int.reduceBEq, Int.reduceLT, Int.reduceLE, Int.reduceAdd, Int.reduceSub, Int.reduceEq, Int.reduceNeg, Int.reduceToNat, Int.reduceGT, Int.reduceGE, hkr]) (l8_set1 hkn hkg) (st.A.app st.tree _) (st.B.alone st.tree ub)
        obtain ⟨k2, hk2, hk2n, hk2r, hk2g⟩ := S2.lines.bk
        have kh0 := hk2g 0
        have kh1 := hk2g 1
        have kh2 := hk2g 2
        have kh3 := hk2g 3
        have kh4 := hk2g 4
        have kh5 := hk2g 5
        have kh6 := hk2g 6
        have kh7 := hk2g 7
        simp only [l8, nth] at kh0 kh1 kh2 kh3 kh4 kh5 kh6 kh7
        have hlb2 := S2.lines.lt
        have hne1 : lb ≠ Z.nx := by omega
        have hne2 : lb ≠ Z.nx + 1 := by omega
        refine cnd_go (Q := Q) (by kernel_rfl) ?_
        simp only [go_sem, Nat.reduceLT, Nat.reduceLeDiff, Nat.reduceEqDiff, Nat.reduceAdd, Nat.reduceSub, Nat.reduceMul, reduceCtorEq, Int.reduceBEq, Int.reduceLT, Int.reduceLE, Int.reduceAdd, Int.reduceSub, Int.reduceEq, Int.reduceNeg, Int.reduceToNat, Int.reduceGT, Int.reduceGE, e0, e3, e4, e5, wi, row0, row1, ← hX, ← hZ, hk2, kh0, kh1, kh2, kh3, kh4, kh5, kh6, kh7, hlb2, hne1, hne2]
        refine cnd_goF (Q := Q) (by kernel_rfl) ?_
        refine cnd_go' (Q := Q) (by kernel_rfl) ?_
        refine cnd_go' (Q := Q) ?_ ?_
        · rw [show leadN _ _ = 2 from by kernel_rfl]
          simp only [go_sem, Nat.reduceLT, Nat.reduceLeDiff, Nat.reduceEqDiff, Nat.reduceAdd, Nat.reduceSub, Nat.reduceMul, reduceCtorEq, Int.reduceBEq, Int.reduceLT, Int.reduceLE, Int.reduceAdd, Int.reduceSub, Int.reduceEq, Int.reduceNeg, Int.reduceToNat, Int.reduceGT, Int.reduceGE, List.take_succ_cons, List.take_zero, leadH_blk, leadH_gn, leadH_nx, ids_ptr, ids_4, beqC_4, leadId_lt, e0, e3, e4, e5, wi, row0, row1, ← hX, ← hZ, hk2, kh0, kh1, kh2, kh3, kh4, kh5, kh6, kh7, hlb2, hne1, hne2]
        simp only [go_sem, Nat.reduceLT, Nat.reduceLeDiff, Nat.reduceEqDiff, Nat.reduceAdd, Nat.reduceSub, Nat.reduceMul, reduceCtorEq, Int.reduceBEq, Int.reduceLT, Int.reduceLE, Int.reduceAdd, Int.reduceSub, Int.reduceEq, Int.reduceNeg, Int.reduceToNat, Int.reduceGT, Int.reduceGE, e0, e3, e4, e5, wi, row0, row1, ← hX, ← hZ, hk2, kh0, kh1, kh2, kh3, kh4, kh5, kh6, kh7, hlb2, hne1, hne2]
        obtain ⟨ka, hka⟩ : ∃ k, k = (((((newBlk [CV.int .u64 0, CV.int .u64 0, CV.int .u64 0, CV.int .u64 0]).st 0 (u64 a2.c)).st 1 (u64 a2.b)).st 2 (u64 a2.h0)).st 3 (u64 a2.h1)) := ⟨_, rfl⟩
        obtain ⟨kb, hkb⟩ : ∃ k, k = (((((newBlk [CV.int .u64 0, CV.int .u64 0, CV.int .u64 0, CV.int .u64 0]).st 0 (u64 b2.c)).st 1 (u64 b2.b)).st 2 (u64 b2.h0)).st 3 (u64 b2.h1)) := ⟨_, rfl⟩
        obtain ⟨V, hV⟩ : ∃ V, V = (((Z.alloc (.cells (newBlk [CV.int .u64 0, CV.int .u64 0, CV.int .u64 0, CV.int .u64 0]))).alloc (.cells (newBlk [CV.int .u64 0, CV.int .u64 0, CV.int .u64 0, CV.int .u64 0]))).put Z.nx (.cells (((((newBlk [CV.int .u64 0, CV.int .u64 0, CV.int .u64 0, CV.int .u64 0]).st 0 (u64 a2.c)).st 1 (u64 a2.b)).st 2 (u64 a2.h0)).st 3 (u64 a2.h1)))).put (Z.nx + 1) (.cells (((((newBlk [CV.int .u64 0, CV.int .u64 0, CV.int .u64 0, CV.int .u64 0]).st 0 (u64 b2.c)).st 1 (u64 b2.b)).st 2 (u64 b2.h0)).st 3 (u64 b2.h1))) := ⟨_, rfl⟩
        have VE : Ext Z V := by rw [hV]; exact (((Ext.alloc' (Ext.alloc' (Ext.refl _) _) _).put _ (Nat.le_refl _)).put _ (by omega))
        have Vnx : V.nx = Z.nx + 2 := by rw [hV]; rfl
        have nxV : Z.nx + 2 ≤ V.nx := by omega
        have lowV : V.low = h.nx := by rw [hV]; simp only [go_sem, Nat.reduceLT, Nat.reduceLeDiff, Nat.reduceEqDiff, Nat.reduceAdd, Nat.reduceSub, Nat.reduceMul, reduceCtorEq, Int.reduceBEq, Int.reduceLT, Int.reduceLE, Int.reduceAdd, Int.reduceSub, Int.reduceEq, Int.reduceNeg, Int.reduceToNat, Int.reduceGT, Int.reduceGE, S2.low]; have := S2.ext.nx; omega
        have aV : V.blk Z.nx = some ka := by rw [hV, hka]; simp only [go_sem, Nat.reduceLT, Nat.reduceLeDiff, Nat.reduceEqDiff, Nat.reduceAdd, Nat.reduceSub, Nat.reduceMul, reduceCtorEq, Int.reduceBEq, Int.reduceLT, Int.reduceLE, Int.reduceAdd, Int.reduceSub, Int.reduceEq, Int.reduceNeg, Int.reduceToNat, Int.reduceGT, Int.reduceGE, ne_succ]
        have bV : V.blk (Z.nx + 1) = some kb := by rw [hV, hkb]; simp only [go_sem, Nat.reduceLT, Nat.reduceLeDiff, Nat.reduceEqDiff, Nat.reduceAdd, Nat.reduceSub, Nat.reduceMul, reduceCtorEq, Int.reduceBEq, Int.reduceLT, Int.reduceLE, Int.reduceAdd, Int.reduceSub, Int.reduceEq, Int.reduceNeg, Int.reduceToNat, Int.reduceGT, Int.reduceGE]
        have ga0 : ka.get 0 = some (u64 a2.c) := by rw [hka]; simp only [go_sem, Nat.reduceLT, Nat.reduceLeDiff, Nat.reduceEqDiff, Nat.reduceAdd, Nat.reduceSub, Nat.reduceMul, reduceCtorEq, Int.reduceBEq, Int.reduceLT, Int.reduceLE, Int.reduceAdd, Int.reduceSub, Int.reduceEq, Int.reduceNeg, Int.reduceToNat, Int.reduceGT, Int.reduceGE]
        have ga1 : ka.get 1 = some (u64 a2.b) := by rw [hka]; simp only [go_sem, Nat.reduceLT, Nat.reduceLeDiff, Nat.reduceEqDiff, Nat.reduceAdd, Nat.reduceSub, Nat.reduceMul, reduceCtorEq, Int.reduceBEq, Int.reduceLT, Int.reduceLE, Int.reduceAdd, Int.reduceSub, Int.reduceEq, Int.reduceNeg, Int.reduceToNat, Int.reduceGT, Int.reduceGE]
        have ga2 : ka.get 2 = some (u64 a2.h0) := by rw [hka]; simp only [go_sem, Nat.reduceLT, Nat.reduceLeDiff, Nat.reduceEqDiff, Nat.reduceAdd, Nat.reduceSub, Nat.reduceMul, reduceCtorEq, Int.reduceBEq, Int.reduceLT, Int.reduceLE, Int.reduceAdd, Int.reduceSub, Int.reduceEq, Int.reduceNeg, Int.reduceToNat, Int.reduceGT, Int.reduceGE]
        have ga3 : ka.get 3 = some (u64 a2.h1) := by rw [hka]; simp only [go_sem, Nat.reduceLT, Nat.reduceLeDiff, Nat.reduceEqDiff, Nat.reduceAdd, Nat.reduceSub, Nat.reduceMul, reduceCtorEq, Int.reduceBEq, Int.reduceLT, Int.reduceLE, Int.reduceAdd, Int.reduceSub, Int.reduceEq, Int.reduceNeg, Int.reduceToNat, Int.reduceGT, Int.reduceGE]
        have gb0 : kb.get 0 = some (u64 b2.c) := by rw [hkb]; simp only [go_sem, Nat.reduceLT, Nat.reduceLeDiff, Nat.reduceEqDiff, Nat.reduceAdd, Nat.reduceSub, Nat.reduceMul, reduceCtorEq, Int.reduceBEq, Int.reduceLT, Int.reduceLE, Int.reduceAdd, Int.reduceSub, Int.reduceEq, Int.reduceNeg, Int.reduceToNat, Int.reduceGT, Int.reduceGE]
        have gb1 : kb.get 1 = some (u64 b2.b) := by rw [hkb]; simp only [go_sem, Nat.reduceLT, Nat.reduceLeDiff, Nat.reduceEqDiff, Nat.reduceAdd, Nat.reduceSub, Nat.reduceMul, reduceCtorEq, Int.reduceBEq, Int.reduceLT, Int.reduceLE, Int.reduceAdd, Int.reduceSub, Int.reduceEq, Int.reduceNeg, Int.reduceToNat, Int.reduceGT, Int.reduceGE]
        have gb2 : kb.get 2 = some (u64 b2.h0) := by rw [hkb]; simp only [go_sem, Nat.reduceLT, Nat.reduceLeDiff, Nat.reduceEqDiff, Nat.reduceAdd, Nat.reduceSub, Nat.reduceMul, reduceCtorEq, Int.reduceBEq, Int.reduceLT, Int.reduceLE, Int.reduceAdd, Int.reduceSub, Int.reduceEq, Int.reduceNeg, Int.reduceToNat, Int.reduceGT, Int.reduceGE]
        have gb3 : kb.get 3 = some (u64 b2.h1) := by rw [hkb]; simp only [go_sem, Nat.reduceLT, Nat.reduceLeDiff, Nat.reduceEqDiff, Nat.reduceAdd, Nat.reduceSub, Nat.reduceMul, reduceCtorEq, Int.reduceBEq, Int.reduceLT, Int.reduceLE, Int.reduceAdd, Int.reduceSub, Int.reduceEq, Int.reduceNeg, Int.reduceToNat, Int.reduceGT, Int.reduceGE]
        have pa := S2.A.pos
        have pb := S2.B.pos
        have la2 := S2.A.lt
        have lb2 := S2.B.lt
        have cmp : ∀ Y, (lim Try.prog σ).call 23 [.agg [u64 a2.c, u64 a2.b, u64 a2.h0, u64 a2.h1], .agg [u64 b2.c, u64 b2.b, u64 b2.h0, u64 b2.h1]] Y = some (.int .i64 (Int.ofNat (cmpV a2 b2)), none) := fun Y => compare_run hσ Y a2 b2 (by omega) (by omega)
        have ca2 := fun X => cvi (n := a2.c) (by omega) X
        have cb2 := fun X => cvi (n := b2.c) (by omega) X
        have BV : TL V v32 t2 := S2.tl.ext VE
        have len2 := fun h' ts az => BV.len h' ts az
        have p1 : ¬ Int.ofNat a2.c < 1 := by show ¬ (a2.c : Int) < 1; omega
        have p2 : ¬ Int.ofNat b2.c < 1 := by show ¬ (b2.c : Int) < 1; omega
        have p3 : ¬ Int.ofNat a2.c ≥ Int.ofNat t2.length := by show ¬ (a2.c : Int) ≥ (t2.length : Int); omega
        have p4 : ¬ Int.ofNat b2.c ≥ Int.ofNat t2.length := by show ¬ (b2.c : Int) ≥ (t2.length : Int); omega
        obtain ⟨far, up, r1, hf1, ab1'⟩ := above_run hσ BV S2.tree (by omega) a2.c b2.c pa lb2
        obtain ⟨way, down, r2, hf2, ab2'⟩ := above_run hσ BV S2.tree (by omega) b2.c a2.c pb la2
        have ab1 : (lim Try.prog σ).call 24 [v32, .int .i64 (Int.ofNat a2.c), .int .i64 (Int.ofNat b2.c)] V = _ := ab1'
        have ab2 : (lim Try.prog σ).call 24 [v32, .int .i64 (Int.ofNat b2.c), .int .i64 (Int.ofNat a2.c)] V = _ := ab2'
        simp only [go_sem, Nat.reduceLT, Nat.reduceLeDiff, Nat.reduceEqDiff, Nat.reduceAdd, Nat.reduceSub, Nat.reduceMul, reduceCtorEq, Int.reduceBEq, Int.reduceLT, Int.reduceLE, Int.reduceAdd, Int.reduceSub, Int.reduceEq, Int.reduceNeg, Int.reduceToNat, Int.reduceGT, Int.reduceGE, i4, i5, i6, i7, i8, e0, e3, e4, e5, wi, row0, row1, ← hX, ← hZ, ← hV, aV, bV, ga0, ga1, ga2, ga3, gb0, gb1, gb2, gb3, cmp, ca2, cb2, len2, p1, p2, p3, p4, ab1, ab2]
        refine cnd_go (Q := Q) (by kernel_rfl) ?_
        simp only [go_sem, Nat.reduceLT, Nat.reduceLeDiff, Nat.reduceEqDiff, Nat.reduceAdd, Nat.reduceSub, Nat.reduceMul, reduceCtorEq, Int.reduceBEq, Int.reduceLT, Int.reduceLE, Int.reduceAdd, Int.reduceSub, Int.reduceEq, Int.reduceNeg, Int.reduceToNat, Int.reduceGT, Int.reduceGE, i4, i5, i6, i7, i8, e0, e3, e4, e5, wi, row0, row1, ← hX, ← hZ, ← hV, aV, bV, ga0, ga1, ga2, ga3, gb0, gb1, gb2, gb3, cmp, ca2, cb2, len2, p1, p2, p3, p4, ab1, ab2]
        by_cases q : a2.c = b2.c
        · have q' : Int.ofNat a2.c = Int.ofNat b2.c := congrArg _ q
          have cv : cmpV a2 b2 = 4 := if_pos q
          simp only [go_sem, Nat.reduceLT, Nat.reduceLeDiff, Nat.reduceEqDiff, Nat.reduceAdd, Nat.reduceSub, Nat.reduceMul, reduceCtorEq, Int.reduceBEq, Int.reduceLT, Int.reduceLE, Int.reduceAdd, Int.reduceSub, Int.reduceEq, Int.reduceNeg, Int.reduceToNat, Int.reduceGT, Int.reduceGE, i4, i5, i6, i7, i8, e0, e3, e4, e5, wi, row0, row1, ← hX, ← hZ, ← hV, aV, bV, ga0, ga1, ga2, ga3, gb0, gb1, gb2, gb3, cmp, ca2, cb2, len2, p1, p2, p3, p4, ab1, ab2, q', cv]
          refine next _ _ ⟨t2, a2, b2, v32, lid2, lb, ?_, by omega, by simp only [go_sem, Nat.reduceLT, Nat.reduceLeDiff, Nat.reduceEqDiff, Nat.reduceAdd, Nat.reduceSub, Nat.reduceMul, reduceCtorEq, Int.reduceBEq, Int.reduceLT, Int.reduceLE, Int.reduceAdd, Int.reduceSub, Int.reduceEq, Int.reduceNeg, Int.reduceToNat, Int.reduceGT, Int.reduceGE, e0], by simp only [go_sem, Nat.reduceLT, Nat.reduceLeDiff, Nat.reduceEqDiff, Nat.reduceAdd, Nat.reduceSub, Nat.reduceMul, reduceCtorEq, Int.reduceBEq, Int.reduceLT, Int.reduceLE, Int.reduceAdd, Int.reduceSub, Int.reduceEq, Int.reduceNeg, Int.reduceToNat, Int.reduceGT, Int.reduceGE, e3], by simp only [go_sem, Nat.reduceLT, Nat.reduceLeDiff, Nat.reduceEqDiff, Nat.reduceAdd, Nat.reduceSub, Nat.reduceMul, reduceCtorEq, Int.reduceBEq, Int.reduceLT, Int.reduceLE, Int.reduceAdd, Int.reduceSub, Int.reduceEq, Int.reduceNeg, Int.reduceToNat, Int.reduceGT, Int.reduceGE, e4], by simp only [go_sem, Nat.reduceLT, Nat.reduceLeDiff, Nat.reduceEqDiff, Nat.reduceAdd, Nat.reduceSub, Nat.reduceMul, reduceCtorEq, Int.reduceBEq, Int.reduceLT, Int.reduceLE, Int.reduceAdd, Int.reduceSub, Int.reduceEq, Int.reduceNeg, Int.reduceToNat, Int.reduceGT, Int.reduceGE, wi]⟩
          have fs := S2.grow (VE) (lowV)
          rw [hV] at fs
          first | exact fs | (rw [hZ] at fs; exact fs)
        have q' : ¬ Int.ofNat a2.c = Int.ofNat b2.c := fun e => q (Int.ofNat.inj e)
        have M5 := mem_iff S2.tree S2.B pa q r1
        have M6 := mem_iff S2.tree S2.A pb (fun e => q e.symm) r2
        by_cases m5 : a2.c ∈ b2.el
        · obtain ⟨u1, u2⟩ := M5.1 m5
          subst u1
          have cv : cmpV a2 b2 = 5 := by unfold cmpV; rw [if_neg q, if_pos m5]
          have le5 : Int.ofNat far ≤ Int.ofNat b2.el.length := by show (far : Int) ≤ _; exact Int.ofNat_le.2 u2
          obtain ⟨vY1, xY1, eY1, BY1, EY1, lY1⟩ := elder_c hσ (X := V) (by have := (VE).nx; have := S2.ext.nx; omega) b2
          obtain ⟨Y1, hY1⟩ : ∃ Y', Y' = xY1.getD V := ⟨_, rfl⟩
          rw [← hY1] at BY1 EY1 lY1
          have cY1 : (lim Try.prog σ).call 25 [.agg [u64 b2.c, u64 b2.b, u64 b2.h0, u64 b2.h1]] V = some (vY1, xY1) := eY1
          have aY1 : Y1.blk Z.nx = some ka := (EY1.blk (by omega)).trans aV
          have bY1 : Y1.blk (Z.nx + 1) = some kb := (EY1.blk (by omega)).trans bV
          have nxY1 : Z.nx + 2 ≤ Y1.nx := by have := EY1.nx; omega
          have EEY1 : Ext Z Y1 := (VE).trans EY1
          have lowY1 : Y1.low = h.nx := by rw [lY1, lowV]
          simp only [go_sem, Nat.reduceLT, Nat.reduceLeDiff, Nat.reduceEqDiff, Nat.reduceAdd, Nat.reduceSub, Nat.reduceMul, reduceCtorEq, Int.reduceBEq, Int.reduceLT, Int.reduceLE, Int.reduceAdd, Int.reduceSub, Int.reduceEq, Int.reduceNeg, Int.reduceToNat, Int.reduceGT, Int.reduceGE, i4, i5, i6, i7, i8, e0, e3, e4, e5, wi, row0, row1, ← hX, ← hZ, ← hV, aV, bV, ga0, ga1, ga2, ga3, gb0, gb1, gb2, gb3, cmp, ca2, cb2, len2, p1, p2, p3, p4, ab1, ab2, q', cv, cY1, ← hY1, aY1, bY1, BY1.len, le5]
          refine next _ _ ⟨t2, a2, b2, v32, lid2, lb, ?_, by omega, by simp only [go_sem, Nat.reduceLT, Nat.reduceLeDiff, Nat.reduceEqDiff, Nat.reduceAdd, Nat.reduceSub, Nat.reduceMul, reduceCtorEq, Int.reduceBEq, Int.reduceLT, Int.reduceLE, Int.reduceAdd, Int.reduceSub, Int.reduceEq, Int.reduceNeg, Int.reduceToNat, Int.reduceGT, Int.reduceGE, e0], by simp only [go_sem, Nat.reduceLT, Nat.reduceLeDiff, Nat.reduceEqDiff, Nat.reduceAdd, Nat.reduceSub, Nat.reduceMul, reduceCtorEq, Int.reduceBEq, Int.reduceLT, Int.reduceLE, Int.reduceAdd, Int.reduceSub, Int.reduceEq, Int.reduceNeg, Int.reduceToNat, Int.reduceGT, Int.reduceGE, e3], by simp only [go_sem, Nat.reduceLT, Nat.reduceLeDiff, Nat.reduceEqDiff, Nat.reduceAdd, Nat.reduceSub, Nat.reduceMul, reduceCtorEq, Int.reduceBEq, Int.reduceLT, Int.reduceLE, Int.reduceAdd, Int.reduceSub, Int.reduceEq, Int.reduceNeg, Int.reduceToNat, Int.reduceGT, Int.reduceGE, e4], by simp only [go_sem, Nat.reduceLT, Nat.reduceLeDiff, Nat.reduceEqDiff, Nat.reduceAdd, Nat.reduceSub, Nat.reduceMul, reduceCtorEq, Int.reduceBEq, Int.reduceLT, Int.reduceLE, Int.reduceAdd, Int.reduceSub, Int.reduceEq, Int.reduceNeg, Int.reduceToNat, Int.reduceGT, Int.reduceGE, wi]⟩
          have fs := S2.grow (EEY1) (lowY1)
          rw [hY1] at fs
          rw [hV] at fs
          first | exact fs | (rw [hZ] at fs; exact fs)
        cases up
        · by_cases m6 : b2.c ∈ a2.el
          · obtain ⟨u1, u2⟩ := M6.1 m6
            subst u1
            have cv : cmpV a2 b2 = 6 := by unfold cmpV; rw [if_neg q, if_neg m5, if_pos m6]
            have le6 : Int.ofNat way ≤ Int.ofNat a2.el.length := by show (way : Int) ≤ _; exact Int.ofNat_le.2 u2
            obtain ⟨vY2, xY2, eY2, BY2, EY2, lY2⟩ := elder_c hσ (X := V) (by have := (VE).nx; have := S2.ext.nx; omega) a2
            obtain ⟨Y2, hY2⟩ : ∃ Y', Y' = xY2.getD V := ⟨_, rfl⟩
            rw [← hY2] at BY2 EY2 lY2
            have cY2 : (lim Try.prog σ).call 25 [.agg [u64 a2.c, u64 a2.b, u64 a2.h0, u64 a2.h1]] V = some (vY2, xY2) := eY2
            have aY2 : Y2.blk Z.nx = some ka := (EY2.blk (by omega)).trans aV
            have bY2 : Y2.blk (Z.nx + 1) = some kb := (EY2.blk (by omega)).trans bV
            have nxY2 : Z.nx + 2 ≤ Y2.nx := by have := EY2.nx; omega
            have EEY2 : Ext Z Y2 := (VE).trans EY2
            have lowY2 : Y2.low = h.nx := by rw [lY2, lowV]
            simp only [go_sem, Nat.reduceLT, Nat.reduceLeDiff, Nat.reduceEqDiff, Nat.reduceAdd, Nat.reduceSub, Nat.reduceMul, reduceCtorEq, Int.reduceBEq, Int.reduceLT, Int.reduceLE, Int.reduceAdd, Int.reduceSub, Int.reduceEq, Int.reduceNeg, Int.reduceToNat, Int.reduceGT, Int.reduceGE, i4, i5, i6, i7, i8, e0, e3, e4, e5, wi, row0, row1, ← hX, ← hZ, ← hV, aV, bV, ga0, ga1, ga2, ga3, gb0, gb1, gb2, gb3, cmp, ca2, cb2, len2, p1, p2, p3, p4, ab1, ab2, q', cv, cY2, ← hY2, aY2, bY2, BY2.len, le6]
            refine next _ _ ⟨t2, a2, b2, v32, lid2, lb, ?_, by omega, by simp only [go_sem, Nat.reduceLT, Nat.reduceLeDiff, Nat.reduceEqDiff, Nat.reduceAdd, Nat.reduceSub, Nat.reduceMul, reduceCtorEq, Int.reduceBEq, Int.reduceLT, Int.reduceLE, Int.reduceAdd, Int.reduceSub, Int.reduceEq, Int.reduceNeg, Int.reduceToNat, Int.reduceGT, Int.reduceGE, e0], by simp only [go_sem, Nat.reduceLT, Nat.reduceLeDiff, Nat.reduceEqDiff, Nat.reduceAdd, Nat.reduceSub, Nat.reduceMul, reduceCtorEq, Int.reduceBEq, Int.reduceLT, Int.reduceLE, Int.reduceAdd, Int.reduceSub, Int.reduceEq, Int.reduceNeg, Int.reduceToNat, Int.reduceGT, Int.reduceGE, e3], by simp only [go_sem, Nat.reduceLT, Nat.reduceLeDiff, Nat.reduceEqDiff, Nat.reduceAdd, Nat.reduceSub, Nat.reduceMul, reduceCtorEq, Int.reduceBEq, Int.reduceLT, Int.reduceLE, Int.reduceAdd, Int.reduceSub, Int.reduceEq, Int.reduceNeg, Int.reduceToNat, Int.reduceGT, Int.reduceGE, e4], by simp only [go_sem, Nat.reduceLT, Nat.reduceLeDiff, Nat.reduceEqDiff, Nat.reduceAdd, Nat.reduceSub, Nat.reduceMul, reduceCtorEq, Int.reduceBEq, Int.reduceLT, Int.reduceLE, Int.reduceAdd, Int.reduceSub, Int.reduceEq, Int.reduceNeg, Int.reduceToNat, Int.reduceGT, Int.reduceGE, wi]⟩
            have fs := S2.grow (EEY2) (lowY2)
            rw [hY2] at fs
            rw [hV] at fs
            first | exact fs | (rw [hZ] at fs; exact fs)
          cases down
          · have shr : (lim Try.prog σ).call 26 [v32, .agg [u64 a2.c, u64 a2.b, u64 a2.h0, u64 a2.h1], .agg [u64 b2.c, u64 b2.b, u64 b2.h0, u64 b2.h1]] V = some (.bool (decide (sh a2.el b2.el ≠ 0)), none) := lshared_run hσ (S2.tl.ext VE) S2.tree (by omega) a2 b2 la2 lb2 S2.A.ch S2.B.ch
            by_cases s0 : sh a2.el b2.el ≠ 0
            · have cv : cmpV a2 b2 = 7 := by unfold cmpV; rw [if_neg q, if_neg m5, if_neg m6, if_pos s0]
              have ds : decide (sh a2.el b2.el ≠ 0) = true := decide_eq_true s0
              rw [ds] at shr
              simp only [go_sem, Nat.reduceLT, Nat.reduceLeDiff, Nat.reduceEqDiff, Nat.reduceAdd, Nat.reduceSub, Nat.reduceMul, reduceCtorEq, Int.reduceBEq, Int.reduceLT, Int.reduceLE, Int.reduceAdd, Int.reduceSub, Int.reduceEq, Int.reduceNeg, Int.reduceToNat, Int.reduceGT, Int.reduceGE, i4, i5, i6, i7, i8, e0, e3, e4, e5, wi, row0, row1, ← hX, ← hZ, ← hV, aV, bV, ga0, ga1, ga2, ga3, gb0, gb1, gb2, gb3, cmp, ca2, cb2, len2, p1, p2, p3, p4, ab1, ab2, q', cv, shr]
              refine next _ _ ⟨t2, a2, b2, v32, lid2, lb, ?_, by omega, by simp only [go_sem, Nat.reduceLT, Nat.reduceLeDiff, Nat.reduceEqDiff, Nat.reduceAdd, Nat.reduceSub, Nat.reduceMul, reduceCtorEq, Int.reduceBEq, Int.reduceLT, Int.reduceLE, Int.reduceAdd, Int.reduceSub, Int.reduceEq, Int.reduceNeg, Int.reduceToNat, Int.reduceGT, Int.reduceGE, e0], by simp only [go_sem, Nat.reduceLT, Nat.reduceLeDiff, Nat.reduceEqDiff, Nat.reduceAdd, Nat.reduceSub, Nat.reduceMul, reduceCtorEq, Int.reduceBEq, Int.reduceLT, Int.reduceLE, Int.reduceAdd, Int.reduceSub, Int.reduceEq, Int.reduceNeg, Int.reduceToNat, Int.reduceGT, Int.reduceGE, e3], by simp only [go_sem, Nat.reduceLT, Nat.reduceLeDiff, Nat.reduceEqDiff, Nat.reduceAdd, Nat.reduceSub, Nat.reduceMul, reduceCtorEq, Int.reduceBEq, Int.reduceLT, Int.reduceLE, Int.reduceAdd, Int.reduceSub, Int.reduceEq, Int.reduceNeg, Int.reduceToNat, Int.reduceGT, Int.reduceGE, e4], by simp only [go_sem, Nat.reduceLT, Nat.reduceLeDiff, Nat.reduceEqDiff, Nat.reduceAdd, Nat.reduceSub, Nat.reduceMul, reduceCtorEq, Int.reduceBEq, Int.reduceLT, Int.reduceLE, Int.reduceAdd, Int.reduceSub, Int.reduceEq, Int.reduceNeg, Int.reduceToNat, Int.reduceGT, Int.reduceGE, wi]⟩
              have fs := S2.grow (VE) (lowV)
              rw [hV] at fs
              first | exact fs | (rw [hZ] at fs; exact fs)
            · have cv : cmpV a2 b2 = 8 := by unfold cmpV; rw [if_neg q, if_neg m5, if_neg m6, if_neg s0]
              have ds : decide (sh a2.el b2.el ≠ 0) = false := decide_eq_false s0
              rw [ds] at shr
              simp only [go_sem, Nat.reduceLT, Nat.reduceLeDiff, Nat.reduceEqDiff, Nat.reduceAdd, Nat.reduceSub, Nat.reduceMul, reduceCtorEq, Int.reduceBEq, Int.reduceLT, Int.reduceLE, Int.reduceAdd, Int.reduceSub, Int.reduceEq, Int.reduceNeg, Int.reduceToNat, Int.reduceGT, Int.reduceGE, i4, i5, i6, i7, i8, e0, e3, e4, e5, wi, row0, row1, ← hX, ← hZ, ← hV, aV, bV, ga0, ga1, ga2, ga3, gb0, gb1, gb2, gb3, cmp, ca2, cb2, len2, p1, p2, p3, p4, ab1, ab2, q', cv, shr]
              refine next _ _ ⟨t2, a2, b2, v32, lid2, lb, ?_, by omega, by simp only [go_sem, Nat.reduceLT, Nat.reduceLeDiff, Nat.reduceEqDiff, Nat.reduceAdd, Nat.reduceSub, Nat.reduceMul, reduceCtorEq, Int.reduceBEq, Int.reduceLT, Int.reduceLE, Int.reduceAdd, Int.reduceSub, Int.reduceEq, Int.reduceNeg, Int.reduceToNat, Int.reduceGT, Int.reduceGE, e0], by simp only [go_sem, Nat.reduceLT, Nat.reduceLeDiff, Nat.reduceEqDiff, Nat.reduceAdd, Nat.reduceSub, Nat.reduceMul, reduceCtorEq, Int.reduceBEq, Int.reduceLT, Int.reduceLE, Int.reduceAdd, Int.reduceSub, Int.reduceEq, Int.reduceNeg, Int.reduceToNat, Int.reduceGT, Int.reduceGE, e3], by simp only [go_sem, Nat.reduceLT, Nat.reduceLeDiff, Nat.reduceEqDiff, Nat.reduceAdd, Nat.reduceSub, Nat.reduceMul, reduceCtorEq, Int.reduceBEq, Int.reduceLT, Int.reduceLE, Int.reduceAdd, Int.reduceSub, Int.reduceEq, Int.reduceNeg, Int.reduceToNat, Int.reduceGT, Int.reduceGE, e4], by simp only [go_sem, Nat.reduceLT, Nat.reduceLeDiff, Nat.reduceEqDiff, Nat.reduceAdd, Nat.reduceSub, Nat.reduceMul, reduceCtorEq, Int.reduceBEq, Int.reduceLT, Int.reduceLE, Int.reduceAdd, Int.reduceSub, Int.reduceEq, Int.reduceNeg, Int.reduceToNat, Int.reduceGT, Int.reduceGE, wi]⟩
              have fs := S2.grow (VE) (lowV)
              rw [hV] at fs
              first | exact fs | (rw [hZ] at fs; exact fs)
          · obtain ⟨vY2, xY2, eY2, BY2, EY2, lY2⟩ := elder_c hσ (X := V) (by have := (VE).nx; have := S2.ext.nx; omega) a2
            obtain ⟨Y2, hY2⟩ : ∃ Y', Y' = xY2.getD V := ⟨_, rfl⟩
            rw [← hY2] at BY2 EY2 lY2
            have cY2 : (lim Try.prog σ).call 25 [.agg [u64 a2.c, u64 a2.b, u64 a2.h0, u64 a2.h1]] V = some (vY2, xY2) := eY2
            have aY2 : Y2.blk Z.nx = some ka := (EY2.blk (by omega)).trans aV
            have bY2 : Y2.blk (Z.nx + 1) = some kb := (EY2.blk (by omega)).trans bV
            have nxY2 : Z.nx + 2 ≤ Y2.nx := by have := EY2.nx; omega
            have EEY2 : Ext Z Y2 := (VE).trans EY2
            have lowY2 : Y2.low = h.nx := by rw [lY2, lowV]
            have nle6 : ¬ Int.ofNat way ≤ Int.ofNat a2.el.length := fun e => m6 (M6.2 ⟨rfl, Int.ofNat_le.1 e⟩)
            have shr : (lim Try.prog σ).call 26 [v32, .agg [u64 a2.c, u64 a2.b, u64 a2.h0, u64 a2.h1], .agg [u64 b2.c, u64 b2.b, u64 b2.h0, u64 b2.h1]] Y2 = some (.bool (decide (sh a2.el b2.el ≠ 0)), none) := lshared_run hσ (S2.tl.ext EEY2) S2.tree (by omega) a2 b2 la2 lb2 S2.A.ch S2.B.ch
            by_cases s0 : sh a2.el b2.el ≠ 0
            · have cv : cmpV a2 b2 = 7 := by unfold cmpV; rw [if_neg q, if_neg m5, if_neg m6, if_pos s0]
              have ds : decide (sh a2.el b2.el ≠ 0) = true := decide_eq_true s0
              rw [ds] at shr
              simp only [go_sem, Nat.reduceLT, Nat.reduceLeDiff, Nat.reduceEqDiff, Nat.reduceAdd, Nat.reduceSub, Nat.reduceMul, reduceCtorEq, Int.reduceBEq, Int.reduceLT, Int.reduceLE, Int.reduceAdd, Int.reduceSub, Int.reduceEq, Int.reduceNeg, Int.reduceToNat, Int.reduceGT, Int.reduceGE, i4, i5, i6, i7, i8, e0, e3, e4, e5, wi, row0, row1, ← hX, ← hZ, ← hV, aV, bV, ga0, ga1, ga2, ga3, gb0, gb1, gb2, gb3, cmp, ca2, cb2, len2, p1, p2, p3, p4, ab1, ab2, q', cv, cY2, ← hY2, aY2, bY2, BY2.len, nle6, shr]
              refine next _ _ ⟨t2, a2, b2, v32, lid2, lb, ?_, by omega, by simp only [go_sem, Nat.reduceLT, Nat.reduceLeDiff, Nat.reduceEqDiff, Nat.reduceAdd, Nat.reduceSub, Nat.reduceMul, reduceCtorEq, Int.reduceBEq, Int.reduceLT, Int.reduceLE, Int.reduceAdd, Int.reduceSub, Int.reduceEq, Int.reduceNeg, Int.reduceToNat, Int.reduceGT, Int.reduceGE, e0], by simp only [go_sem, Nat.reduceLT, Nat.reduceLeDiff, Nat.reduceEqDiff, Nat.reduceAdd, Nat.reduceSub, Nat.reduceMul, reduceCtorEq, Int.reduceBEq, Int.reduceLT, Int.reduceLE, Int.reduceAdd, Int.reduceSub, Int.reduceEq, Int.reduceNeg, Int.reduceToNat, Int.reduceGT, Int.reduceGE, e3], by simp only [go_sem, Nat.reduceLT, Nat.reduceLeDiff, Nat.reduceEqDiff, Nat.reduceAdd, Nat.reduceSub, Nat.reduceMul, reduceCtorEq, Int.reduceBEq, Int.reduceLT, Int.reduceLE, Int.reduceAdd, Int.reduceSub, Int.reduceEq, Int.reduceNeg, Int.reduceToNat, Int.reduceGT, Int.reduceGE, e4], by simp only [go_sem, Nat.reduceLT, Nat.reduceLeDiff, Nat.reduceEqDiff, Nat.reduceAdd, Nat.reduceSub, Nat.reduceMul, reduceCtorEq, Int.reduceBEq, Int.reduceLT, Int.reduceLE, Int.reduceAdd, Int.reduceSub, Int.reduceEq, Int.reduceNeg, Int.reduceToNat, Int.reduceGT, Int.reduceGE, wi]⟩
              have fs := S2.grow (EEY2) (lowY2)
              rw [hY2] at fs
              rw [hV] at fs
              first | exact fs | (rw [hZ] at fs; exact fs)
            · have cv : cmpV a2 b2 = 8 := by unfold cmpV; rw [if_neg q, if_neg m5, if_neg m6, if_neg s0]
              have ds : decide (sh a2.el b2.el ≠ 0) = false := decide_eq_false s0
              rw [ds] at shr
              simp only [go_sem, Nat.reduceLT, Nat.reduceLeDiff, Nat.reduceEqDiff, Nat.reduceAdd, Nat.reduceSub, Nat.reduceMul, reduceCtorEq, Int.reduceBEq, Int.reduceLT, Int.reduceLE, Int.reduceAdd, Int.reduceSub, Int.reduceEq, Int.reduceNeg, Int.reduceToNat, Int.reduceGT, Int.reduceGE, i4, i5, i6, i7, i8, e0, e3, e4, e5, wi, row0, row1, ← hX, ← hZ, ← hV, aV, bV, ga0, ga1, ga2, ga3, gb0, gb1, gb2, gb3, cmp, ca2, cb2, len2, p1, p2, p3, p4, ab1, ab2, q', cv, cY2, ← hY2, aY2, bY2, BY2.len, nle6, shr]
              refine next _ _ ⟨t2, a2, b2, v32, lid2, lb, ?_, by omega, by simp only [go_sem, Nat.reduceLT, Nat.reduceLeDiff, Nat.reduceEqDiff, Nat.reduceAdd, Nat.reduceSub, Nat.reduceMul, reduceCtorEq, Int.reduceBEq, Int.reduceLT, Int.reduceLE, Int.reduceAdd, Int.reduceSub, Int.reduceEq, Int.reduceNeg, Int.reduceToNat, Int.reduceGT, Int.reduceGE, e0], by simp only [go_sem, Nat.reduceLT, Nat.reduceLeDiff, Nat.reduceEqDiff, Nat.reduceAdd, Nat.reduceSub, Nat.reduceMul, reduceCtorEq, Int.reduceBEq, Int.reduceLT, Int.reduceLE, Int.reduceAdd, Int.reduceSub, Int.reduceEq, Int.reduceNeg, Int.reduceToNat, Int.reduceGT, Int.reduceGE, e3], by simp only [go_sem, Nat.reduceLT, Nat.reduceLeDiff, Nat.reduceEqDiff, Nat.reduceAdd, Nat.reduceSub, Nat.reduceMul, reduceCtorEq, Int.reduceBEq, Int.reduceLT, Int.reduceLE, Int.reduceAdd, Int.reduceSub, Int.reduceEq, Int.reduceNeg, Int.reduceToNat, Int.reduceGT, Int.reduceGE, e4], by simp only [go_sem, Nat.reduceLT, Nat.reduceLeDiff, Nat.reduceEqDiff, Nat.reduceAdd, Nat.reduceSub, Nat.reduceMul, reduceCtorEq, Int.reduceBEq, Int.reduceLT, Int.reduceLE, Int.reduceAdd, Int.reduceSub, Int.reduceEq, Int.reduceNeg, Int.reduceToNat, Int.reduceGT, Int.reduceGE, wi]⟩
              have fs := S2.grow (EEY2) (lowY2)
              rw [hY2] at fs
              rw [hV] at fs
              first | exact fs | (rw [hZ] at fs; exact fs)
        · obtain ⟨vY1, xY1, eY1, BY1, EY1, lY1⟩ := elder_c hσ (X := V) (by have := (VE).nx; have := S2.ext.nx; omega) b2
          obtain ⟨Y1, hY1⟩ : ∃ Y', Y' = xY1.getD V := ⟨_, rfl⟩
          rw [← hY1] at BY1 EY1 lY1
          have cY1 : (lim Try.prog σ).call 25 [.agg [u64 b2.c, u64 b2.b, u64 b2.h0, u64 b2.h1]] V = some (vY1, xY1) := eY1
          have aY1 : Y1.blk Z.nx = some ka := (EY1.blk (by omega)).trans aV
          have bY1 : Y1.blk (Z.nx + 1) = some kb := (EY1.blk (by omega)).trans bV
          have nxY1 : Z.nx + 2 ≤ Y1.nx := by have := EY1.nx; omega
          have EEY1 : Ext Z Y1 := (VE).trans EY1
          have lowY1 : Y1.low = h.nx := by rw [lY1, lowV]
          have nle5 : ¬ Int.ofNat far ≤ Int.ofNat b2.el.length := fun e => m5 (M5.2 ⟨rfl, Int.ofNat_le.1 e⟩)
          by_cases m6 : b2.c ∈ a2.el
          · obtain ⟨u1, u2⟩ := M6.1 m6
            subst u1
            have cv : cmpV a2 b2 = 6 := by unfold cmpV; rw [if_neg q, if_neg m5, if_pos m6]
            have le6 : Int.ofNat way ≤ Int.ofNat a2.el.length := by show (way : Int) ≤ _; exact Int.ofNat_le.2 u2
            obtain ⟨vY2, xY2, eY2, BY2, EY2, lY2⟩ := elder_c hσ (X := Y1) (by have := (EEY1).nx; have := S2.ext.nx; omega) a2
            obtain ⟨Y2, hY2⟩ : ∃ Y', Y' = xY2.getD Y1 := ⟨_, rfl⟩
            rw [← hY2] at BY2 EY2 lY2
            have cY2 : (lim Try.prog σ).call 25 [.agg [u64 a2.c, u64 a2.b, u64 a2.h0, u64 a2.h1]] Y1 = some (vY2, xY2) := eY2
            have aY2 : Y2.blk Z.nx = some ka := (EY2.blk (by omega)).trans aY1
            have bY2 : Y2.blk (Z.nx + 1) = some kb := (EY2.blk (by omega)).trans bY1
            have nxY2 : Z.nx + 2 ≤ Y2.nx := by have := EY2.nx; omega
            have EEY2 : Ext Z Y2 := (EEY1).trans EY2
            have lowY2 : Y2.low = h.nx := by rw [lY2, lowY1]
            simp only [go_sem, Nat.reduceLT, Nat.reduceLeDiff, Nat.reduceEqDiff, Nat.reduceAdd, Nat.reduceSub, Nat.reduceMul, reduceCtorEq, Int.reduceBEq, Int.reduceLT, Int.reduceLE, Int.reduceAdd, Int.reduceSub, Int.reduceEq, Int.reduceNeg, Int.reduceToNat, Int.reduceGT, Int.reduceGE, i4, i5, i6, i7, i8, e0, e3, e4, e5, wi, row0, row1, ← hX, ← hZ, ← hV, aV, bV, ga0, ga1, ga2, ga3, gb0, gb1, gb2, gb3, cmp, ca2, cb2, len2, p1, p2, p3, p4, ab1, ab2, q', cv, cY1, ← hY1, aY1, bY1, BY1.len, nle5, cY2, ← hY2, aY2, bY2, BY2.len, le6]
            refine next _ _ ⟨t2, a2, b2, v32, lid2, lb, ?_, by omega, by simp only [go_sem, Nat.reduceLT, Nat.reduceLeDiff, Nat.reduceEqDiff, Nat.reduceAdd, Nat.reduceSub, Nat.reduceMul, reduceCtorEq, Int.reduceBEq, Int.reduceLT, Int.reduceLE, Int.reduceAdd, Int.reduceSub, Int.reduceEq, Int.reduceNeg, Int.reduceToNat, Int.reduceGT, Int.reduceGE, e0], by simp only [go_sem, Nat.reduceLT, Nat.reduceLeDiff, Nat.reduceEqDiff, Nat.reduceAdd, Nat.reduceSub, Nat.reduceMul, reduceCtorEq, Int.reduceBEq, Int.reduceLT, Int.reduceLE, Int.reduceAdd, Int.reduceSub, Int.reduceEq, Int.reduceNeg, Int.reduceToNat, Int.reduceGT, Int.reduceGE, e3], by simp only [go_sem, Nat.reduceLT, Nat.reduceLeDiff, Nat.reduceEqDiff, Nat.reduceAdd, Nat.reduceSub, Nat.reduceMul, reduceCtorEq, Int.reduceBEq, Int.reduceLT, Int.reduceLE, Int.reduceAdd, Int.reduceSub, Int.reduceEq, Int.reduceNeg, Int.reduceToNat, Int.reduceGT, Int.reduceGE, e4], by simp only [go_sem, Nat.reduceLT, Nat.reduceLeDiff, Nat.reduceEqDiff, Nat.reduceAdd, Nat.reduceSub, Nat.reduceMul, reduceCtorEq, Int.reduceBEq, Int.reduceLT, Int.reduceLE, Int.reduceAdd, Int.reduceSub, Int.reduceEq, Int.reduceNeg, Int.reduceToNat, Int.reduceGT, Int.reduceGE, wi]⟩
            have fs := S2.grow (EEY2) (lowY2)
            rw [hY2] at fs
            rw [hY1] at fs
            rw [hV] at fs
            first | exact fs | (rw [hZ] at fs; exact fs)
          cases down
          · have shr : (lim Try.prog σ).call 26 [v32, .agg [u64 a2.c, u64 a2.b, u64 a2.h0, u64 a2.h1], .agg [u64 b2.c, u64 b2.b, u64 b2.h0, u64 b2.h1]] Y1 = some (.bool (decide (sh a2.el b2.el ≠ 0)), none) := lshared_run hσ (S2.tl.ext EEY1) S2.tree (by omega) a2 b2 la2 lb2 S2.A.ch S2.B.ch
            by_cases s0 : sh a2.el b2.el ≠ 0
            · have cv : cmpV a2 b2 = 7 := by unfold cmpV; rw [if_neg q, if_neg m5, if_neg m6, if_pos s0]
              have ds : decide (sh a2.el b2.el ≠ 0) = true := decide_eq_true s0
              rw [ds] at shr
              simp only [go_sem, Nat.reduceLT, Nat.reduceLeDiff, Nat.reduceEqDiff, Nat.reduceAdd, Nat.reduceSub, Nat.reduceMul, reduceCtorEq, Int.reduceBEq, Int.reduceLT, Int.reduceLE, Int.reduceAdd, Int.reduceSub, Int.reduceEq, Int.reduceNeg, Int.reduceToNat, Int.reduceGT, Int.reduceGE, i4, i5, i6, i7, i8, e0, e3, e4, e5, wi, row0, row1, ← hX, ← hZ, ← hV, aV, bV, ga0, ga1, ga2, ga3, gb0, gb1, gb2, gb3, cmp, ca2, cb2, len2, p1, p2, p3, p4, ab1, ab2, q', cv, cY1, ← hY1, aY1, bY1, BY1.len, nle5, shr]
              refine next _ _ ⟨t2, a2, b2, v32, lid2, lb, ?_, by omega, by simp only [go_sem, Nat.reduceLT, Nat.reduceLeDiff, Nat.reduceEqDiff, Nat.reduceAdd, Nat.reduceSub, Nat.reduceMul, reduceCtorEq, Int.reduceBEq, Int.reduceLT, Int.reduceLE, Int.reduceAdd, Int.reduceSub, Int.reduceEq, Int.reduceNeg, Int.reduceToNat, Int.reduceGT, Int.reduceGE, e0], by simp only [go_sem, Nat.reduceLT, Nat.reduceLeDiff, Nat.reduceEqDiff, Nat.reduceAdd, Nat.reduceSub, Nat.reduceMul, reduceCtorEq, Int.reduceBEq, Int.reduceLT, Int.reduceLE, Int.reduceAdd, Int.reduceSub, Int.reduceEq, Int.reduceNeg, Int.reduceToNat, Int.reduceGT, Int.reduceGE, e3], by simp only [go_sem, Nat.reduceLT, Nat.reduceLeDiff, Nat.reduceEqDiff, Nat.reduceAdd, Nat.reduceSub, Nat.reduceMul, reduceCtorEq, Int.reduceBEq, Int.reduceLT, Int.reduceLE, Int.reduceAdd, Int.reduceSub, Int.reduceEq, Int.reduceNeg, Int.reduceToNat, Int.reduceGT, Int.reduceGE, e4], by simp only [go_sem, Nat.reduceLT, Nat.reduceLeDiff, Nat.reduceEqDiff, Nat.reduceAdd, Nat.reduceSub, Nat.reduceMul, reduceCtorEq, Int.reduceBEq, Int.reduceLT, Int.reduceLE, Int.reduceAdd, Int.reduceSub, Int.reduceEq, Int.reduceNeg, Int.reduceToNat, Int.reduceGT, Int.reduceGE, wi]⟩
              have fs := S2.grow (EEY1) (lowY1)
              rw [hY1] at fs
              rw [hV] at fs
              first | exact fs | (rw [hZ] at fs; exact fs)
            · have cv : cmpV a2 b2 = 8 := by unfold cmpV; rw [if_neg q, if_neg m5, if_neg m6, if_neg s0]
              have ds : decide (sh a2.el b2.el ≠ 0) = false := decide_eq_false s0
              rw [ds] at shr
              simp only [go_sem, Nat.reduceLT, Nat.reduceLeDiff, Nat.reduceEqDiff, Nat.reduceAdd, Nat.reduceSub, Nat.reduceMul, reduceCtorEq, Int.reduceBEq, Int.reduceLT, Int.reduceLE, Int.reduceAdd, Int.reduceSub, Int.reduceEq, Int.reduceNeg, Int.reduceToNat, Int.reduceGT, Int.reduceGE, i4, i5, i6, i7, i8, e0, e3, e4, e5, wi, row0, row1, ← hX, ← hZ, ← hV, aV, bV, ga0, ga1, ga2, ga3, gb0, gb1, gb2, gb3, cmp, ca2, cb2, len2, p1, p2, p3, p4, ab1, ab2, q', cv, cY1, ← hY1, aY1, bY1, BY1.len, nle5, shr]
              refine next _ _ ⟨t2, a2, b2, v32, lid2, lb, ?_, by omega, by simp only [go_sem, Nat.reduceLT, Nat.reduceLeDiff, Nat.reduceEqDiff, Nat.reduceAdd, Nat.reduceSub, Nat.reduceMul, reduceCtorEq, Int.reduceBEq, Int.reduceLT, Int.reduceLE, Int.reduceAdd, Int.reduceSub, Int.reduceEq, Int.reduceNeg, Int.reduceToNat, Int.reduceGT, Int.reduceGE, e0], by simp only [go_sem, Nat.reduceLT, Nat.reduceLeDiff, Nat.reduceEqDiff, Nat.reduceAdd, Nat.reduceSub, Nat.reduceMul, reduceCtorEq, Int.reduceBEq, Int.reduceLT, Int.reduceLE, Int.reduceAdd, Int.reduceSub, Int.reduceEq, Int.reduceNeg, Int.reduceToNat, Int.reduceGT, Int.reduceGE, e3], by simp only [go_sem, Nat.reduceLT, Nat.reduceLeDiff, Nat.reduceEqDiff, Nat.reduceAdd, Nat.reduceSub, Nat.reduceMul, reduceCtorEq, Int.reduceBEq, Int.reduceLT, Int.reduceLE, Int.reduceAdd, Int.reduceSub, Int.reduceEq, Int.reduceNeg, Int.reduceToNat, Int.reduceGT, Int.reduceGE, e4], by simp only [go_sem, Nat.reduceLT, Nat.reduceLeDiff, Nat.reduceEqDiff, Nat.reduceAdd, Nat.reduceSub, Nat.reduceMul, reduceCtorEq, Int.reduceBEq, Int.reduceLT, Int.reduceLE, Int.reduceAdd, Int.reduceSub, Int.reduceEq, Int.reduceNeg, Int.reduceToNat, Int.reduceGT, Int.reduceGE, wi]⟩
              have fs := S2.grow (EEY1) (lowY1)
              rw [hY1] at fs
              rw [hV] at fs
              first | exact fs | (rw [hZ] at fs; exact fs)
          · obtain ⟨vY2, xY2, eY2, BY2, EY2, lY2⟩ := elder_c hσ (X := Y1) (by have := (EEY1).nx; have := S2.ext.nx; omega) a2
            obtain ⟨Y2, hY2⟩ : ∃ Y', Y' = xY2.getD Y1 := ⟨_, rfl⟩
            rw [← hY2] at BY2 EY2 lY2
            have cY2 : (lim Try.prog σ).call 25 [.agg [u64 a2.c, u64 a2.b, u64 a2.h0, u64 a2.h1]] Y1 = some (vY2, xY2) := eY2
            have aY2 : Y2.blk Z.nx = some ka := (EY2.blk (by omega)).trans aY1
            have bY2 : Y2.blk (Z.nx + 1) = some kb := (EY2.blk (by omega)).trans bY1
            have nxY2 : Z.nx + 2 ≤ Y2.nx := by have := EY2.nx; omega
            have EEY2 : Ext Z Y2 := (EEY1).trans EY2
            have lowY2 : Y2.low = h.nx := by rw [lY2, lowY1]
            have nle6 : ¬ Int.ofNat way ≤ Int.ofNat a2.el.length := fun e => m6 (M6.2 ⟨rfl, Int.ofNat_le.1 e⟩)
            have shr : (lim Try.prog σ).call 26 [v32, .agg [u64 a2.c, u64 a2.b, u64 a2.h0, u64 a2.h1], .agg [u64 b2.c, u64 b2.b, u64 b2.h0, u64 b2.h1]] Y2 = some (.bool (decide (sh a2.el b2.el ≠ 0)), none) := lshared_run hσ (S2.tl.ext EEY2) S2.tree (by omega) a2 b2 la2 lb2 S2.A.ch S2.B.ch
            by_cases s0 : sh a2.el b2.el ≠ 0
            · have cv : cmpV a2 b2 = 7 := by unfold cmpV; rw [if_neg q, if_neg m5, if_neg m6, if_pos s0]
              have ds : decide (sh a2.el b2.el ≠ 0) = true := decide_eq_true s0
              rw [ds] at shr
              simp only [go_sem, Nat.reduceLT, Nat.reduceLeDiff, Nat.reduceEqDiff, Nat.reduceAdd, Nat.reduceSub, Nat.reduceMul, reduceCtorEq, Int.reduceBEq, Int.reduceLT, Int.reduceLE, Int.reduceAdd, Int.reduceSub, Int.reduceEq, Int.reduceNeg, Int.reduceToNat, Int.reduceGT, Int.reduceGE, i4, i5, i6, i7, i8, e0, e3, e4, e5, wi, row0, row1, ← hX, ← hZ, ← hV, aV, bV, ga0, ga1, ga2, ga3, gb0, gb1, gb2, gb3, cmp, ca2, cb2, len2, p1, p2, p3, p4, ab1, ab2, q', cv, cY1, ← hY1, aY1, bY1, BY1.len, nle5, cY2, ← hY2, aY2, bY2, BY2.len, nle6, shr]
              refine next _ _ ⟨t2, a2, b2, v32, lid2, lb, ?_, by omega, by simp only [go_sem, Nat.reduceLT, Nat.reduceLeDiff, Nat.reduceEqDiff, Nat.reduceAdd, Nat.reduceSub, Nat.reduceMul, reduceCtorEq, Int.reduceBEq, Int.reduceLT, Int.reduceLE, Int.reduceAdd, Int.reduceSub, Int.reduceEq, Int.reduceNeg, Int.reduceToNat, Int.reduceGT, Int.reduceGE, e0], by simp only [go_sem, Nat.reduceLT, Nat.reduceLeDiff, Nat.reduceEqDiff, Nat.reduceAdd, Nat.reduceSub, Nat.reduceMul, reduceCtorEq, Int.reduceBEq, Int.reduceLT, Int.reduceLE, Int.reduceAdd, Int.reduceSub, Int.reduceEq, Int.reduceNeg, Int.reduceToNat, Int.reduceGT, Int.reduceGE, e3], by simp only [go_sem, Nat.reduceLT, Nat.reduceLeDiff, Nat.reduceEqDiff, Nat.reduceAdd, Nat.reduceSub, Nat.reduceMul, reduceCtorEq, Int.reduceBEq, Int.reduceLT, Int.reduceLE, Int.reduceAdd, Int.reduceSub, Int.reduceEq, Int.reduceNeg, Int.reduceToNat, Int.reduceGT, Int.reduceGE, e4], by simp only [go_sem, Nat.reduceLT, Nat.reduceLeDiff, Nat.reduceEqDiff, Nat.reduceAdd, Nat.reduceSub, Nat.reduceMul, reduceCtorEq, Int.reduceBEq, Int.reduceLT, Int.reduceLE, Int.reduceAdd, Int.reduceSub, Int.reduceEq, Int.reduceNeg, Int.reduceToNat, Int.reduceGT, Int.reduceGE, wi]⟩
              have fs := S2.grow (EEY2) (lowY2)
              rw [hY2] at fs
              rw [hY1] at fs
              rw [hV] at fs
              first | exact fs | (rw [hZ] at fs; exact fs)
            · have cv : cmpV a2 b2 = 8 := by unfold cmpV; rw [if_neg q, if_neg m5, if_neg m6, if_neg s0]
              have ds : decide (sh a2.el b2.el ≠ 0) = false := decide_eq_false s0
              rw [ds] at shr
              simp only [go_sem, Nat.reduceLT, Nat.reduceLeDiff, Nat.reduceEqDiff, Nat.reduceAdd, Nat.reduceSub, Nat.reduceMul, reduceCtorEq, Int.reduceBEq, Int.reduceLT, Int.reduceLE, Int.reduceAdd, Int.reduceSub, Int.reduceEq, Int.reduceNeg, Int.reduceToNat, Int.reduceGT, Int.reduceGE, i4, i5, i6, i7, i8, e0, e3, e4, e5, wi, row0, row1, ← hX, ← hZ, ← hV, aV, bV, ga0, ga1, ga2, ga3, gb0, gb1, gb2, gb3, cmp, ca2, cb2, len2, p1, p2, p3, p4, ab1, ab2, q', cv, cY1, ← hY1, aY1, bY1, BY1.len, nle5, cY2, ← hY2, aY2, bY2, BY2.len, nle6, shr]
              refine next _ _ ⟨t2, a2, b2, v32, lid2, lb, ?_, by omega, by simp only [go_sem, Nat.reduceLT, Nat.reduceLeDiff, Nat.reduceEqDiff, Nat.reduceAdd, Nat.reduceSub, Nat.reduceMul, reduceCtorEq, Int.reduceBEq, Int.reduceLT, Int.reduceLE, Int.reduceAdd, Int.reduceSub, Int.reduceEq, Int.reduceNeg, Int.reduceToNat, Int.reduceGT, Int.reduceGE, e0], by simp only [go_sem, Nat.reduceLT, Nat.reduceLeDiff, Nat.reduceEqDiff, Nat.reduceAdd, Nat.reduceSub, Nat.reduceMul, reduceCtorEq, Int.reduceBEq, Int.reduceLT, Int.reduceLE, Int.reduceAdd, Int.reduceSub, Int.reduceEq, Int.reduceNeg, Int.reduceToNat, Int.reduceGT, Int.reduceGE, e3], by simp only [go_sem, Nat.reduceLT, Nat.reduceLeDiff, Nat.reduceEqDiff, Nat.reduceAdd, Nat.reduceSub, Nat.reduceMul, reduceCtorEq, Int.reduceBEq, Int.reduceLT, Int.reduceLE, Int.reduceAdd, Int.reduceSub, Int.reduceEq, Int.reduceNeg, Int.reduceToNat, Int.reduceGT, Int.reduceGE, e4], by simp only [go_sem, Nat.reduceLT, Nat.reduceLeDiff, Nat.reduceEqDiff, Nat.reduceAdd, Nat.reduceSub, Nat.reduceMul, reduceCtorEq, Int.reduceBEq, Int.reduceLT, Int.reduceLE, Int.reduceAdd, Int.reduceSub, Int.reduceEq, Int.reduceNeg, Int.reduceToNat, Int.reduceGT, Int.reduceGE, wi]⟩
              have fs := S2.grow (EEY2) (lowY2)
              rw [hY2] at fs
              rw [hY1] at fs
              rw [hV] at fs
              first | exact fs | (rw [hZ] at fs; exact fs)
      · have d1 : decide (b.b = 0) = false := decide_eq_false ub
        have hal : alone b t.length = b := if_neg ub
        simp only [go_sem, Nat.reduceLT, Nat.reduceLeDiff, Nat.reduceEqDiff, Nat.reduceAdd, Nat.reduceSub, Nat.reduceMul, reduceCtorEq, Int.reduceBEq, Int.reduceLT, Int.reduceLE, Int.reduceAdd, Int.reduceSub, Int.reduceEq, Int.reduceNeg, Int.reduceToNat, Int.reduceGT, Int.reduceGE, S.len, e0, e3, e4, e5, c0, ea, hb', hg0, row0, row1, hk1, kg0, kg1, kg2, kg3, kg4, kg5, kg6, kg7, hkn, hkr, lenl, cu, al0, en0, Ln.cv_eq, d1]
        obtain ⟨X, hX⟩ : ∃ X, X = (h'.alloc (.cells (newBlk [CV.int .u64 0, CV.int .u64 0, CV.int .u64 0, CV.int .u64 0]))).put h'.nx (.cells (((((newBlk [CV.int .u64 0, CV.int .u64 0, CV.int .u64 0, CV.int .u64 0]).st 0 (u64 (alone b t.length).c)).st 1 (u64 (alone b t.length).b)).st 2 (u64 (alone b t.length).h0)).st 3 (u64 (alone b t.length).h1))) := ⟨_, rfl⟩
        have Xnx : X.nx = h'.nx + 1 := by rw [hX]; rfl
        have Xlow : X.low = h.nx := by rw [hX]; simp only [go_sem, Nat.reduceLT, Nat.reduceLeDiff, Nat.reduceEqDiff, Nat.reduceAdd, Nat.reduceSub, Nat.reduceMul, reduceCtorEq, Int.reduceBEq, Int.reduceLT, Int.reduceLE, Int.reduceAdd, Int.reduceSub, Int.reduceEq, Int.reduceNeg, Int.reduceToNat, Int.reduceGT, Int.reduceGE, st.low]; have := st.ext.nx; omega
        have XE : Ext h' X := by rw [hX]; exact (Ext.alloc' (Ext.refl _) _).put _ (Nat.le_refl _)
        have Xi : X.blk id = some bb := (XE.blk (Nat.lt_of_lt_of_le hid st.ext.nx)).trans hb'
        have Xk : X.blk lb = some k := (XE.blk st.lines.lt).trans hk1
        have Xn : X.blk h'.nx = some (((((newBlk [CV.int .u64 0, CV.int .u64 0, CV.int .u64 0, CV.int .u64 0]).st 0 (u64 (alone b t.length).c)).st 1 (u64 (alone b t.length).b)).st 2 (u64 (alone b t.length).h0)).st 3 (u64 (alone b t.length).h1)) := by rw [hX]; simp only [go_sem, Nat.reduceLT, Nat.reduceLeDiff, Nat.reduceEqDiff, Nat.reduceAdd, Nat.reduceSub, Nat.reduceMul, reduceCtorEq, Int.reduceBEq, Int.reduceLT, Int.reduceLE, Int.reduceAdd, Int.reduceSub, Int.reduceEq, Int.reduceNeg, Int.reduceToNat, Int.reduceGT, Int.reduceGE]
        have sX := st.grow XE Xlow
        refine cnd_go (Q := Q) (by kernel_rfl) ?_
        simp only [go_sem, Nat.reduceLT, Nat.reduceLeDiff, Nat.reduceEqDiff, Nat.reduceAdd, Nat.reduceSub, Nat.reduceMul, reduceCtorEq, Int.reduceBEq, Int.reduceLT, Int.reduceLE, Int.reduceAdd, Int.reduceSub, Int.reduceEq, Int.reduceNeg, Int.reduceToNat, Int.reduceGT, Int.reduceGE, S.len, e0, e3, e4, e5, c0, ea, hb', hg0, row0, row1, hk1, kg0, kg1, kg2, kg3, kg4, kg5, kg6, kg7, hkn, hkr, lenl, cu, al0, en0, Ln.cv_eq, d1, ← hX, Xi, Xk, Xn]
        refine cnd_go (Q := Q) (by kernel_rfl) ?_
        refine quiet_go (Q := Q) (by kernel_rfl) ?_
        simp only [go_sem, Nat.reduceLT, Nat.reduceLeDiff, Nat.reduceEqDiff, Nat.reduceAdd, Nat.reduceSub, Nat.reduceMul, reduceCtorEq, Int.reduceBEq, Int.reduceLT, Int.reduceLE, Int.reduceAdd, Int.reduceSub, Int.reduceEq, Int.reduceNeg, Int.reduceToNat, Int.reduceGT, Int.reduceGE, S.len, e0, e3, e4, e5, c0, ea, hb', hg0, row0, row1, hk1, kg0, kg1, kg2, kg3, kg4, kg5, kg6, kg7, hkn, hkr, lenl, cu, al0, en0, Ln.cv_eq, d1, ← hX, Xi, Xk, Xn]
        obtain ⟨Z, hZ⟩ : ∃ Z, Z = X.put lb (.cells ((((k.st 4 (u64 (alone b t.length).c)).st 5 (u64 (alone b t.length).b)).st 6 (u64 (alone b t.length).h0)).st 7 (u64 (alone b t.length).h1))) := ⟨_, rfl⟩
        obtain ⟨a2, ha2⟩ : ∃ a2, a2 = a := ⟨_, rfl⟩
        obtain ⟨b2, hb2⟩ : ∃ b2, b2 = alone b t.length := ⟨_, rfl⟩
        obtain ⟨t2, ht2⟩ : ∃ t2, t2 = t := ⟨_, rfl⟩
        obtain ⟨lid2, hl2⟩ : ∃ l, l = lid := ⟨_, rfl⟩
        obtain ⟨v32, hv32⟩ : ∃ l, l = v3 := ⟨_, rfl⟩
        have htl : t2.length = t.length := by rw [ht2]
        have S2 : Sta h Z t2 a2 b2 v32 lid2 lb := by
          rw [hZ, ha2, hb2, ht2, hl2, hv32]
          exact sX.put (by simp only [go_sem, Nat.reduceLT, Nat.reduceLeDiff, Nat.reduceEqDiff, Nat.reduceAdd, Nat.reduceSub, Nat.reduceMul, reduceCtorEq, Int.reduceBEq, Int.reduceLT, Int.reduceLE, Int.reduceAdd, Int.reduceSub, Int.reduceEq, Int.reduceNeg, Int.reduceToNat, Int.reduceGT, Int.reduceGE, hkn]) (by simp only [go_sem, Nat.reduceLT, Nat.reduceLeDiff, Nat.reduceEqDiff, Nat.reduceAdd, Nat.reduceSub, Nat.reduceMul, reduceCtorEq, Int.reduceBEq, Int.reduceLT, Int.reduceLE, Int.reduceAdd, Int.reduceSub, Int.reduceEq, Int.reduceNeg, Int.reduceToNat, Int.reduceGT, Int.reduceGE, hkr]) (l8_set1 hkn hkg) st.A (hal.symm ▸ st.B)
        have e3 : evT env 3 = v32 := e3.trans hv32.symm
        obtain ⟨k2, hk2, hk2n, hk2r, hk2g⟩ := S2.lines.bk
        have kh0 := hk2g 0
        have kh1 := hk2g 1
        have kh2 := hk2g 2
        have kh3 := hk2g 3
        have kh4 := hk2g 4
        have kh5 := hk2g 5
        have kh6 := hk2g 6
        have kh7 := hk2g 7
        simp only [l8, nth] at kh0 kh1 kh2 kh3 kh4 kh5 kh6 kh7
        have hlb2 := S2.lines.lt
        have hne1 : lb ≠ Z.nx := by omega
        have hne2 : lb ≠ Z.nx + 1 := by omega
        refine cnd_go (Q := Q) (by kernel_rfl) ?_
        simp only [go_sem, Nat.reduceLT, Nat.reduceLeDiff, Nat.reduceEqDiff, Nat.reduceAdd, Nat.reduceSub, Nat.reduceMul, reduceCtorEq, Int.reduceBEq, Int.reduceLT, Int.reduceLE, Int.reduceAdd, Int.reduceSub, Int.reduceEq, Int.reduceNeg, Int.reduceToNat, Int.reduceGT, Int.reduceGE, e0, e3, e4, e5, wi, row0, row1, ← hX, ← hZ, hk2, kh0, kh1, kh2, kh3, kh4, kh5, kh6, kh7, hlb2, hne1, hne2]
        refine cnd_goF (Q := Q) (by kernel_rfl) ?_
        refine cnd_go' (Q := Q) (by kernel_rfl) ?_
        refine cnd_go' (Q := Q) ?_ ?_
        · rw [show leadN _ _ = 2 from by kernel_rfl]
          simp only [go_sem, Nat.reduceLT, Nat.reduceLeDiff, Nat.reduceEqDiff, Nat.reduceAdd, Nat.reduceSub, Nat.reduceMul, reduceCtorEq, Int.reduceBEq, Int.reduceLT, Int.reduceLE, Int.reduceAdd, Int.reduceSub, Int.reduceEq, Int.reduceNeg, Int.reduceToNat, Int.reduceGT, Int.reduceGE, List.take_succ_cons, List.take_zero, leadH_blk, leadH_gn, leadH_nx, ids_ptr, ids_4, beqC_4, leadId_lt, e0, e3, e4, e5, wi, row0, row1, ← hX, ← hZ, hk2, kh0, kh1, kh2, kh3, kh4, kh5, kh6, kh7, hlb2, hne1, hne2]
        simp only [go_sem, Nat.reduceLT, Nat.reduceLeDiff, Nat.reduceEqDiff, Nat.reduceAdd, Nat.reduceSub, Nat.reduceMul, reduceCtorEq, Int.reduceBEq, Int.reduceLT, Int.reduceLE, Int.reduceAdd, Int.reduceSub, Int.reduceEq, Int.reduceNeg, Int.reduceToNat, Int.reduceGT, Int.reduceGE, e0, e3, e4, e5, wi, row0, row1, ← hX, ← hZ, hk2, kh0, kh1, kh2, kh3, kh4, kh5, kh6, kh7, hlb2, hne1, hne2]
        obtain ⟨ka, hka⟩ : ∃ k, k = (((((newBlk [CV.int .u64 0, CV.int .u64 0, CV.int .u64 0, CV.int .u64 0]).st 0 (u64 a2.c)).st 1 (u64 a2.b)).st 2 (u64 a2.h0)).st 3 (u64 a2.h1)) := ⟨_, rfl⟩
        obtain ⟨kb, hkb⟩ : ∃ k, k = (((((newBlk [CV.int .u64 0, CV.int .u64 0, CV.int .u64 0, CV.int .u64 0]).st 0 (u64 b2.c)).st 1 (u64 b2.b)).st 2 (u64 b2.h0)).st 3 (u64 b2.h1)) := ⟨_, rfl⟩
        obtain ⟨V, hV⟩ : ∃ V, V = (((Z.alloc (.cells (newBlk [CV.int .u64 0, CV.int .u64 0, CV.int .u64 0, CV.int .u64 0]))).alloc (.cells (newBlk [CV.int .u64 0, CV.int .u64 0, CV.int .u64 0, CV.int .u64 0]))).put Z.nx (.cells (((((newBlk [CV.int .u64 0, CV.int .u64 0, CV.int .u64 0, CV.int .u64 0]).st 0 (u64 a2.c)).st 1 (u64 a2.b)).st 2 (u64 a2.h0)).st 3 (u64 a2.h1)))).put (Z.nx + 1) (.cells (((((newBlk [CV.int .u64 0, CV.int .u64 0, CV.int .u64 0, CV.int .u64 0]).st 0 (u64 b2.c)).st 1 (u64 b2.b)).st 2 (u64 b2.h0)).st 3 (u64 b2.h1))) := ⟨_, rfl⟩
        have VE : Ext Z V := by rw [hV]; exact (((Ext.alloc' (Ext.alloc' (Ext.refl _) _) _).put _ (Nat.le_refl _)).put _ (by omega))
        have Vnx : V.nx = Z.nx + 2 := by rw [hV]; rfl
        have nxV : Z.nx + 2 ≤ V.nx := by omega
        have lowV : V.low = h.nx := by rw [hV]; simp only [go_sem, Nat.reduceLT, Nat.reduceLeDiff, Nat.reduceEqDiff, Nat.reduceAdd, Nat.reduceSub, Nat.reduceMul, reduceCtorEq, Int.reduceBEq, Int.reduceLT, Int.reduceLE, Int.reduceAdd, Int.reduceSub, Int.reduceEq, Int.reduceNeg, Int.reduceToNat, Int.reduceGT, Int.reduceGE, S2.low]; have := S2.ext.nx; omega
        have aV : V.blk Z.nx = some ka := by rw [hV, hka]; simp only [go_sem, Nat.reduceLT, Nat.reduceLeDiff, Nat.reduceEqDiff, Nat.reduceAdd, Nat.reduceSub, Nat.reduceMul, reduceCtorEq, Int.reduceBEq, Int.reduceLT, Int.reduceLE, Int.reduceAdd, Int.reduceSub, Int.reduceEq, Int.reduceNeg, Int.reduceToNat, Int.reduceGT, Int.reduceGE, ne_succ]
        have bV : V.blk (Z.nx + 1) = some kb := by rw [hV, hkb]; simp only [go_sem, Nat.reduceLT, Nat.reduceLeDiff, Nat.reduceEqDiff, Nat.reduceAdd, Nat.reduceSub, Nat.reduceMul, reduceCtorEq, Int.reduceBEq, Int.reduceLT, Int.reduceLE, Int.reduceAdd, Int.reduceSub, Int.reduceEq, Int.reduceNeg, Int.reduceToNat, Int.reduceGT, Int.reduceGE]
        have ga0 : ka.get 0 = some (u64 a2.c) := by rw [hka]; simp only [go_sem, Nat.reduceLT, Nat.reduceLeDiff, Nat.reduceEqDiff, Nat.reduceAdd, Nat.reduceSub, Nat.reduceMul, reduceCtorEq, Int.reduceBEq, Int.reduceLT, Int.reduceLE, Int.reduceAdd, Int.reduceSub, Int.reduceEq, Int.reduceNeg, Int.reduceToNat, Int.reduceGT, Int.reduceGE]
        have ga1 : ka.get 1 = some (u64 a2.b) := by rw [hka]; simp only [go_sem, Nat.reduceLT, Nat.reduceLeDiff, Nat.reduceEqDiff, Nat.reduceAdd, Nat.reduceSub, Nat.reduceMul, reduceCtorEq, Int.reduceBEq, Int.reduceLT, Int.reduceLE, Int.reduceAdd, Int.reduceSub, Int.reduceEq, Int.reduceNeg, Int.reduceToNat, Int.reduceGT, Int.reduceGE]
        have ga2 : ka.get 2 = some (u64 a2.h0) := by rw [hka]; simp only [go_sem, Nat.reduceLT, Nat.reduceLeDiff, Nat.reduceEqDiff, Nat.reduceAdd, Nat.reduceSub, Nat.reduceMul, reduceCtorEq, Int.reduceBEq, Int.reduceLT, Int.reduceLE, Int.reduceAdd, Int.reduceSub, Int.reduceEq, Int.reduceNeg, Int.reduceToNat, Int.reduceGT, Int.reduceGE]
        have ga3 : ka.get 3 = some (u64 a2.h1) := by rw [hka]; simp only [go_sem, Nat.reduceLT, Nat.reduceLeDiff, Nat.reduceEqDiff, Nat.reduceAdd, Nat.reduceSub, Nat.reduceMul, reduceCtorEq, Int.reduceBEq, Int.reduceLT, Int.reduceLE, Int.reduceAdd, Int.reduceSub, Int.reduceEq, Int.reduceNeg, Int.reduceToNat, Int.reduceGT, Int.reduceGE]
        have gb0 : kb.get 0 = some (u64 b2.c) := by rw [hkb]; simp only [go_sem, Nat.reduceLT, Nat.reduceLeDiff, Nat.reduceEqDiff, Nat.reduceAdd, Nat.reduceSub, Nat.reduceMul, reduceCtorEq, Int.reduceBEq, Int.reduceLT, Int.reduceLE, Int.reduceAdd, Int.reduceSub, Int.reduceEq, Int.reduceNeg, Int.reduceToNat, Int.reduceGT, Int.reduceGE]
        have gb1 : kb.get 1 = some (u64 b2.b) := by rw [hkb]; simp only [go_sem, Nat.reduceLT, Nat.reduceLeDiff, Nat.reduceEqDiff, Nat.reduceAdd, Nat.reduceSub, Nat.reduceMul, reduceCtorEq, Int.reduceBEq, Int.reduceLT, Int.reduceLE, Int.reduceAdd, Int.reduceSub, Int.reduceEq, Int.reduceNeg, Int.reduceToNat, Int.reduceGT, Int.reduceGE]
        have gb2 : kb.get 2 = some (u64 b2.h0) := by rw [hkb]; simp only [go_sem, Nat.reduceLT, Nat.reduceLeDiff, Nat.reduceEqDiff, Nat.reduceAdd, Nat.reduceSub, Nat.reduceMul, reduceCtorEq, Int.reduceBEq, Int.reduceLT, Int.reduceLE, Int.reduceAdd, Int.reduceSub, Int.reduceEq, Int.reduceNeg, Int.reduceToNat, Int.reduceGT, Int.reduceGE]
        have gb3 : kb.get 3 = some (u64 b2.h1) := by rw [hkb]; simp only [go_sem, Nat.reduceLT, Nat.reduceLeDiff, Nat.reduceEqDiff, Nat.reduceAdd, Nat.reduceSub, Nat.reduceMul, reduceCtorEq, Int.reduceBEq, Int.reduceLT, Int.reduceLE, Int.reduceAdd, Int.reduceSub, Int.reduceEq, Int.reduceNeg, Int.reduceToNat, Int.reduceGT, Int.reduceGE]
        have pa := S2.A.pos
        have pb := S2.B.pos
        have la2 := S2.A.lt
        have lb2 := S2.B.lt
        have cmp : ∀ Y, (lim Try.prog σ).call 23 [.agg [u64 a2.c, u64 a2.b, u64 a2.h0, u64 a2.h1], .agg [u64 b2.c, u64 b2.b, u64 b2.h0, u64 b2.h1]] Y = some (.int .i64 (Int.ofNat (cmpV a2 b2)), none) := fun Y => compare_run hσ Y a2 b2 (by omega) (by omega)
        have ca2 := fun X => cvi (n := a2.c) (by omega) X
        have cb2 := fun X => cvi (n := b2.c) (by omega) X
        have BV : TL V v32 t2 := S2.tl.ext VE
        have len2 := fun h' ts az => BV.len h' ts az
        have p1 : ¬ Int.ofNat a2.c < 1 := by show ¬ (a2.c : Int) < 1; omega
        have p2 : ¬ Int.ofNat b2.c < 1 := by show ¬ (b2.c : Int) < 1; omega
        have p3 : ¬ Int.ofNat a2.c ≥ Int.ofNat t2.length := by show ¬ (a2.c : Int) ≥ (t2.length : Int); omega
        have p4 : ¬ Int.ofNat b2.c ≥ Int.ofNat t2.length := by show ¬ (b2.c : Int) ≥ (t2.length : Int); omega
        obtain ⟨far, up, r1, hf1, ab1'⟩ := above_run hσ BV S2.tree (by omega) a2.c b2.c pa lb2
        obtain ⟨way, down, r2, hf2, ab2'⟩ := above_run hσ BV S2.tree (by omega) b2.c a2.c pb la2
        have ab1 : (lim Try.prog σ).call 24 [v32, .int .i64 (Int.ofNat a2.c), .int .i64 (Int.ofNat b2.c)] V = _ := ab1'
        have ab2 : (lim Try.prog σ).call 24 [v32, .int .i64 (Int.ofNat b2.c), .int .i64 (Int.ofNat a2.c)] V = _ := ab2'
        simp only [go_sem, Nat.reduceLT, Nat.reduceLeDiff, Nat.reduceEqDiff, Nat.reduceAdd, Nat.reduceSub, Nat.reduceMul, reduceCtorEq, Int.reduceBEq, Int.reduceLT, Int.reduceLE, Int.reduceAdd, Int.reduceSub, Int.reduceEq, Int.reduceNeg, Int.reduceToNat, Int.reduceGT, Int.reduceGE, i4, i5, i6, i7, i8, e0, e3, e4, e5, wi, row0, row1, ← hX, ← hZ, ← hV, aV, bV, ga0, ga1, ga2, ga3, gb0, gb1, gb2, gb3, cmp, ca2, cb2, len2, p1, p2, p3, p4, ab1, ab2]
        refine cnd_go (Q := Q) (by kernel_rfl) ?_
        simp only [go_sem, Nat.reduceLT, Nat.reduceLeDiff, Nat.reduceEqDiff, Nat.reduceAdd, Nat.reduceSub, Nat.reduceMul, reduceCtorEq, Int.reduceBEq, Int.reduceLT, Int.reduceLE, Int.reduceAdd, Int.reduceSub, Int.reduceEq, Int.reduceNeg, Int.reduceToNat, Int.reduceGT, Int.reduceGE, i4, i5, i6, i7, i8, e0, e3, e4, e5, wi, row0, row1, ← hX, ← hZ, ← hV, aV, bV, ga0, ga1, ga2, ga3, gb0, gb1, gb2, gb3, cmp, ca2, cb2, len2, p1, p2, p3, p4, ab1, ab2]
        by_cases q : a2.c = b2.c
        · have q' : Int.ofNat a2.c = Int.ofNat b2.c := congrArg _ q
          have cv : cmpV a2 b2 = 4 := if_pos q
          simp only [go_sem, Nat.reduceLT, Nat.reduceLeDiff, Nat.reduceEqDiff, Nat.reduceAdd, Nat.reduceSub, Nat.reduceMul, reduceCtorEq, Int.reduceBEq, Int.reduceLT, Int.reduceLE, Int.reduceAdd, Int.reduceSub, Int.reduceEq, Int.reduceNeg, Int.reduceToNat, Int.reduceGT, Int.reduceGE, i4, i5, i6, i7, i8, e0, e3, e4, e5, wi, row0, row1, ← hX, ← hZ, ← hV, aV, bV, ga0, ga1, ga2, ga3, gb0, gb1, gb2, gb3, cmp, ca2, cb2, len2, p1, p2, p3, p4, ab1, ab2, q', cv]
          refine next _ _ ⟨t2, a2, b2, v32, lid2, lb, ?_, by omega, by simp only [go_sem, Nat.reduceLT, Nat.reduceLeDiff, Nat.reduceEqDiff, Nat.reduceAdd, Nat.reduceSub, Nat.reduceMul, reduceCtorEq, Int.reduceBEq, Int.reduceLT, Int.reduceLE, Int.reduceAdd, Int.reduceSub, Int.reduceEq, Int.reduceNeg, Int.reduceToNat, Int.reduceGT, Int.reduceGE, e0], by simp only [go_sem, Nat.reduceLT, Nat.reduceLeDiff, Nat.reduceEqDiff, Nat.reduceAdd, Nat.reduceSub, Nat.reduceMul, reduceCtorEq, Int.reduceBEq, Int.reduceLT, Int.reduceLE, Int.reduceAdd, Int.reduceSub, Int.reduceEq, Int.reduceNeg, Int.reduceToNat, Int.reduceGT, Int.reduceGE, e3], by simp only [go_sem, Nat.reduceLT, Nat.reduceLeDiff, Nat.reduceEqDiff, Nat.reduceAdd, Nat.reduceSub, Nat.reduceMul, reduceCtorEq, Int.reduceBEq, Int.reduceLT, Int.reduceLE, Int.reduceAdd, Int.reduceSub, Int.reduceEq, Int.reduceNeg, Int.reduceToNat, Int.reduceGT, Int.reduceGE, e4], by simp only [go_sem, Nat.reduceLT, Nat.reduceLeDiff, Nat.reduceEqDiff, Nat.reduceAdd, Nat.reduceSub, Nat.reduceMul, reduceCtorEq, Int.reduceBEq, Int.reduceLT, Int.reduceLE, Int.reduceAdd, Int.reduceSub, Int.reduceEq, Int.reduceNeg, Int.reduceToNat, Int.reduceGT, Int.reduceGE, wi]⟩
          have fs := S2.grow (VE) (lowV)
          rw [hV] at fs
          first | exact fs | (rw [hZ] at fs; exact fs)
        have q' : ¬ Int.ofNat a2.c = Int.ofNat b2.c := fun e => q (Int.ofNat.inj e)
        have M5 := mem_iff S2.tree S2.B pa q r1
        have M6 := mem_iff S2.tree S2.A pb (fun e => q e.symm) r2
        by_cases m5 : a2.c ∈ b2.el
        · obtain ⟨u1, u2⟩ := M5.1 m5
          subst u1
          have cv : cmpV a2 b2 = 5 := by unfold cmpV; rw [if_neg q, if_pos m5]
          have le5 : Int.ofNat far ≤ Int.ofNat b2.el.length := by show (far : Int) ≤ _; exact Int.ofNat_le.2 u2
          obtain ⟨vY1, xY1, eY1, BY1, EY1, lY1⟩ := elder_c hσ (X := V) (by have := (VE).nx; have := S2.ext.nx; omega) b2
          obtain ⟨Y1, hY1⟩ : ∃ Y', Y' = xY1.getD V := ⟨_, rfl⟩
          rw [← hY1] at BY1 EY1 lY1
          have cY1 : (lim Try.prog σ).call 25 [.agg [u64 b2.c, u64 b2.b, u64 b2.h0, u64 b2.h1]] V = some (vY1, xY1) := eY1
          have aY1 : Y1.blk Z.nx = some ka := (EY1.blk (by omega)).trans aV
          have bY1 : Y1.blk (Z.nx + 1) = some kb := (EY1.blk (by omega)).trans bV
          have nxY1 : Z.nx + 2 ≤ Y1.nx := by have := EY1.nx; omega
          have EEY1 : Ext Z Y1 := (VE).trans EY1
          have lowY1 : Y1.low = h.nx := by rw [lY1, lowV]
          simp only [go_sem, Nat.reduceLT, Nat.reduceLeDiff, Nat.reduceEqDiff, Nat.reduceAdd, Nat.reduceSub, Nat.reduceMul, reduceCtorEq, Int.reduceBEq, Int.reduceLT, Int.reduceLE, Int.reduceAdd, Int.reduceSub, Int.reduceEq, Int.reduceNeg, Int.reduceToNat, Int.reduceGT, Int.reduceGE, i4, i5, i6, i7, i8, e0, e3, e4, e5, wi, row0, row1, ← hX, ← hZ, ← hV, aV, bV, ga0, ga1, ga2, ga3, gb0, gb1, gb2, gb3, cmp, ca2, cb2, len2, p1, p2, p3, p4, ab1, ab2, q', cv, cY1, ← hY1, aY1, bY1, BY1.len, le5]
          refine next _ _ ⟨t2, a2, b2, v32, lid2, lb, ?_, by omega, by simp only [go_sem, Nat.reduceLT, Nat.reduceLeDiff, Nat.reduceEqDiff, Nat.reduceAdd, Nat.reduceSub, Nat.reduceMul, reduceCtorEq, Int.reduceBEq, Int.reduceLT, Int.reduceLE, Int.reduceAdd, Int.reduceSub, Int.reduceEq, Int.reduceNeg, Int.reduceToNat, Int.reduceGT, Int.reduceGE, e0], by simp only [go_sem, Nat.reduceLT, Nat.reduceLeDiff, Nat.reduceEqDiff, Nat.reduceAdd, Nat.reduceSub, Nat.reduceMul, reduceCtorEq, Int.reduceBEq, Int.reduceLT, Int.reduceLE, Int.reduceAdd, Int.reduceSub, Int.reduceEq, Int.reduceNeg, Int.reduceToNat, Int.reduceGT, Int.reduceGE, e3], by simp only [go_sem, Nat.reduceLT, Nat.reduceLeDiff, Nat.reduceEqDiff, Nat.reduceAdd, Nat.reduceSub, Nat.reduceMul, reduceCtorEq, Int.reduceBEq, Int.reduceLT, Int.reduceLE, Int.reduceAdd, Int.reduceSub, Int.reduceEq, Int.reduceNeg, Int.reduceToNat, Int.reduceGT, Int.reduceGE, e4], by simp only [go_sem, Nat.reduceLT, Nat.reduceLeDiff, Nat.reduceEqDiff, Nat.reduceAdd, Nat.reduceSub, Nat.reduceMul, reduceCtorEq, Int.reduceBEq, Int.reduceLT, Int.reduceLE, Int.reduceAdd, Int.reduceSub, Int.reduceEq, Int.reduceNeg, Int.reduceToNat, Int.reduceGT, Int.reduceGE, wi]⟩
          have fs := S2.grow (EEY1) (lowY1)
          rw [hY1] at fs
          rw [hV] at fs
          first | exact fs | (rw [hZ] at fs; exact fs)
        cases up
        · by_cases m6 : b2.c ∈ a2.el
          · obtain ⟨u1, u2⟩ := M6.1 m6
            subst u1
            have cv : cmpV a2 b2 = 6 := by unfold cmpV; rw [if_neg q, if_neg m5, if_pos m6]
            have le6 : Int.ofNat way ≤ Int.ofNat a2.el.length := by show (way : Int) ≤ _; exact Int.ofNat_le.2 u2
            obtain ⟨vY2, xY2, eY2, BY2, EY2, lY2⟩ := elder_c hσ (X := V) (by have := (VE).nx; have := S2.ext.nx; omega) a2
            obtain ⟨Y2, hY2⟩ : ∃ Y', Y' = xY2.getD V := ⟨_, rfl⟩
            rw [← hY2] at BY2 EY2 lY2
            have cY2 : (lim Try.prog σ).call 25 [.agg [u64 a2.c, u64 a2.b, u64 a2.h0, u64 a2.h1]] V = some (vY2, xY2) := eY2
            have aY2 : Y2.blk Z.nx = some ka := (EY2.blk (by omega)).trans aV
            have bY2 : Y2.blk (Z.nx + 1) = some kb := (EY2.blk (by omega)).trans bV
            have nxY2 : Z.nx + 2 ≤ Y2.nx := by have := EY2.nx; omega
            have EEY2 : Ext Z Y2 := (VE).trans EY2
            have lowY2 : Y2.low = h.nx := by rw [lY2, lowV]
            simp only [go_sem, Nat.reduceLT, Nat.reduceLeDiff, Nat.reduceEqDiff, Nat.reduceAdd, Nat.reduceSub, Nat.reduceMul, reduceCtorEq, Int.reduceBEq, Int.reduceLT, Int.reduceLE, Int.reduceAdd, Int.reduceSub, Int.reduceEq, Int.reduceNeg, Int.reduceToNat, Int.reduceGT, Int.reduceGE, i4, i5, i6, i7, i8, e0, e3, e4, e5, wi, row0, row1, ← hX, ← hZ, ← hV, aV, bV, ga0, ga1, ga2, ga3, gb0, gb1, gb2, gb3, cmp, ca2, cb2, len2, p1, p2, p3, p4, ab1, ab2, q', cv, cY2, ← hY2, aY2, bY2, BY2.len, le6]
            refine next _ _ ⟨t2, a2, b2, v32, lid2, lb, ?_, by omega, by simp only [go_sem, Nat.reduceLT, Nat.reduceLeDiff, Nat.reduceEqDiff, Nat.reduceAdd, Nat.reduceSub, Nat.reduceMul, reduceCtorEq, Int.reduceBEq, Int.reduceLT, Int.reduceLE, Int.reduceAdd, Int.reduceSub, Int.reduceEq, Int.reduceNeg, Int.reduceToNat, Int.reduceGT, Int.reduceGE, e0], by simp only [go_sem, Nat.reduceLT, Nat.reduceLeDiff, Nat.reduceEqDiff, Nat.reduceAdd, Nat.reduceSub, Nat.reduceMul, reduceCtorEq, Int.reduceBEq, Int.reduceLT, Int.reduceLE, Int.reduceAdd, Int.reduceSub, Int.reduceEq, Int.reduceNeg, Int.reduceToNat, Int.reduceGT, Int.reduceGE, e3], by simp only [go_sem, Nat.reduceLT, Nat.reduceLeDiff, Nat.reduceEqDiff, Nat.reduceAdd, Nat.reduceSub, Nat.reduceMul, reduceCtorEq, Int.reduceBEq, Int.reduceLT, Int.reduceLE, Int.reduceAdd, Int.reduceSub, Int.reduceEq, Int.reduceNeg, Int.reduceToNat, Int.reduceGT, Int.reduceGE, e4], by simp only [go_sem, Nat.reduceLT, Nat.reduceLeDiff, Nat.reduceEqDiff, Nat.reduceAdd, Nat.reduceSub, Nat.reduceMul, reduceCtorEq, Int.reduceBEq, Int.reduceLT, Int.reduceLE, Int.reduceAdd, Int.reduceSub, Int.reduceEq, Int.reduceNeg, Int.reduceToNat, Int.reduceGT, Int.reduceGE, wi]⟩
            have fs := S2.grow (EEY2) (lowY2)
            rw [hY2] at fs
            rw [hV] at fs
            first | exact fs | (rw [hZ] at fs; exact fs)
          cases down
          · have shr : (lim Try.prog σ).call 26 [v32, .agg [u64 a2.c, u64 a2.b, u64 a2.h0, u64 a2.h1], .agg [u64 b2.c, u64 b2.b, u64 b2.h0, u64 b2.h1]] V = some (.bool (decide (sh a2.el b2.el ≠ 0)), none) := lshared_run hσ (S2.tl.ext VE) S2.tree (by omega) a2 b2 la2 lb2 S2.A.ch S2.B.ch
            by_cases s0 : sh a2.el b2.el ≠ 0
            · have cv : cmpV a2 b2 = 7 := by unfold cmpV; rw [if_neg q, if_neg m5, if_neg m6, if_pos s0]
              have ds : decide (sh a2.el b2.el ≠ 0) = true := decide_eq_true s0
              rw [ds] at shr
              simp only [go_sem, Nat.reduceLT, Nat.reduceLeDiff, Nat.reduceEqDiff, Nat.reduceAdd, Nat.reduceSub, Nat.reduceMul, reduceCtorEq, Int.reduceBEq, Int.reduceLT, Int.reduceLE, Int.reduceAdd, Int.reduceSub, Int.reduceEq, Int.reduceNeg, Int.reduceToNat, Int.reduceGT, Int.reduceGE, i4, i5, i6, i7, i8, e0, e3, e4, e5, wi, row0, row1, ← hX, ← hZ, ← hV, aV, bV, ga0, ga1, ga2, ga3, gb0, gb1, gb2, gb3, cmp, ca2, cb2, len2, p1, p2, p3, p4, ab1, ab2, q', cv, shr]
              refine next _ _ ⟨t2, a2, b2, v32, lid2, lb, ?_, by omega, by simp only [go_sem, Nat.reduceLT, Nat.reduceLeDiff, Nat.reduceEqDiff, Nat.reduceAdd, Nat.reduceSub, Nat.reduceMul, reduceCtorEq, Int.reduceBEq, Int.reduceLT, Int.reduceLE, Int.reduceAdd, Int.reduceSub, Int.reduceEq, Int.reduceNeg, Int.reduceToNat, Int.reduceGT, Int.reduceGE, e0], by simp only [go_sem, Nat.reduceLT, Nat.reduceLeDiff, Nat.reduceEqDiff, Nat.reduceAdd, Nat.reduceSub, Nat.reduceMul, reduceCtorEq, Int.reduceBEq, Int.reduceLT, Int.reduceLE, Int.reduceAdd, Int.reduceSub, Int.reduceEq, Int.reduceNeg, Int.reduceToNat, Int.reduceGT, Int.reduceGE, e3], by simp only [go_sem, Nat.reduceLT, Nat.reduceLeDiff, Nat.reduceEqDiff, Nat.reduceAdd, Nat.reduceSub, Nat.reduceMul, reduceCtorEq, Int.reduceBEq, Int.reduceLT, Int.reduceLE, Int.reduceAdd, Int.reduceSub, Int.reduceEq, Int.reduceNeg, Int.reduceToNat, Int.reduceGT, Int.reduceGE, e4], by simp only [go_sem, Nat.reduceLT, Nat.reduceLeDiff, Nat.reduceEqDiff, Nat.reduceAdd, Nat.reduceSub, Nat.reduceMul, reduceCtorEq, Int.reduceBEq, Int.reduceLT, Int.reduceLE, Int.reduceAdd, Int.reduceSub, Int.reduceEq, Int.reduceNeg, Int.reduceToNat, Int.reduceGT, Int.reduceGE, wi]⟩
              have fs := S2.grow (VE) (lowV)
              rw [hV] at fs
              first | exact fs | (rw [hZ] at fs; exact fs)
            · have cv : cmpV a2 b2 = 8 := by unfold cmpV; rw [if_neg q, if_neg m5, if_neg m6, if_neg s0]
              have ds : decide (sh a2.el b2.el ≠ 0) = false := decide_eq_false s0
              rw [ds] at shr
              simp only [go_sem, Nat.reduceLT, Nat.reduceLeDiff, Nat.reduceEqDiff, Nat.reduceAdd, Nat.reduceSub, Nat.reduceMul, reduceCtorEq, Int.reduceBEq, Int.reduceLT, Int.reduceLE, Int.reduceAdd, Int.reduceSub, Int.reduceEq, Int.reduceNeg, Int.reduceToNat, Int.reduceGT, Int.reduceGE, i4, i5, i6, i7, i8, e0, e3, e4, e5, wi, row0, row1, ← hX, ← hZ, ← hV, aV, bV, ga0, ga1, ga2, ga3, gb0, gb1, gb2, gb3, cmp, ca2, cb2, len2, p1, p2, p3, p4, ab1, ab2, q', cv, shr]
              refine next _ _ ⟨t2, a2, b2, v32, lid2, lb, ?_, by omega, by simp only [go_sem, Nat.reduceLT, Nat.reduceLeDiff, Nat.reduceEqDiff, Nat.reduceAdd, Nat.reduceSub, Nat.reduceMul, reduceCtorEq, Int.reduceBEq, Int.reduceLT, Int.reduceLE, Int.reduceAdd, Int.reduceSub, Int.reduceEq, Int.reduceNeg, Int.reduceToNat, Int.reduceGT, Int.reduceGE, e0], by simp only [go_sem, Nat.reduceLT, Nat.reduceLeDiff, Nat.reduceEqDiff, Nat.reduceAdd, Nat.reduceSub, Nat.reduceMul, reduceCtorEq, Int.reduceBEq, Int.reduceLT, Int.reduceLE, Int.reduceAdd, Int.reduceSub, Int.reduceEq, Int.reduceNeg, Int.reduceToNat, Int.reduceGT, Int.reduceGE, e3], by simp only [go_sem, Nat.reduceLT, Nat.reduceLeDiff, Nat.reduceEqDiff, Nat.reduceAdd, Nat.reduceSub, Nat.reduceMul, reduceCtorEq, Int.reduceBEq, Int.reduceLT, Int.reduceLE, Int.reduceAdd, Int.reduceSub, Int.reduceEq, Int.reduceNeg, Int.reduceToNat, Int.reduceGT, Int.reduceGE, e4], by simp only [go_sem, Nat.reduceLT, Nat.reduceLeDiff, Nat.reduceEqDiff, Nat.reduceAdd, Nat.reduceSub, Nat.reduceMul, reduceCtorEq, Int.reduceBEq, Int.reduceLT, Int.reduceLE, Int.reduceAdd, Int.reduceSub, Int.reduceEq, Int.reduceNeg, Int.reduceToNat, Int.reduceGT, Int.reduceGE, wi]⟩
              have fs := S2.grow (VE) (lowV)
              rw [hV] at fs
              first | exact fs | (rw [hZ] at fs; exact fs)
          · obtain ⟨vY2, xY2, eY2, BY2, EY2, lY2⟩ := elder_c hσ (X := V) (by have := (VE).nx; have := S2.ext.nx; omega) a2
            obtain ⟨Y2, hY2⟩ : ∃ Y', Y' = xY2.getD V := ⟨_, rfl⟩
            rw [← hY2] at BY2 EY2 lY2
            have cY2 : (lim Try.prog σ).call 25 [.agg [u64 a2.c, u64 a2.b, u64 a2.h0, u64 a2.h1]] V = some (vY2, xY2) := eY2
            have aY2 : Y2.blk Z.nx = some ka := (EY2.blk (by omega)).trans aV
            have bY2 : Y2.blk (Z.nx + 1) = some kb := (EY2.blk (by omega)).trans bV
            have nxY2 : Z.nx + 2 ≤ Y2.nx := by have := EY2.nx; omega
            have EEY2 : Ext Z Y2 := (VE).trans EY2
            have lowY2 : Y2.low = h.nx := by rw [lY2, lowV]
            have nle6 : ¬ Int.ofNat way ≤ Int.ofNat a2.el.length := fun e => m6 (M6.2 ⟨rfl, Int.ofNat_le.1 e⟩)
            have shr : (lim Try.prog σ).call 26 [v32, .agg [u64 a2.c, u64 a2.b, u64 a2.h0, u64 a2.h1], .agg [u64 b2.c, u64 b2.b, u64 b2.h0, u64 b2.h1]] Y2 = some (.bool (decide (sh a2.el b2.el ≠ 0)), none) := lshared_run hσ (S2.tl.ext EEY2) S2.tree (by omega) a2 b2 la2 lb2 S2.A.ch S2.B.ch
            by_cases s0 : sh a2.el b2.el ≠ 0
            · have cv : cmpV a2 b2 = 7 := by unfold cmpV; rw [if_neg q, if_neg m5, if_neg m6, if_pos s0]
              have ds : decide (sh a2.el b2.el ≠ 0) = true := decide_eq_true s0
              rw [ds] at shr
              simp only [go_sem, Nat.reduceLT, Nat.reduceLeDiff, Nat.reduceEqDiff, Nat.reduceAdd, Nat.reduceSub, Nat.reduceMul, reduceCtorEq, Int.reduceBEq, Int.reduceLT, Int.reduceLE, Int.reduceAdd, Int.reduceSub, Int.reduceEq, Int.reduceNeg, Int.reduceToNat, Int.reduceGT, Int.reduceGE, i4, i5, i6, i7, i8, e0, e3, e4, e5, wi, row0, row1, ← hX, ← hZ, ← hV, aV, bV, ga0, ga1, ga2, ga3, gb0, gb1, gb2, gb3, cmp, ca2, cb2, len2, p1, p2, p3, p4, ab1, ab2, q', cv, cY2, ← hY2, aY2, bY2, BY2.len, nle6, shr]
              refine next _ _ ⟨t2, a2, b2, v32, lid2, lb, ?_, by omega, by simp only [go_sem, Nat.reduceLT, Nat.reduceLeDiff, Nat.reduceEqDiff, Nat.reduceAdd, Nat.reduceSub, Nat.reduceMul, reduceCtorEq, Int.reduceBEq, Int.reduceLT, Int.reduceLE, Int.reduceAdd, Int.reduceSub, Int.reduceEq, Int.reduceNeg, Int.reduceToNat, Int.reduceGT, Int.reduceGE, e0], by simp only [go_sem, Nat.reduceLT, Nat.reduceLeDiff, Nat.reduceEqDiff, Nat.reduceAdd, Nat.reduceSub, Nat.reduceMul, reduceCtorEq, Int.reduceBEq, Int.reduceLT, Int.reduceLE, Int.reduceAdd, Int.reduceSub, Int.reduceEq, Int.reduceNeg, Int.reduceToNat, Int.reduceGT, Int.reduceGE, e3], by simp only [go_sem, Nat.reduceLT, Nat.reduceLeDiff, Nat.reduceEqDiff, Nat.reduceAdd, Nat.reduceSub, Nat.reduceMul, reduceCtorEq, Int.reduceBEq, Int.reduceLT, Int.reduceLE, Int.reduceAdd, Int.reduceSub, Int.reduceEq, Int.reduceNeg, Int.reduceToNat, Int.reduceGT, Int.reduceGE, e4], by simp only [go_sem, Nat.reduceLT, Nat.reduceLeDiff, Nat.reduceEqDiff, Nat.reduceAdd, Nat.reduceSub, Nat.reduceMul, reduceCtorEq, Int.reduceBEq, Int.reduceLT, Int.reduceLE, Int.reduceAdd, Int.reduceSub, Int.reduceEq, Int.reduceNeg, Int.reduceToNat, Int.reduceGT, Int.reduceGE, wi]⟩
              have fs := S2.grow (EEY2) (lowY2)
              rw [hY2] at fs
              rw [hV] at fs
              first | exact fs | (rw [hZ] at fs; exact fs)
            · have cv : cmpV a2 b2 = 8 := by unfold cmpV; rw [if_neg q, if_neg m5, if_neg m6, if_neg s0]
              have ds : decide (sh a2.el b2.el ≠ 0) = false := decide_eq_false s0
              rw [ds] at shr
              simp only [go_sem, Nat.reduceLT, Nat.reduceLeDiff, Nat.reduceEqDiff, Nat.reduceAdd, Nat.reduceSub, Nat.reduceMul, reduceCtorEq, Int.reduceBEq, Int.reduceLT, Int.reduceLE, Int.reduceAdd, Int.reduceSub, Int.reduceEq, Int.reduceNeg, Int.reduceToNat, Int.reduceGT, Int.reduceGE, i4, i5, i6, i7, i8, e0, e3, e4, e5, wi, row0, row1, ← hX, ← hZ, ← hV, aV, bV, ga0, ga1, ga2, ga3, gb0, gb1, gb2, gb3, cmp, ca2, cb2, len2, p1, p2, p3, p4, ab1, ab2, q', cv, cY2, ← hY2, aY2, bY2, BY2.len, nle6, shr]
              refine next _ _ ⟨t2, a2, b2, v32, lid2, lb, ?_, by omega, by simp only [go_sem, Nat.reduceLT, Nat.reduceLeDiff, Nat.reduceEqDiff, Nat.reduceAdd, Nat.reduceSub, Nat.reduceMul, reduceCtorEq, Int.reduceBEq, Int.reduceLT, Int.reduceLE, Int.reduceAdd, Int.reduceSub, Int.reduceEq, Int.reduceNeg, Int.reduceToNat, Int.reduceGT, Int.reduceGE, e0], by simp only [go_sem, Nat.reduceLT, Nat.reduceLeDiff, Nat.reduceEqDiff, Nat.reduceAdd, Nat.reduceSub, Nat.reduceMul, reduceCtorEq, Int.reduceBEq, Int.reduceLT, Int.reduceLE, Int.reduceAdd, Int.reduceSub, Int.reduceEq, Int.reduceNeg, Int.reduceToNat, Int.reduceGT, Int.reduceGE, e3], by simp only [go_sem, Nat.reduceLT, Nat.reduceLeDiff, Nat.reduceEqDiff, Nat.reduceAdd, Nat.reduceSub, Nat.reduceMul, reduceCtorEq, Int.reduceBEq, Int.reduceLT, Int.reduceLE, Int.reduceAdd, Int.reduceSub, Int.reduceEq, Int.reduceNeg, Int.reduceToNat, Int.reduceGT, Int.reduceGE, e4], by simp only [go_sem, Nat.reduceLT, Nat.reduceLeDiff, Nat.reduceEqDiff, Nat.reduceAdd, Nat.reduceSub, Nat.reduceMul, reduceCtorEq, Int.reduceBEq, Int.reduceLT, Int.reduceLE, Int.reduceAdd, Int.reduceSub, Int.reduceEq, Int.reduceNeg, Int.reduceToNat, Int.reduceGT, Int.reduceGE, wi]⟩
              have fs := S2.grow (EEY2) (lowY2)
              rw [hY2] at fs
              rw [hV] at fs
              first | exact fs | (rw [hZ] at fs; exact fs)
        · obtain ⟨vY1, xY1, eY1, BY1, EY1, lY1⟩ := elder_c hσ (X := V) (by have := (VE).nx; have := S2.ext.nx; omega) b2
          obtain ⟨Y1, hY1⟩ : ∃ Y', Y' = xY1.getD V := ⟨_, rfl⟩
          rw [← hY1] at BY1 EY1 lY1
          have cY1 : (lim Try.prog σ).call 25 [.agg [u64 b2.c, u64 b2.b, u64 b2.h0, u64 b2.h1]] V = some (vY1, xY1) := eY1
          have aY1 : Y1.blk Z.nx = some ka := (EY1.blk (by omega)).trans aV
          have bY1 : Y1.blk (Z.nx + 1) = some kb := (EY1.blk (by omega)).trans bV
          have nxY1 : Z.nx + 2 ≤ Y1.nx := by have := EY1.nx; omega
          have EEY1 : Ext Z Y1 := (VE).trans EY1
          have lowY1 : Y1.low = h.nx := by rw [lY1, lowV]
          have nle5 : ¬ Int.ofNat far ≤ Int.ofNat b2.el.length := fun e => m5 (M5.2 ⟨rfl, Int.ofNat_le.1 e⟩)
          by_cases m6 : b2.c ∈ a2.el
          · obtain ⟨u1, u2⟩ := M6.1 m6
            subst u1
            have cv : cmpV a2 b2 = 6 := by unfold cmpV; rw [if_neg q, if_neg m5, if_pos m6]
            have le6 : Int.ofNat way ≤ Int.ofNat a2.el.length := by show (way : Int) ≤ _; exact Int.ofNat_le.2 u2
            obtain ⟨vY2, xY2, eY2, BY2, EY2, lY2⟩ := elder_c hσ (X := Y1) (by have := (EEY1).nx; have := S2.ext.nx; omega) a2
            obtain ⟨Y2, hY2⟩ : ∃ Y', Y' = xY2.getD Y1 := ⟨_, rfl⟩
            rw [← hY2] at BY2 EY2 lY2
            have cY2 : (lim Try.prog σ).call 25 [.agg [u64 a2.c, u64 a2.b, u64 a2.h0, u64 a2.h1]] Y1 = some (vY2, xY2) := eY2
            have aY2 : Y2.blk Z.nx = some ka := (EY2.blk (by omega)).trans aY1
            have bY2 : Y2.blk (Z.nx + 1) = some kb := (EY2.blk (by omega)).trans bY1
            have nxY2 : Z.nx + 2 ≤ Y2.nx := by have := EY2.nx; omega
            have EEY2 : Ext Z Y2 := (EEY1).trans EY2
            have lowY2 : Y2.low = h.nx := by rw [lY2, lowY1]
            simp only [go_sem, Nat.reduceLT, Nat.reduceLeDiff, Nat.reduceEqDiff, Nat.reduceAdd, Nat.reduceSub, Nat.reduceMul, reduceCtorEq, Int.reduceBEq, Int.reduceLT, Int.reduceLE, Int.reduceAdd, Int.reduceSub, Int.reduceEq, Int.reduceNeg, Int.reduceToNat, Int.reduceGT, Int.reduceGE, i4, i5, i6, i7, i8, e0, e3, e4, e5, wi, row0, row1, ← hX, ← hZ, ← hV, aV, bV, ga0, ga1, ga2, ga3, gb0, gb1, gb2, gb3, cmp, ca2, cb2, len2, p1, p2, p3, p4, ab1, ab2, q', cv, cY1, ← hY1, aY1, bY1, BY1.len, nle5, cY2, ← hY2, aY2, bY2, BY2.len, le6]
            refine next _ _ ⟨t2, a2, b2, v32, lid2, lb, ?_, by omega, by simp only [go_sem, Nat.reduceLT, Nat.reduceLeDiff, Nat.reduceEqDiff, Nat.reduceAdd, Nat.reduceSub, Nat.reduceMul, reduceCtorEq, Int.reduceBEq, Int.reduceLT, Int.reduceLE, Int.reduceAdd, Int.reduceSub, Int.reduceEq, Int.reduceNeg, Int.reduceToNat, Int.reduceGT, Int.reduceGE, e0], by simp only [go_sem, Nat.reduceLT, Nat.reduceLeDiff, Nat.reduceEqDiff, Nat.reduceAdd, Nat.reduceSub, Nat.reduceMul, reduceCtorEq, Int.reduceBEq, Int.reduceLT, Int.reduceLE, Int.reduceAdd, Int.reduceSub, Int.reduceEq, Int.reduceNeg, Int.reduceToNat, Int.reduceGT, Int.reduceGE, e3], by simp only [go_sem, Nat.reduceLT, Nat.reduceLeDiff, Nat.reduceEqDiff, Nat.reduceAdd, Nat.reduceSub, Nat.reduceMul, reduceCtorEq, Int.reduceBEq, Int.reduceLT, Int.reduceLE, Int.reduceAdd, Int.reduceSub, Int.reduceEq, Int.reduceNeg, Int.reduceToNat, Int.reduceGT, Int.reduceGE, e4], by simp only [go_sem, Nat.reduceLT, Nat.reduceLeDiff, Nat.reduceEqDiff, Nat.reduceAdd, Nat.reduceSub, Nat.reduceMul, reduceCtorEq, Int.reduceBEq, Int.reduceLT, Int.reduceLE, Int.reduceAdd, Int.reduceSub, Int.reduceEq, Int.reduceNeg, Int.reduceToNat, Int.reduceGT, Int.reduceGE, wi]⟩
            have fs := S2.grow (EEY2) (lowY2)
            rw [hY2] at fs
            rw [hY1] at fs
            rw [hV] at fs
            first | exact fs | (rw [hZ] at fs; exact fs)
          cases down
          · have shr : (lim Try.prog σ).call 26 [v32, .agg [u64 a2.c, u64 a2.b, u64 a2.h0, u64 a2.h1], .agg [u64 b2.c, u64 b2.b, u64 b2.h0, u64 b2.h1]] Y1 = some (.bool (decide (sh a2.el b2.el ≠ 0)), none) := lshared_run hσ (S2.tl.ext EEY1) S2.tree (by omega) a2 b2 la2 lb2 S2.A.ch S2.B.ch
            by_cases s0 : sh a2.el b2.el ≠ 0
            · have cv : cmpV a2 b2 = 7 := by unfold cmpV; rw [if_neg q, if_neg m5, if_neg m6, if_pos s0]
              have ds : decide (sh a2.el b2.el ≠ 0) = true := decide_eq_true s0
              rw [ds] at shr
              simp only [go_sem, Nat.reduceLT, Nat.reduceLeDiff, Nat.reduceEqDiff, Nat.reduceAdd, Nat.reduceSub, Nat.reduceMul, reduceCtorEq, Int.reduceBEq, Int.reduceLT, Int.reduceLE, Int.reduceAdd, Int.reduceSub, Int.reduceEq, Int.reduceNeg, Int.reduceToNat, Int.reduceGT, Int.reduceGE, i4, i5, i6, i7, i8, e0, e3, e4, e5, wi, row0, row1, ← hX, ← hZ, ← hV, aV, bV, ga0, ga1, ga2, ga3, gb0, gb1, gb2, gb3, cmp, ca2, cb2, len2, p1, p2, p3, p4, ab1, ab2, q', cv, cY1, ← hY1, aY1, bY1, BY1.len, nle5, shr]
              refine next _ _ ⟨t2, a2, b2, v32, lid2, lb, ?_, by omega, by simp only [go_sem, Nat.reduceLT, Nat.reduceLeDiff, Nat.reduceEqDiff, Nat.reduceAdd, Nat.reduceSub, Nat.reduceMul, reduceCtorEq, Int.reduceBEq, Int.reduceLT, Int.reduceLE, Int.reduceAdd, Int.reduceSub, Int.reduceEq, Int.reduceNeg, Int.reduceToNat, Int.reduceGT, Int.reduceGE, e0], by simp only [go_sem, Nat.reduceLT, Nat.reduceLeDiff, Nat.reduceEqDiff, Nat.reduceAdd, Nat.reduceSub, Nat.reduceMul, reduceCtorEq, Int.reduceBEq, Int.reduceLT, Int.reduceLE, Int.reduceAdd, Int.reduceSub, Int.reduceEq, Int.reduceNeg, Int.reduceToNat, Int.reduceGT, Int.reduceGE, e3], by simp only [go_sem, Nat.reduceLT, Nat.reduceLeDiff, Nat.reduceEqDiff, Nat.reduceAdd, Nat.reduceSub, Nat.reduceMul, reduceCtorEq, Int.reduceBEq, Int.reduceLT, Int.reduceLE, Int.reduceAdd, Int.reduceSub, Int.reduceEq, Int.reduceNeg, Int.reduceToNat, Int.reduceGT, Int.reduceGE, e4], by simp only [go_sem, Nat.reduceLT, Nat.reduceLeDiff, Nat.reduceEqDiff, Nat.reduceAdd, Nat.reduceSub, Nat.reduceMul, reduceCtorEq, Int.reduceBEq, Int.reduceLT, Int.reduceLE, Int.reduceAdd, Int.reduceSub, Int.reduceEq, Int.reduceNeg, Int.reduceToNat, Int.reduceGT, Int.reduceGE, wi]⟩
              have fs := S2.grow (EEY1) (lowY1)
              rw [hY1] at fs
              rw [hV] at fs
              first | exact fs | (rw [hZ] at fs; exact fs)
            · have cv : cmpV a2 b2 = 8 := by unfold cmpV; rw [if_neg q, if_neg m5, if_neg m6, if_neg s0]
              have ds : decide (sh a2.el b2.el ≠ 0) = false := decide_eq_false s0
              rw [ds] at shr
              simp only [go_sem, Nat.reduceLT, Nat.reduceLeDiff, Nat.reduceEqDiff, Nat.reduceAdd, Nat.reduceSub, Nat.reduceMul, reduceCtorEq, Int.reduceBEq, Int.reduceLT, Int.reduceLE, Int.reduceAdd, Int.reduceSub, Int.reduceEq, Int.reduceNeg, Int.reduceToNat, Int.reduceGT, Int.reduceGE, i4, i5, i6, i7, i8, e0, e3, e4, e5, wi, row0, row1, ← hX, ← hZ, ← hV, aV, bV, ga0, ga1, ga2, ga3, gb0, gb1, gb2, gb3, cmp, ca2, cb2, len2, p1, p2, p3, p4, ab1, ab2, q', cv, cY1, ← hY1, aY1, bY1, BY1.len, nle5, shr]
              refine next _ _ ⟨t2, a2, b2, v32, lid2, lb, ?_, by omega, by simp only [go_sem, Nat.reduceLT, Nat.reduceLeDiff, Nat.reduceEqDiff, Nat.reduceAdd, Nat.reduceSub, Nat.reduceMul, reduceCtorEq, Int.reduceBEq, Int.reduceLT, Int.reduceLE, Int.reduceAdd, Int.reduceSub, Int.reduceEq, Int.reduceNeg, Int.reduceToNat, Int.reduceGT, Int.reduceGE, e0], by simp only [go_sem, Nat.reduceLT, Nat.reduceLeDiff, Nat.reduceEqDiff, Nat.reduceAdd, Nat.reduceSub, Nat.reduceMul, reduceCtorEq, Int.reduceBEq, Int.reduceLT, Int.reduceLE, Int.reduceAdd, Int.reduceSub, Int.reduceEq, Int.reduceNeg, Int.reduceToNat, Int.reduceGT, Int.reduceGE, e3], by simp only [go_sem, Nat.reduceLT, Nat.reduceLeDiff, Nat.reduceEqDiff, Nat.reduceAdd, Nat.reduceSub, Nat.reduceMul, reduceCtorEq, Int.reduceBEq, Int.reduceLT, Int.reduceLE, Int.reduceAdd, Int.reduceSub, Int.reduceEq, Int.reduceNeg, Int.reduceToNat, Int.reduceGT, Int.reduceGE, e4], by simp only [go_sem, Nat.reduceLT, Nat.reduceLeDiff, Nat.reduceEqDiff, Nat.reduceAdd, Nat.reduceSub, Nat.reduceMul, reduceCtorEq, Int.reduceBEq, Int.reduceLT, Int.reduceLE, Int.reduceAdd, Int.reduceSub, Int.reduceEq, Int.reduceNeg, Int.reduceToNat, Int.reduceGT, Int.reduceGE, wi]⟩
              have fs := S2.grow (EEY1) (lowY1)
              rw [hY1] at fs
              rw [hV] at fs
              first | exact fs | (rw [hZ] at fs; exact fs)
          · obtain ⟨vY2, xY2, eY2, BY2, EY2, lY2⟩ := elder_c hσ (X := Y1) (by have := (EEY1).nx; have := S2.ext.nx; omega) a2
            obtain ⟨Y2, hY2⟩ : ∃ Y', Y' = xY2.getD Y1 := ⟨_, rfl⟩
            rw [← hY2] at BY2 EY2 lY2
            have cY2 : (lim Try.prog σ).call 25 [.agg [u64 a2.c, u64 a2.b, u64 a2.h0, u64 a2.h1]] Y1 = some (vY2, xY2) := eY2
            have aY2 : Y2.blk Z.nx = some ka := (EY2.blk (by omega)).trans aY1
            have bY2 : Y2.blk (Z.nx + 1) = some kb := (EY2.blk (by omega)).trans bY1
            have nxY2 : Z.nx + 2 ≤ Y2.nx := by have := EY2.nx; omega
            have EEY2 : Ext Z Y2 := (EEY1).trans EY2
            have lowY2 : Y2.low = h.nx := by rw [lY2, lowY1]
            have nle6 : ¬ Int.ofNat way ≤ Int.ofNat a2.el.length := fun e => m6 (M6.2 ⟨rfl, Int.ofNat_le.1 e⟩)
            have shr : (lim Try.prog σ).call 26 [v32, .agg [u64 a2.c, u64 a2.b, u64 a2.h0, u64 a2.h1], .agg [u64 b2.c, u64 b2.b, u64 b2.h0, u64 b2.h1]] Y2 = some (.bool (decide (sh a2.el b2.el ≠ 0)), none) := lshared_run hσ (S2.tl.ext EEY2) S2.tree (by omega) a2 b2 la2 lb2 S2.A.ch S2.B.ch
            by_cases s0 : sh a2.el b2.el ≠ 0
            · have cv : cmpV a2 b2 = 7 := by unfold cmpV; rw [if_neg q, if_neg m5, if_neg m6, if_pos s0]
              have ds : decide (sh a2.el b2.el ≠ 0) = true := decide_eq_true s0
              rw [ds] at shr
              simp only [go_sem, Nat.reduceLT, Nat.reduceLeDiff, Nat.reduceEqDiff, Nat.reduceAdd, Nat.reduceSub, Nat.reduceMul, reduceCtorEq, Int.reduceBEq, Int.reduceLT, Int.reduceLE, Int.reduceAdd, Int.reduceSub, Int.reduceEq, Int.reduceNeg, Int.reduceToNat, Int.reduceGT, Int.reduceGE, i4, i5, i6, i7, i8, e0, e3, e4, e5, wi, row0, row1, ← hX, ← hZ, ← hV, aV, bV, ga0, ga1, ga2, ga3, gb0, gb1, gb2, gb3, cmp, ca2, cb2, len2, p1, p2, p3, p4, ab1, ab2, q', cv, cY1, ← hY1, aY1, bY1, BY1.len, nle5, cY2, ← hY2, aY2, bY2, BY2.len, nle6, shr]
              refine next _ _ ⟨t2, a2, b2, v32, lid2, lb, ?_, by omega, by simp only [go_sem, Nat.reduceLT, Nat.reduceLeDiff, Nat.reduceEqDiff, Nat.reduceAdd, Nat.reduceSub, Nat.reduceMul, reduceCtorEq, Int.reduceBEq, Int.reduceLT, Int.reduceLE, Int.reduceAdd, Int.reduceSub, Int.reduceEq, Int.reduceNeg, Int.reduceToNat, Int.reduceGT, Int.reduceGE, e0], by simp only [go_sem, Nat.reduceLT, Nat.reduceLeDiff, Nat.reduceEqDiff, Nat.reduceAdd, Nat.reduceSub, Nat.reduceMul, reduceCtorEq, Int.reduceBEq, Int.reduceLT, Int.reduceLE, Int.reduceAdd, Int.reduceSub, Int.reduceEq, Int.reduceNeg, Int.reduceToNat, Int.reduceGT, Int.reduceGE, e3], by simp only [go_sem, Nat.reduceLT, Nat.reduceLeDiff, Nat.reduceEqDiff, Nat.reduceAdd, Nat.reduceSub, Nat.reduceMul, reduceCtorEq, Int.reduceBEq, Int.reduceLT, Int.reduceLE, Int.reduceAdd, Int.reduceSub, Int.reduceEq, Int.reduceNeg, Int.reduceToNat, Int.reduceGT, Int.reduceGE, e4], by simp only [go_sem, Nat.reduceLT, Nat.reduceLeDiff, Nat.reduceEqDiff, Nat.reduceAdd, Nat.reduceSub, Nat.reduceMul, reduceCtorEq, Int.reduceBEq, Int.reduceLT, Int.reduceLE, Int.reduceAdd, Int.reduceSub, Int.reduceEq, Int.reduceNeg, Int.reduceToNat, Int.reduceGT, Int.reduceGE, wi]⟩
              have fs := S2.grow (EEY2) (lowY2)
              rw [hY2] at fs
              rw [hY1] at fs
              rw [hV] at fs
              first | exact fs | (rw [hZ] at fs; exact fs)
            · have cv : cmpV a2 b2 = 8 := by unfold cmpV; rw [if_neg q, if_neg m5, if_neg m6, if_neg s0]
              have ds : decide (sh a2.el b2.el ≠ 0) = false := decide_eq_false s0
              rw [ds] at shr
              simp only [go_sem, Nat.reduceLT, Nat.reduceLeDiff, Nat.reduceEqDiff, Nat.reduceAdd, Nat.reduceSub, Nat.reduceMul, reduceCtorEq, Int.reduceBEq, Int.reduceLT, Int.reduceLE, Int.reduceAdd, Int.reduceSub, Int.reduceEq, Int.reduceNeg, Int.reduceToNat, Int.reduceGT, Int.reduceGE, i4, i5, i6, i7, i8, e0, e3, e4, e5, wi, row0, row1, ← hX, ← hZ, ← hV, aV, bV, ga0, ga1, ga2, ga3, gb0, gb1, gb2, gb3, cmp, ca2, cb2, len2, p1, p2, p3, p4, ab1, ab2, q', cv, cY1, ← hY1, aY1, bY1, BY1.len, nle5, cY2, ← hY2, aY2, bY2, BY2.len, nle6, shr]
              refine next _ _ ⟨t2, a2, b2, v32, lid2, lb, ?_, by omega, by simp only [go_sem, Nat.reduceLT, Nat.reduceLeDiff, Nat.reduceEqDiff, Nat.reduceAdd, Nat.reduceSub, Nat.reduceMul, reduceCtorEq, Int.reduceBEq, Int.reduceLT, Int.reduceLE, Int.reduceAdd, Int.reduceSub, Int.reduceEq, Int.reduceNeg, Int.reduceToNat, Int.reduceGT, Int.reduceGE, e0], by simp only [go_sem, Nat.reduceLT, Nat.reduceLeDiff, Nat.reduceEqDiff, Nat.reduceAdd, Nat.reduceSub, Nat.reduceMul, reduceCtorEq, Int.reduceBEq, Int.reduceLT, Int.reduceLE, Int.reduceAdd, Int.reduceSub, Int.reduceEq, Int.reduceNeg, Int.reduceToNat, Int.reduceGT, Int.reduceGE, e3], by simp only [go_sem, Nat.reduceLT, Nat.reduceLeDiff, Nat.reduceEqDiff, Nat.reduceAdd, Nat.reduceSub, Nat.reduceMul, reduceCtorEq, Int.reduceBEq, Int.reduceLT, Int.reduceLE, Int.reduceAdd, Int.reduceSub, Int.reduceEq, Int.reduceNeg, Int.reduceToNat, Int.reduceGT, Int.reduceGE, e4], by simp only [go_sem, Nat.reduceLT, Nat.reduceLeDiff, Nat.reduceEqDiff, Nat.reduceAdd, Nat.reduceSub, Nat.reduceMul, reduceCtorEq, Int.reduceBEq, Int.reduceLT, Int.reduceLE, Int.reduceAdd, Int.reduceSub, Int.reduceEq, Int.reduceNeg, Int.reduceToNat, Int.reduceGT, Int.reduceGE, wi]⟩
              have fs := S2.grow (EEY2) (lowY2)
              rw [hY2] at fs
              rw [hY1] at fs
              rw [hV] at fs
              first | exact fs | (rw [hZ] at fs; exact fs)
    by_cases x2 : x = 2
    · subst x2
      have wr0 : IntKind.wrap .i64 0 = 0 := by decide
      have wr1 : IntKind.wrap .i64 1 = 1 := by decide
      simp only [go_sem, Nat.reduceLT, Nat.reduceLeDiff, Nat.reduceEqDiff, Nat.reduceAdd, Nat.reduceSub, Nat.reduceMul, reduceCtorEq, Int.reduceBEq, Int.reduceLT, Int.reduceLE, Int.reduceAdd, Int.reduceSub, Int.reduceEq, Int.reduceNeg, Int.reduceToNat, Int.reduceGT, Int.reduceGE, S.len, e0, e3, e4, e5, c0, ea, hb', hg0, row0, row1, hk1, kg0, kg1, kg2, kg3, kg4, kg5, kg6, kg7, hkn, hkr, lenl, cu, al0, en0, Ln.cv_eq, wr0, wr1]
      obtain ⟨X, hX⟩ : ∃ X, X = (h'.alloc (.cells (newBlk [CV.int .u64 0, CV.int .u64 0, CV.int .u64 0, CV.int .u64 0]))).put h'.nx (.cells (((((newBlk [CV.int .u64 0, CV.int .u64 0, CV.int .u64 0, CV.int .u64 0]).st 0 (u64 (ended a).c)).st 1 (u64 (ended a).b)).st 2 (u64 (ended a).h0)).st 3 (u64 (ended a).h1))) := ⟨_, rfl⟩
      have Xnx : X.nx = h'.nx + 1 := by rw [hX]; rfl
      have Xlow : X.low = h.nx := by rw [hX]; simp only [go_sem, Nat.reduceLT, Nat.reduceLeDiff, Nat.reduceEqDiff, Nat.reduceAdd, Nat.reduceSub, Nat.reduceMul, reduceCtorEq, Int.reduceBEq, Int.reduceLT, Int.reduceLE, Int.reduceAdd, Int.reduceSub, Int.reduceEq, Int.reduceNeg, Int.reduceToNat, Int.reduceGT, Int.reduceGE, st.low]; have := st.ext.nx; omega
      have XE : Ext h' X := by rw [hX]; exact (Ext.alloc' (Ext.refl _) _).put _ (Nat.le_refl _)
      have Xi : X.blk id = some bb := (XE.blk (Nat.lt_of_lt_of_le hid st.ext.nx)).trans hb'
      have Xk : X.blk lb = some k := (XE.blk st.lines.lt).trans hk1
      have Xn : X.blk h'.nx = some (((((newBlk [CV.int .u64 0, CV.int .u64 0, CV.int .u64 0, CV.int .u64 0]).st 0 (u64 (ended a).c)).st 1 (u64 (ended a).b)).st 2 (u64 (ended a).h0)).st 3 (u64 (ended a).h1)) := by rw [hX]; simp only [go_sem, Nat.reduceLT, Nat.reduceLeDiff, Nat.reduceEqDiff, Nat.reduceAdd, Nat.reduceSub, Nat.reduceMul, reduceCtorEq, Int.reduceBEq, Int.reduceLT, Int.reduceLE, Int.reduceAdd, Int.reduceSub, Int.reduceEq, Int.reduceNeg, Int.reduceToNat, Int.reduceGT, Int.reduceGE]
      have sX := st.grow XE Xlow
      refine cnd_go (Q := Q) (by kernel_rfl) ?_
      simp only [go_sem, Nat.reduceLT, Nat.reduceLeDiff, Nat.reduceEqDiff, Nat.reduceAdd, Nat.reduceSub, Nat.reduceMul, reduceCtorEq, Int.reduceBEq, Int.reduceLT, Int.reduceLE, Int.reduceAdd, Int.reduceSub, Int.reduceEq, Int.reduceNeg, Int.reduceToNat, Int.reduceGT, Int.reduceGE, S.len, e0, e3, e4, e5, c0, ea, hb', hg0, row0, row1, hk1, kg0, kg1, kg2, kg3, kg4, kg5, kg6, kg7, hkn, hkr, lenl, cu, al0, en0, Ln.cv_eq, wr0, wr1, ← hX, Xi, Xk, Xn]
      refine cnd_go (Q := Q) (by kernel_rfl) ?_
      have hx9 : h'.nx ≠ lb := by have := st.lines.lt; omega
      simp only [go_sem, Nat.reduceLT, Nat.reduceLeDiff, Nat.reduceEqDiff, Nat.reduceAdd, Nat.reduceSub, Nat.reduceMul, reduceCtorEq, Int.reduceBEq, Int.reduceLT, Int.reduceLE, Int.reduceAdd, Int.reduceSub, Int.reduceEq, Int.reduceNeg, Int.reduceToNat, Int.reduceGT, Int.reduceGE, S.len, e0, e3, e4, e5, c0, ea, hb', hg0, row0, row1, hk1, kg0, kg1, kg2, kg3, kg4, kg5, kg6, kg7, hkn, hkr, lenl, cu, al0, en0, Ln.cv_eq, wr0, wr1, beqC_4, hx9, ← hX, Xi, Xk, Xn]
      obtain ⟨Z, hZ⟩ : ∃ Z, Z = (X.put lb (.cells ((((k.st 0 (u64 (ended a).c)).st 1 (u64 (ended a).b)).st 2 (u64 (ended a).h0)).st 3 (u64 (ended a).h1)))).put lb (.cells ((((((((k.st 0 (u64 (ended a).c)).st 1 (u64 (ended a).b)).st 2 (u64 (ended a).h0)).st 3 (u64 (ended a).h1)).st 4 (u64 (ended a).c)).st 5 (u64 (ended a).b)).st 6 (u64 (ended a).h0)).st 7 (u64 (ended a).h1))) := ⟨_, rfl⟩
      obtain ⟨a2, ha2⟩ : ∃ a2, a2 = ended a := ⟨_, rfl⟩
      obtain ⟨b2, hb2⟩ : ∃ b2, b2 = ended a := ⟨_, rfl⟩
      obtain ⟨t2, ht2⟩ : ∃ t2, t2 = t := ⟨_, rfl⟩
      obtain ⟨lid2, hl2⟩ : ∃ l, l = lid := ⟨_, rfl⟩
      obtain ⟨v32, hv32⟩ : ∃ l, l = v3 := ⟨_, rfl⟩
      have htl : t2.length = t.length := by rw [ht2]
      have S2 : Sta h Z t2 a2 b2 v32 lid2 lb := by
        rw [hZ, ha2, hb2, ht2, hl2, hv32]
        have g1 := l8_set0 (a' := ended a) hkn hkg
        exact (sX.put (a' := ended a) (b' := b) (k' := ((((k.st 0 (u64 (ended a).c)).st 1 (u64 (ended a).b)).st 2 (u64 (ended a).h0)).st 3 (u64 (ended a).h1))) (by simp only [go_sem, Nat.reduceLT, Nat.reduceLeDiff, Nat.reduceEqDiff, Nat.reduceAdd, Nat.reduceSub, Nat.reduceMul, reduceCtorEq, Int.reduceBEq, Int.reduceLT, Int.reduceLE, Int.reduceAdd, Int.reduceSub, Int.reduceEq, Int.reduceNeg, Int.reduceToNat, Int.reduceGT, Int.reduceGE, hkn]) (by simp only [go_sem, Nat.reduceLT, Nat.reduceLeDiff, Nat.reduceEqDiff, Nat.reduceAdd, Nat.reduceSub, Nat.reduceMul, reduceCtorEq, Int.reduceBEq, Int.reduceLT, Int.reduceLE, Int.reduceAdd, Int.reduceSub, Int.reduceEq, Int.reduceNeg, Int.reduceToNat, Int.reduceGT, Int.reduceGE, hkr]) g1 (st.A.ended) st.B).put (by simp only [go_sem, Nat.reduceLT, Nat.reduceLeDiff, Nat.reduceEqDiff, Nat.reduceAdd, Nat.reduceSub, Nat.reduceMul, reduceCtorEq, Int.reduceBEq, Int.reduceLT, Int.reduceLE, Int.reduceAdd, Int.reduceSub, Int.reduceEq, Int.reduceNeg, Int.reduceToNat, Int.reduceGT, Int.reduceGE, hkn]) (by simp only [go_sem, Nat.reduceLT, Nat.reduceLeDiff, Nat.reduceEqDiff, Nat.reduceAdd, Nat.reduceSub, Nat.reduceMul, reduceCtorEq, Int.reduceBEq, Int.reduceLT, Int.reduceLE, Int.reduceAdd, Int.reduceSub, Int.reduceEq, Int.reduceNeg, Int.reduceToNat, Int.reduceGT, Int.reduceGE, hkr]) (l8_set1 (by simp only [go_sem, Nat.reduceLT, Nat.reduceLeDiff, Nat.reduceEqDiff, Nat.reduceAdd, Nat.reduceSub, Nat.reduceMul, reduceCtorEq, Int.reduceBEq, Int.reduceLT, Int.reduceLE, Int.reduceAdd, Int.reduceSub, Int.reduceEq, Int.reduceNeg, Int.reduceToNat, Int.reduceGT, Int.reduceGE, hkn]) g1) (st.A.ended) (st.A.ended)
      have e3 : evT env 3 = v32 := e3.trans hv32.symm
      obtain ⟨k2, hk2, hk2n, hk2r, hk2g⟩ := S2.lines.bk
      have kh0 := hk2g 0
      have kh1 := hk2g 1
      have kh2 := hk2g 2
      have kh3 := hk2g 3
      have kh4 := hk2g 4
      have kh5 := hk2g 5
      have kh6 := hk2g 6
      have kh7 := hk2g 7
      simp only [l8, nth] at kh0 kh1 kh2 kh3 kh4 kh5 kh6 kh7
      have hlb2 := S2.lines.lt
      have hne1 : lb ≠ Z.nx := by omega
      have hne2 : lb ≠ Z.nx + 1 := by omega
      refine cnd_go (Q := Q) (by kernel_rfl) ?_
      simp only [go_sem, Nat.reduceLT, Nat.reduceLeDiff, Nat.reduceEqDiff, Nat.reduceAdd, Nat.reduceSub, Nat.reduceMul, reduceCtorEq, Int.reduceBEq, Int.reduceLT, Int.reduceLE, Int.reduceAdd, Int.reduceSub, Int.reduceEq, Int.reduceNeg, Int.reduceToNat, Int.reduceGT, Int.reduceGE, e0, e3, e4, e5, wi, row0, row1, ← hX, ← hZ, hk2, kh0, kh1, kh2, kh3, kh4, kh5, kh6, kh7, hlb2, hne1, hne2]
      refine cnd_goF (Q := Q) (by kernel_rfl) ?_
      refine cnd_go' (Q := Q) (by kernel_rfl) ?_
      refine cnd_go' (Q := Q) ?_ ?_
      · rw [show leadN _ _ = 2 from by kernel_rfl]
        simp only [go_sem, Nat.reduceLT, Nat.reduceLeDiff, Nat.reduceEqDiff, Nat.reduceAdd, Nat.reduceSub, Nat.reduceMul, reduceCtorEq, Int.reduceBEq, Int.reduceLT, Int.reduceLE, Int.reduceAdd, Int.reduceSub, Int.reduceEq, Int.reduceNeg, Int.reduceToNat, Int.reduceGT, Int.reduceGE, List.take_succ_cons, List.take_zero, leadH_blk, leadH_gn, leadH_nx, ids_ptr, ids_4, beqC_4, leadId_lt, e0, e3, e4, e5, wi, row0, row1, ← hX, ← hZ, hk2, kh0, kh1, kh2, kh3, kh4, kh5, kh6, kh7, hlb2, hne1, hne2]
      simp only [go_sem, Nat.reduceLT, Nat.reduceLeDiff, Nat.reduceEqDiff, Nat.reduceAdd, Nat.reduceSub, Nat.reduceMul, reduceCtorEq, Int.reduceBEq, Int.reduceLT, Int.reduceLE, Int.reduceAdd, Int.reduceSub, Int.reduceEq, Int.reduceNeg, Int.reduceToNat, Int.reduceGT, Int.reduceGE, e0, e3, e4, e5, wi, row0, row1, ← hX, ← hZ, hk2, kh0, kh1, kh2, kh3, kh4, kh5, kh6, kh7, hlb2, hne1, hne2]
      obtain ⟨ka, hka⟩ : ∃ k, k = (((((newBlk [CV.int .u64 0, CV.int .u64 0, CV.int .u64 0, CV.int .u64 0]).st 0 (u64 a2.c)).st 1 (u64 a2.b)).st 2 (u64 a2.h0)).st 3 (u64 a2.h1)) := ⟨_, rfl⟩
      obtain ⟨kb, hkb⟩ : ∃ k, k = (((((newBlk [CV.int .u64 0, CV.int .u64 0, CV.int .u64 0, CV.int .u64 0]).st 0 (u64 b2.c)).st 1 (u64 b2.b)).st 2 (u64 b2.h0)).st 3 (u64 b2.h1)) := ⟨_, rfl⟩
      obtain ⟨V, hV⟩ : ∃ V, V = (((Z.alloc (.cells (newBlk [CV.int .u64 0, CV.int .u64 0, CV.int .u64 0, CV.int .u64 0]))).alloc (.cells (newBlk [CV.int .u64 0, CV.int .u64 0, CV.int .u64 0, CV.int .u64 0]))).put Z.nx (.cells (((((newBlk [CV.int .u64 0, CV.int .u64 0, CV.int .u64 0, CV.int .u64 0]).st 0 (u64 a2.c)).st 1 (u64 a2.b)).st 2 (u64 a2.h0)).st 3 (u64 a2.h1)))).put (Z.nx + 1) (.cells (((((newBlk [CV.int .u64 0, CV.int .u64 0, CV.int .u64 0, CV.int .u64 0]).st 0 (u64 b2.c)).st 1 (u64 b2.b)).st 2 (u64 b2.h0)).st 3 (u64 b2.h1))) := ⟨_, rfl⟩
      have VE : Ext Z V := by rw [hV]; exact (((Ext.alloc' (Ext.alloc' (Ext.refl _) _) _).put _ (Nat.le_refl _)).put _ (by omega))
      have Vnx : V.nx = Z.nx + 2 := by rw [hV]; rfl
      have nxV : Z.nx + 2 ≤ V.nx := by omega
      have lowV : V.low = h.nx := by rw [hV]; simp only [go_sem, Nat.reduceLT, Nat.reduceLeDiff, Nat.reduceEqDiff, Nat.reduceAdd, Nat.reduceSub, Nat.reduceMul, reduceCtorEq, Int.reduceBEq, Int.reduceLT, Int.reduceLE, Int.reduceAdd, Int.reduceSub, Int.reduceEq, Int.reduceNeg, Int.reduceToNat, Int.reduceGT, Int.reduceGE, S2.low]; have := S2.ext.nx; omega
      have aV : V.blk Z.nx = some ka := by rw [hV, hka]; simp only [go_sem, Nat.reduceLT, Nat.reduceLeDiff, Nat.reduceEqDiff, Nat.reduceAdd, Nat.reduceSub, Nat.reduceMul, reduceCtorEq, Int.reduceBEq, Int.reduceLT, Int.reduceLE, Int.reduceAdd, Int.reduceSub, Int.reduceEq, Int.reduceNeg, Int.reduceToNat, Int.reduceGT, Int.reduceGE, ne_succ]
      have bV : V.blk (Z.nx + 1) = some kb := by rw [hV, hkb]; simp only [go_sem, Nat.reduceLT, Nat.reduceLeDiff, Nat.reduceEqDiff, Nat.reduceAdd, Nat.reduceSub, Nat.reduceMul, reduceCtorEq, Int.reduceBEq, Int.reduceLT, Int.reduceLE, Int.reduceAdd, Int.reduceSub, Int.reduceEq, Int.reduceNeg, Int.reduceToNat, Int.reduceGT, Int.reduceGE]
      have ga0 : ka.get 0 = some (u64 a2.c) := by rw [hka]; simp only [go_sem, Nat.reduceLT, Nat.reduceLeDiff, Nat.reduceEqDiff, Nat.reduceAdd, Nat.reduceSub, Nat.reduceMul, reduceCtorEq, Int.reduceBEq, Int.reduceLT, Int.reduceLE, Int.reduceAdd, Int.reduceSub, Int.reduceEq, Int.reduceNeg, Int.reduceToNat, Int.reduceGT, Int.reduceGE]
      have ga1 : ka.get 1 = some (u64 a2.b) := by rw [hka]; simp only [go_sem, Nat.reduceLT, Nat.reduceLeDiff, Nat.reduceEqDiff, Nat.reduceAdd, Nat.reduceSub, Nat.reduceMul, reduceCtorEq, Int.reduceBEq, Int.reduceLT, Int.reduceLE, Int.reduceAdd, Int.reduceSub, Int.reduceEq, Int.reduceNeg, Int.reduceToNat, Int.reduceGT, Int.reduceGE]
      have ga2 : ka.get 2 = some (u64 a2.h0) := by rw [hka]; simp only [go_sem, Nat.reduceLT, Nat.reduceLeDiff, Nat.reduceEqDiff, Nat.reduceAdd, Nat.reduceSub, Nat.reduceMul, reduceCtorEq, Int.reduceBEq, Int.reduceLT, Int.reduceLE, Int.reduceAdd, Int.reduceSub, Int.reduceEq, Int.reduceNeg, Int.reduceToNat, Int.reduceGT, Int.reduceGE]
      have ga3 : ka.get 3 = some (u64 a2.h1) := by rw [hka]; simp only [go_sem, Nat.reduceLT, Nat.reduceLeDiff, Nat.reduceEqDiff, Nat.reduceAdd, Nat.reduceSub, Nat.reduceMul, reduceCtorEq, Int.reduceBEq, Int.reduceLT, Int.reduceLE, Int.reduceAdd, Int.reduceSub, Int.reduceEq, Int.reduceNeg, Int.reduceToNat, Int.reduceGT, Int.reduceGE]
      have gb0 : kb.get 0 = some (u64 b2.c) := by rw [hkb]; simp only [go_sem, Nat.reduceLT, Nat.reduceLeDiff, Nat.reduceEqDiff, Nat.reduceAdd, Nat.reduceSub, Nat.reduceMul, reduceCtorEq, Int.reduceBEq, Int.reduceLT, Int.reduceLE, Int.reduceAdd, Int.reduceSub, Int.reduceEq, Int.reduceNeg, Int.reduceToNat, Int.reduceGT, Int.reduceGE]
      have gb1 : kb.get 1 = some (u64 b2.b) := by rw [hkb]; simp only [go_sem, Nat.reduceLT, Nat.reduceLeDiff, Nat.reduceEqDiff, Nat.reduceAdd, Nat.reduceSub, Nat.reduceMul, reduceCtorEq, Int.reduceBEq, Int.reduceLT, Int.reduceLE, Int.reduceAdd, Int.reduceSub, Int.reduceEq, Int.reduceNeg, Int.reduceToNat, Int.reduceGT, Int.reduceGE]
      have gb2 : kb.get 2 = some (u64 b2.h0) := by rw [hkb]; simp only [go_sem, Nat.reduceLT, Nat.reduceLeDiff, Nat.reduceEqDiff, Nat.reduceAdd, Nat.reduceSub, Nat.reduceMul, reduceCtorEq, Int.reduceBEq, Int.reduceLT, Int.reduceLE, Int.reduceAdd, Int.reduceSub, Int.reduceEq, Int.reduceNeg, Int.reduceToNat, Int.reduceGT, Int.reduceGE]
      have gb3 : kb.get 3 = some (u64 b2.h1) := by rw [hkb]; simp only [go_sem, Nat.reduceLT, Nat.reduceLeDiff, Nat.reduceEqDiff, Nat.reduceAdd, Nat.reduceSub, Nat.reduceMul, reduceCtorEq, Int.reduceBEq, Int.reduceLT, Int.reduceLE, Int.reduceAdd, Int.reduceSub, Int.reduceEq, Int.reduceNeg, Int.reduceToNat, Int.reduceGT, Int.reduceGE]
      have pa := S2.A.pos
      have pb := S2.B.pos
      have la2 := S2.A.lt
      have lb2 := S2.B.lt
      have cmp : ∀ Y, (lim Try.prog σ).call 23 [.agg [u64 a2.c, u64 a2.b, u64 a2.h0, u64 a2.h1], .agg [u64 b2.c, u64 b2.b, u64 b2.h0, u64 b2.h1]] Y = some (.int .i64 (Int.ofNat (cmpV a2 b2)), none) := fun Y => compare_run hσ Y a2 b2 (by omega) (by omega)
      have ca2 := fun X => cvi (n := a2.c) (by omega) X
      have cb2 := fun X => cvi (n := b2.c) (by omega) X
      have BV : TL V v32 t2 := S2.tl.ext VE
      have len2 := fun h' ts az => BV.len h' ts az
      have p1 : ¬ Int.ofNat a2.c < 1 := by show ¬ (a2.c : Int) < 1; omega
      have p2 : ¬ Int.ofNat b2.c < 1 := by show ¬ (b2.c : Int) < 1; omega
      have p3 : ¬ Int.ofNat a2.c ≥ Int.ofNat t2.length := by show ¬ (a2.c : Int) ≥ (t2.length : Int); omega
      have p4 : ¬ Int.ofNat b2.c ≥ Int.ofNat t2.length := by show ¬ (b2.c : Int) ≥ (t2.length : Int); omega
      obtain ⟨far, up, r1, hf1, ab1'⟩ := above_run hσ BV S2.tree (by omega) a2.c b2.c pa lb2
      obtain ⟨way, down, r2, hf2, ab2'⟩ := above_run hσ BV S2.tree (by omega) b2.c a2.c pb la2
      have ab1 : (lim Try.prog σ).call 24 [v32, .int .i64 (Int.ofNat a2.c), .int .i64 (Int.ofNat b2.c)] V = _ := ab1'
      have ab2 : (lim Try.prog σ).call 24 [v32, .int .i64 (Int.ofNat b2.c), .int .i64 (Int.ofNat a2.c)] V = _ := ab2'
      simp only [go_sem, Nat.reduceLT, Nat.reduceLeDiff, Nat.reduceEqDiff, Nat.reduceAdd, Nat.reduceSub, Nat.reduceMul, reduceCtorEq, Int.reduceBEq, Int.reduceLT, Int.reduceLE, Int.reduceAdd, Int.reduceSub, Int.reduceEq, Int.reduceNeg, Int.reduceToNat, Int.reduceGT, Int.reduceGE, i4, i5, i6, i7, i8, e0, e3, e4, e5, wi, row0, row1, ← hX, ← hZ, ← hV, aV, bV, ga0, ga1, ga2, ga3, gb0, gb1, gb2, gb3, cmp, ca2, cb2, len2, p1, p2, p3, p4, ab1, ab2]
      refine cnd_go (Q := Q) (by kernel_rfl) ?_
      simp only [go_sem, Nat.reduceLT, Nat.reduceLeDiff, Nat.reduceEqDiff, Nat.reduceAdd, Nat.reduceSub, Nat.reduceMul, reduceCtorEq, Int.reduceBEq, Int.reduceLT, Int.reduceLE, Int.reduceAdd, Int.reduceSub, Int.reduceEq, Int.reduceNeg, Int.reduceToNat, Int.reduceGT, Int.reduceGE, i4, i5, i6, i7, i8, e0, e3, e4, e5, wi, row0, row1, ← hX, ← hZ, ← hV, aV, bV, ga0, ga1, ga2, ga3, gb0, gb1, gb2, gb3, cmp, ca2, cb2, len2, p1, p2, p3, p4, ab1, ab2]
      by_cases q : a2.c = b2.c
      · have q' : Int.ofNat a2.c = Int.ofNat b2.c := congrArg _ q
        have cv : cmpV a2 b2 = 4 := if_pos q
        simp only [go_sem, Nat.reduceLT, Nat.reduceLeDiff, Nat.reduceEqDiff, Nat.reduceAdd, Nat.reduceSub, Nat.reduceMul, reduceCtorEq, Int.reduceBEq, Int.reduceLT, Int.reduceLE, Int.reduceAdd, Int.reduceSub, Int.reduceEq, Int.reduceNeg, Int.reduceToNat, Int.reduceGT, Int.reduceGE, i4, i5, i6, i7, i8, e0, e3, e4, e5, wi, row0, row1, ← hX, ← hZ, ← hV, aV, bV, ga0, ga1, ga2, ga3, gb0, gb1, gb2, gb3, cmp, ca2, cb2, len2, p1, p2, p3, p4, ab1, ab2, q', cv]
        refine next _ _ ⟨t2, a2, b2, v32, lid2, lb, ?_, by omega, by simp only [go_sem, Nat.reduceLT, Nat.reduceLeDiff, Nat.reduceEqDiff, Nat.reduceAdd, Nat.reduceSub, Nat.reduceMul, reduceCtorEq, Int.reduceBEq, Int.reduceLT, Int.reduceLE, Int.reduceAdd, Int.reduceSub, Int.reduceEq, Int.reduceNeg, Int.reduceToNat, Int.reduceGT, Int.reduceGE, e0], by simp only [go_sem, Nat.reduceLT, Nat.reduceLeDiff, Nat.reduceEqDiff, Nat.reduceAdd, Nat.reduceSub, Nat.reduceMul, reduceCtorEq, Int.reduceBEq, Int.reduceLT, Int.reduceLE, Int.reduceAdd, Int.reduceSub, Int.reduceEq, Int.reduceNeg, Int.reduceToNat, Int.reduceGT, Int.reduceGE, e3], by simp only [go_sem, Nat.reduceLT, Nat.reduceLeDiff, Nat.reduceEqDiff, Nat.reduceAdd, Nat.reduceSub, Nat.reduceMul, reduceCtorEq, Int.reduceBEq, Int.reduceLT, Int.reduceLE, Int.reduceAdd, Int.reduceSub, Int.reduceEq, Int.reduceNeg, Int.reduceToNat, Int.reduceGT, Int.reduceGE, e4], by simp only [go_sem, Nat.reduceLT, Nat.reduceLeDiff, Nat.reduceEqDiff, Nat.reduceAdd, Nat.reduceSub, Nat.reduceMul, reduceCtorEq, Int.reduceBEq, Int.reduceLT, Int.reduceLE, Int.reduceAdd, Int.reduceSub, Int.reduceEq, Int.reduceNeg, Int.reduceToNat, Int.reduceGT, Int.reduceGE, wi]⟩
        have fs := S2.grow (VE) (lowV)
        rw [hV] at fs
        first | exact fs | (rw [hZ] at fs; exact fs)
      have q' : ¬ Int.ofNat a2.c = Int.ofNat b2.c := fun e => q (Int.ofNat.inj e)
      have M5 := mem_iff S2.tree S2.B pa q r1
      have M6 := mem_iff S2.tree S2.A pb (fun e => q e.symm) r2
      by_cases m5 : a2.c ∈ b2.el
      · obtain ⟨u1, u2⟩ := M5.1 m5
        subst u1
        have cv : cmpV a2 b2 = 5 := by unfold cmpV; rw [if_neg q, if_pos m5]
        have le5 : Int.ofNat far ≤ Int.ofNat b2.el.length := by show (far : Int) ≤ _; exact Int.ofNat_le.2 u2
        obtain ⟨vY1, xY1, eY1, BY1, EY1, lY1⟩ := elder_c hσ (X := V) (by have := (VE).nx; have := S2.ext.nx; omega) b2
        obtain ⟨Y1, hY1⟩ : ∃ Y', Y' = xY1.getD V := ⟨_, rfl⟩
        rw [← hY1] at BY1 EY1 lY1
        have cY1 : (lim Try.prog σ).call 25 [.agg [u64 b2.c, u64 b2.b, u64 b2.h0, u64 b2.h1]] V = some (vY1, xY1) := eY1
        have aY1 : Y1.blk Z.nx = some ka := (EY1.blk (by omega)).trans aV
        have bY1 : Y1.blk (Z.nx + 1) = some kb := (EY1.blk (by omega)).trans bV
        have nxY1 : Z.nx + 2 ≤ Y1.nx := by have := EY1.nx; omega
        have EEY1 : Ext Z Y1 := (VE).trans EY1
        have lowY1 : Y1.low = h.nx := by rw [lY1, lowV]
        simp only [go_sem, Nat.reduceLT, Nat.reduceLeDiff, Nat.reduceEqDiff, Nat.reduceAdd, Nat.reduceSub, Nat.reduceMul, reduceCtorEq, Int.reduceBEq, Int.reduceLT, Int.reduceLE, Int.reduceAdd, Int.reduceSub, Int.reduceEq, Int.reduceNeg, Int.reduceToNat, Int.reduceGT, Int.reduceGE, i4, i5, i6, i7, i8, e0, e3, e4, e5, wi, row0, row1, ← hX, ← hZ, ← hV, aV, bV, ga0, ga1, ga2, ga3, gb0, gb1, gb2, gb3, cmp, ca2, cb2, len2, p1, p2, p3, p4, ab1, ab2, q', cv, cY1, ← hY1, aY1, bY1, BY1.len, le5]
        refine next _ _ ⟨t2, a2, b2, v32, lid2, lb, ?_, by omega, by simp only [go_sem, Nat.reduceLT, Nat.reduceLeDiff, Nat.reduceEqDiff, Nat.reduceAdd, Nat.reduceSub, Nat.reduceMul, reduceCtorEq, Int.reduceBEq, Int.reduceLT, Int.reduceLE, Int.reduceAdd, Int.reduceSub, Int.reduceEq, Int.reduceNeg, Int.reduceToNat, Int.reduceGT, Int.reduceGE, e0], by simp only [go_sem, Nat.reduceLT, Nat.reduceLeDiff, Nat.reduceEqDiff, Nat.reduceAdd, Nat.reduceSub, Nat.reduceMul, reduceCtorEq, Int.reduceBEq, Int.reduceLT, Int.reduceLE, Int.reduceAdd, Int.reduceSub, Int.reduceEq, Int.reduceNeg, Int.reduceToNat, Int.reduceGT, Int.reduceGE, e3], by simp only [go_sem, Nat.reduceLT, Nat.reduceLeDiff, Nat.reduceEqDiff, Nat.reduceAdd, Nat.reduceSub, Nat.reduceMul, reduceCtorEq, Int.reduceBEq, Int.reduceLT, Int.reduceLE, Int.reduceAdd, Int.reduceSub, Int.reduceEq, Int.reduceNeg, Int.reduceToNat, Int.reduceGT, Int.reduceGE, e4], by simp only [go_sem, Nat.reduceLT, Nat.reduceLeDiff, Nat.reduceEqDiff, Nat.reduceAdd, Nat.reduceSub, Nat.reduceMul, reduceCtorEq, Int.reduceBEq, Int.reduceLT, Int.reduceLE, Int.reduceAdd, Int.reduceSub, Int.reduceEq, Int.reduceNeg, Int.reduceToNat, Int.reduceGT, Int.reduceGE, wi]⟩
        have fs := S2.grow (EEY1) (lowY1)
        rw [hY1] at fs
        rw [hV] at fs
        first | exact fs | (rw [hZ] at fs; exact fs)
      cases up
      · by_cases m6 : b2.c ∈ a2.el
        · obtain ⟨u1, u2⟩ := M6.1 m6
          subst u1
          have cv : cmpV a2 b2 = 6 := by unfold cmpV; rw [if_neg q, if_neg m5, if_pos m6]
          have le6 : Int.ofNat way ≤ Int.ofNat a2.el.length := by show (way : Int) ≤ _; exact Int.ofNat_le.2 u2
          obtain ⟨vY2, xY2, eY2, BY2, EY2, lY2⟩ := elder_c hσ (X := V) (by have := (VE).nx; have := S2.ext.nx; omega) a2
          obtain ⟨Y2, hY2⟩ : ∃ Y', Y' = xY2.getD V := ⟨_, rfl⟩
          rw [← hY2] at BY2 EY2 lY2
          have cY2 : (lim Try.prog σ).call 25 [.agg [u64 a2.c, u64 a2.b, u64 a2.h0, u64 a2.h1]] V = some (vY2, xY2) := eY2
          have aY2 : Y2.blk Z.nx = some ka := (EY2.blk (by omega)).trans aV
          have bY2 : Y2.blk (Z.nx + 1) = some kb := (EY2.blk (by omega)).trans bV
          have nxY2 : Z.nx + 2 ≤ Y2.nx := by have := EY2.nx; omega
          have EEY2 : Ext Z Y2 := (VE).trans EY2
          have lowY2 : Y2.low = h.nx := by rw [lY2, lowV]
          simp only [go_sem, Nat.reduceLT, Nat.reduceLeDiff, Nat.reduceEqDiff, Nat.reduceAdd, Nat.reduceSub, Nat.reduceMul, reduceCtorEq, Int.reduceBEq, Int.reduceLT, Int.reduceLE, Int.reduceAdd, Int.reduceSub, Int.reduceEq, Int.reduceNeg, Int.reduceToNat, Int.reduceGT, Int.reduceGE, i4, i5, i6, i7, i8, e0, e3, e4, e5, wi, row0, row1, ← hX, ← hZ, ← hV, aV, bV, ga0, ga1, ga2, ga3, gb0, gb1, gb2, gb3, cmp, ca2, cb2, len2, p1, p2, p3, p4, ab1, ab2, q', cv, cY2, ← hY2, aY2, bY2, BY2.len, le6]
          refine next _ _ ⟨t2, a2, b2, v32, lid2, lb, ?_, by omega, by simp only [go_sem, Nat.reduceLT, Nat.reduceLeDiff, Nat.reduceEqDiff, Nat.reduceAdd, Nat.reduceSub, Nat.reduceMul, reduceCtorEq, Int.reduceBEq, Int.reduceLT, Int.reduceLE, Int.reduceAdd, Int.reduceSub, Int.reduceEq, Int.reduceNeg, Int.reduceToNat, Int.reduceGT, Int.reduceGE, e0], by simp only [go_sem, Nat.reduceLT, Nat.reduceLeDiff, Nat.reduceEqDiff, Nat.reduceAdd, Nat.reduceSub, Nat.reduceMul, reduceCtorEq, Int.reduceBEq, Int.reduceLT, Int.reduceLE, Int.reduceAdd, Int.reduceSub, Int.reduceEq, Int.reduceNeg, Int.reduceToNat, Int.reduceGT, Int.reduceGE, e3], by simp only [go_sem, Nat.reduceLT, Nat.reduceLeDiff, Nat.reduceEqDiff, Nat.reduceAdd, Nat.reduceSub, Nat.reduceMul, reduceCtorEq, Int.reduceBEq, Int.reduceLT, Int.reduceLE, Int.reduceAdd, Int.reduceSub, Int.reduceEq, Int.reduceNeg, Int.reduceToNat, Int.reduceGT, Int.reduceGE, e4], by simp only [go_sem, Nat.reduceLT, Nat.reduceLeDiff, Nat.reduceEqDiff, Nat.reduceAdd, Nat.reduceSub, Nat.reduceMul, reduceCtorEq, Int.reduceBEq, Int.reduceLT, Int.reduceLE, Int.reduceAdd, Int.reduceSub, Int.reduceEq, Int.reduceNeg, Int.reduceToNat, Int.reduceGT, Int.reduceGE, wi]⟩
          have fs := S2.grow (EEY2) (lowY2)
          rw [hY2] at fs
          rw [hV] at fs
          first | exact fs | (rw [hZ] at fs; exact fs)
        cases down
        · have shr : (lim Try.prog σ).call 26 [v32, .agg [u64 a2.c, u64 a2.b, u64 a2.h0, u64 a2.h1], .agg [u64 b2.c, u64 b2.b, u64 b2.h0, u64 b2.h1]] V = some (.bool (decide (sh a2.el b2.el ≠ 0)), none) := lshared_run hσ (S2.tl.ext VE) S2.tree (by omega) a2 b2 la2 lb2 S2.A.ch S2.B.ch
          by_cases s0 : sh a2.el b2.el ≠ 0
          · have cv : cmpV a2 b2 = 7 := by unfold cmpV; rw [if_neg q, if_neg m5, if_neg m6, if_pos s0]
            have ds : decide (sh a2.el b2.el ≠ 0) = true := decide_eq_true s0
            rw [ds] at shr
            simp only [go_sem, Nat.reduceLT, Nat.reduceLeDiff, Nat.reduceEqDiff, Nat.reduceAdd, Nat.reduceSub, Nat.reduceMul, reduceCtorEq, Int.reduceBEq, Int.reduceLT, Int.reduceLE, Int.reduceAdd, Int.reduceSub, Int.reduceEq, Int.reduceNeg, Int.reduceToNat, Int.reduceGT, Int.reduceGE, i4, i5, i6, i7, i8, e0, e3, e4, e5, wi, row0, row1, ← hX, ← hZ, ← hV, aV, bV, ga0, ga1, ga2, ga3, gb0, gb1, gb2, gb3, cmp, ca2, cb2, len2, p1, p2, p3, p4, ab1, ab2, q', cv, shr]
            refine next _ _ ⟨t2, a2, b2, v32, lid2, lb, ?_, by omega, by simp only [go_sem, Nat.reduceLT, Nat.reduceLeDiff, Nat.reduceEqDiff, Nat.reduceAdd, Nat.reduceSub, Nat.reduceMul, reduceCtorEq, Int.reduceBEq, Int.reduceLT, Int.reduceLE, Int.reduceAdd, Int.reduceSub, Int.reduceEq, Int.reduceNeg, Int.reduceToNat, Int.reduceGT, Int.reduceGE, e0], by simp only [go_sem, Nat.reduceLT, Nat.reduceLeDiff, Nat.reduceEqDiff, Nat.reduceAdd, Nat.reduceSub, Nat.reduceMul, reduceCtorEq, Int.reduceBEq, Int.reduceLT, Int.reduceLE, Int.reduceAdd, Int.reduceSub, Int.reduceEq, Int.reduceNeg, Int.reduceToNat, Int.reduceGT, Int.reduceGE, e3], by simp only [go_sem, Nat.reduceLT, Nat.reduceLeDiff, Nat.reduceEqDiff, Nat.reduceAdd, Nat.reduceSub, Nat.reduceMul, reduceCtorEq, Int.reduceBEq, Int.reduceLT, Int.reduceLE, Int.reduceAdd, Int.reduceSub, Int.reduceEq, Int.reduceNeg, Int.reduceToNat, Int.reduceGT, Int.reduceGE, e4], by simp only [go_sem, Nat.reduceLT, Nat.reduceLeDiff, Nat.reduceEqDiff, Nat.reduceAdd, Nat.reduceSub, Nat.reduceMul, reduceCtorEq, Int.reduceBEq, Int.reduceLT, Int.reduceLE, Int.reduceAdd, Int.reduceSub, Int.reduceEq, Int.reduceNeg, Int.reduceToNat, Int.reduceGT, Int.reduceGE, wi]⟩
            have fs := S2.grow (VE) (lowV)
            rw [hV] at fs
            first | exact fs | (rw [hZ] at fs; exact fs)
          · have cv : cmpV a2 b2 = 8 := by unfold cmpV; rw [if_neg q, if_neg m5, if_neg m6, if_neg s0]
            have ds : decide (sh a2.el b2.el ≠ 0) = false := decide_eq_false s0
            rw [ds] at shr
            simp only [go_sem, Nat.reduceLT, Nat.reduceLeDiff, Nat.reduceEqDiff, Nat.reduceAdd, Nat.reduceSub, Nat.reduceMul, reduceCtorEq, Int.reduceBEq, Int.reduceLT, Int.reduceLE, Int.reduceAdd, Int.reduceSub, Int.reduceEq, Int.reduceNeg, Int.reduceToNat, Int.reduceGT, Int.reduceGE, i4, i5, i6, i7, i8, e0, e3, e4, e5, wi, row0, row1, ← hX, ← hZ, ← hV, aV, bV, ga0, ga1, ga2, ga3, gb0, gb1, gb2, gb3, cmp, ca2, cb2, len2, p1, p2, p3, p4, ab1, ab2, q', cv, shr]
            refine next _ _ ⟨t2, a2, b2, v32, lid2, lb, ?_, by omega, by simp only [go_sem, Nat.reduceLT, Nat.reduceLeDiff, Nat.reduceEqDiff, Nat.reduceAdd, Nat.reduceSub, Nat.reduceMul, reduceCtorEq, Int.reduceBEq, Int.reduceLT, Int.reduceLE, Int.reduceAdd, Int.reduceSub, Int.reduceEq, Int.reduceNeg, Int.reduceToNat, Int.reduceGT, Int.reduceGE, e0], by simp only [go_sem, Nat.reduceLT, Nat.reduceLeDiff, Nat.reduceEqDiff, Nat.reduceAdd, Nat.reduceSub, Nat.reduceMul, reduceCtorEq, Int.reduceBEq, Int.reduceLT, Int.reduceLE, Int.reduceAdd, Int.reduceSub, Int.reduceEq, Int.reduceNeg, Int.reduceToNat, Int.reduceGT, Int.reduceGE, e3], by simp only [go_sem, Nat.reduceLT, Nat.reduceLeDiff, Nat.reduceEqDiff, Nat.reduceAdd, Nat.reduceSub, Nat.reduceMul, reduceCtorEq, Int.reduceBEq, Int.reduceLT, Int.reduceLE, Int.reduceAdd, Int.reduceSub, Int.reduceEq, Int.reduceNeg, Int.reduceToNat, Int.reduceGT, Int.reduceGE, e4], by simp only [go_sem, Nat.reduceLT, Nat.reduceLeDiff, Nat.reduceEqDiff, Nat.reduceAdd, Nat.reduceSub, Nat.reduceMul, reduceCtorEq, Int.reduceBEq, Int.reduceLT, Int.reduceLE, Int.reduceAdd, Int.reduceSub, Int.reduceEq, Int.reduceNeg, Int.reduceToNat, Int.reduceGT, Int.reduceGE, wi]⟩
            have fs := S2.grow (VE) (lowV)
            rw [hV] at fs
            first | exact fs | (rw [hZ] at fs; exact fs)
        · obtain ⟨vY2, xY2, eY2, BY2, EY2, lY2⟩ := elder_c hσ (X := V) (by have := (VE).nx; have := S2.ext.nx; omega) a2
          obtain ⟨Y2, hY2⟩ : ∃ Y', Y' = xY2.getD V := ⟨_, rfl⟩
          rw [← hY2] at BY2 EY2 lY2
          have cY2 : (lim Try.prog σ).call 25 [.agg [u64 a2.c, u64 a2.b, u64 a2.h0, u64 a2.h1]] V = some (vY2, xY2) := eY2
          have aY2 : Y2.blk Z.nx = some ka := (EY2.blk (by omega)).trans aV
          have bY2 : Y2.blk (Z.nx + 1) = some kb := (EY2.blk (by omega)).trans bV
          have nxY2 : Z.nx + 2 ≤ Y2.nx := by have := EY2.nx; omega
          have EEY2 : Ext Z Y2 := (VE).trans EY2
          have lowY2 : Y2.low = h.nx := by rw [lY2, lowV]
          have nle6 : ¬ Int.ofNat way ≤ Int.ofNat a2.el.length := fun e => m6 (M6.2 ⟨rfl, Int.ofNat_le.1 e⟩)
          have shr : (lim Try.prog σ).call 26 [v32, .agg [u64 a2.c, u64 a2.b, u64 a2.h0, u64 a2.h1], .agg [u64 b2.c, u64 b2.b, u64 b2.h0, u64 b2.h1]] Y2 = some (.bool (decide (sh a2.el b2.el ≠ 0)), none) := lshared_run hσ (S2.tl.ext EEY2) S2.tree (by omega) a2 b2 la2 lb2 S2.A.ch S2.B.ch
          by_cases s0 : sh a2.el b2.el ≠ 0
          · have cv : cmpV a2 b2 = 7 := by unfold cmpV; rw [if_neg q, if_neg m5, if_neg m6, if_pos s0]
            have ds : decide (sh a2.el b2.el ≠ 0) = true := decide_eq_true s0
            rw [ds] at shr
            simp only [go_sem, Nat.reduceLT, Nat.reduceLeDiff, Nat.reduceEqDiff, Nat.reduceAdd, Nat.reduceSub, Nat.reduceMul, reduceCtorEq, Int.reduceBEq, Int.reduceLT, Int.reduceLE, Int.reduceAdd, Int.reduceSub, Int.reduceEq, Int.reduceNeg, Int.reduceToNat, Int.reduceGT, Int.reduceGE, i4, i5, i6, i7, i8, e0, e3, e4, e5, wi, row0, row1, ← hX, ← hZ, ← hV, aV, bV, ga0, ga1, ga2, ga3, gb0, gb1, gb2, gb3, cmp, ca2, cb2, len2, p1, p2, p3, p4, ab1, ab2, q', cv, cY2, ← hY2, aY2, bY2, BY2.len, nle6, shr]
            refine next _ _ ⟨t2, a2, b2, v32, lid2, lb, ?_, by omega, by simp only [go_sem, Nat.reduceLT, Nat.reduceLeDiff, Nat.reduceEqDiff, Nat.reduceAdd, Nat.reduceSub, Nat.reduceMul, reduceCtorEq, Int.reduceBEq, Int.reduceLT, Int.reduceLE, Int.reduceAdd, Int.reduceSub, Int.reduceEq, Int.reduceNeg, Int.reduceToNat, Int.reduceGT, Int.reduceGE, e0], by simp only [go_sem, Nat.reduceLT, Nat.reduceLeDiff, Nat.reduceEqDiff, Nat.reduceAdd, Nat.reduceSub, Nat.reduceMul, reduceCtorEq, Int.reduceBEq, Int.reduceLT, Int.reduceLE, Int.reduceAdd, Int.reduceSub, Int.reduceEq, Int.reduceNeg, Int.reduceToNat, Int.reduceGT, Int.reduceGE, e3], by simp only [go_sem, Nat.reduceLT, Nat.reduceLeDiff, Nat.reduceEqDiff, Nat.reduceAdd, Nat.reduceSub, Nat.reduceMul, reduceCtorEq, Int.reduceBEq, Int.reduceLT, Int.reduceLE, Int.reduceAdd, Int.reduceSub, Int.reduceEq, Int.reduceNeg, Int.reduceToNat, Int.reduceGT, Int.reduceGE, e4], by simp only [go_sem, Nat.reduceLT, Nat.reduceLeDiff, Nat.reduceEqDiff, Nat.reduceAdd, Nat.reduceSub, Nat.reduceMul, reduceCtorEq, Int.reduceBEq, Int.reduceLT, Int.reduceLE, Int.reduceAdd, Int.reduceSub, Int.reduceEq, Int.reduceNeg, Int.reduceToNat, Int.reduceGT, Int.reduceGE, wi]⟩
            have fs := S2.grow (EEY2) (lowY2)
            rw [hY2] at fs
            rw [hV] at fs
            first | exact fs | (rw [hZ] at fs; exact fs)
          · have cv : cmpV a2 b2 = 8 := by unfold cmpV; rw [if_neg q, if_neg m5, if_neg m6, if_neg s0]
            have ds : decide (sh a2.el b2.el ≠ 0) = false := decide_eq_false s0
            rw [ds] at shr
            simp only [go_sem, Nat.reduceLT, Nat.reduceLeDiff, Nat.reduceEqDiff, Nat.reduceAdd, Nat.reduceSub, Nat.reduceMul, reduceCtorEq, Int.reduceBEq, Int.reduceLT, Int.reduceLE, Int.reduceAdd, Int.reduceSub, Int.reduceEq, Int.reduceNeg, Int.reduceToNat, Int.reduceGT, Int.reduceGE, i4, i5, i6, i7, i8, e0, e3, e4, e5, wi, row0, row1, ← hX, ← hZ, ← hV, aV, bV, ga0, ga1, ga2, ga3, gb0, gb1, gb2, gb3, cmp, ca2, cb2, len2, p1, p2, p3, p4, ab1, ab2, q', cv, cY2, ← hY2, aY2, bY2, BY2.len, nle6, shr]
            refine next _ _ ⟨t2, a2, b2, v32, lid2, lb, ?_, by omega, by simp only [go_sem, Nat.reduceLT, Nat.reduceLeDiff, Nat.reduceEqDiff, Nat.reduceAdd, Nat.reduceSub, Nat.reduceMul, reduceCtorEq, Int.reduceBEq, Int.reduceLT, Int.reduceLE, Int.reduceAdd, Int.reduceSub, Int.reduceEq, Int.reduceNeg, Int.reduceToNat, Int.reduceGT, Int.reduceGE, e0], by simp only [go_sem, Nat.reduceLT, Nat.reduceLeDiff, Nat.reduceEqDiff, Nat.reduceAdd, Nat.reduceSub, Nat.reduceMul, reduceCtorEq, Int.reduceBEq, Int.reduceLT, Int.reduceLE, Int.reduceAdd, Int.reduceSub, Int.reduceEq, Int.reduceNeg, Int.reduceToNat, Int.reduceGT, Int.reduceGE, e3], by simp only [go_sem, Nat.reduceLT, Nat.reduceLeDiff, Nat.reduceEqDiff, Nat.reduceAdd, Nat.reduceSub, Nat.reduceMul, reduceCtorEq, Int.reduceBEq, Int.reduceLT, Int.reduceLE, Int.reduceAdd, Int.reduceSub, Int.reduceEq, Int.reduceNeg, Int.reduceToNat, Int.reduceGT, Int.reduceGE, e4], by simp only [go_sem, Nat.reduceLT, Nat.reduceLeDiff, Nat.reduceEqDiff, Nat.reduceAdd, Nat.reduceSub, Nat.reduceMul, reduceCtorEq, Int.reduceBEq, Int.reduceLT, Int.reduceLE, Int.reduceAdd, Int.reduceSub, Int.reduceEq, Int.reduceNeg, Int.reduceToNat, Int.reduceGT, Int.reduceGE, wi]⟩
            have fs := S2.grow (EEY2) (lowY2)
            rw [hY2] at fs
            rw [hV] at fs
            first | exact fs | (rw [hZ] at fs; exact fs)
      · obtain ⟨vY1, xY1, eY1, BY1, EY1, lY1⟩ := elder_c hσ (X := V) (by have := (VE).nx; have := S2.ext.nx; omega) b2
        obtain ⟨Y1, hY1⟩ : ∃ Y', Y' = xY1.getD V := ⟨_, rfl⟩
        rw [← hY1] at BY1 EY1 lY1
        have cY1 : (lim Try.prog σ).call 25 [.agg [u64 b2.c, u64 b2.b, u64 b2.h0, u64 b2.h1]] V = some (vY1, xY1) := eY1
        have aY1 : Y1.blk Z.nx = some ka := (EY1.blk (by omega)).trans aV
        have bY1 : Y1.blk (Z.nx + 1) = some kb := (EY1.blk (by omega)).trans bV
        have nxY1 : Z.nx + 2 ≤ Y1.nx := by have := EY1.nx; omega
        have EEY1 : Ext Z Y1 := (VE).trans EY1
        have lowY1 : Y1.low = h.nx := by rw [lY1, lowV]
        have nle5 : ¬ Int.ofNat far ≤ Int.ofNat b2.el.length := fun e => m5 (M5.2 ⟨rfl, Int.ofNat_le.1 e⟩)
        by_cases m6 : b2.c ∈ a2.el
        · obtain ⟨u1, u2⟩ := M6.1 m6
          subst u1
          have cv : cmpV a2 b2 = 6 := by unfold cmpV; rw [if_neg q, if_neg m5, if_pos m6]
          have le6 : Int.ofNat way ≤ Int.ofNat a2.el.length := by show (way : Int) ≤ _; exact Int.ofNat_le.2 u2
          obtain ⟨vY2, xY2, eY2, BY2, EY2, lY2⟩ := elder_c hσ (X := Y1) (by have := (EEY1).nx; have := S2.ext.nx; omega) a2
          obtain ⟨Y2, hY2⟩ : ∃ Y', Y' = xY2.getD Y1 := ⟨_, rfl⟩
          rw [← hY2] at BY2 EY2 lY2
          have cY2 : (lim Try.prog σ).call 25 [.agg [u64 a2.c, u64 a2.b, u64 a2.h0, u64 a2.h1]] Y1 = some (vY2, xY2) := eY2
          have aY2 : Y2.blk Z.nx = some ka := (EY2.blk (by omega)).trans aY1
          have bY2 : Y2.blk (Z.nx + 1) = some kb := (EY2.blk (by omega)).trans bY1
          have nxY2 : Z.nx + 2 ≤ Y2.nx := by have := EY2.nx; omega
          have EEY2 : Ext Z Y2 := (EEY1).trans EY2
          have lowY2 : Y2.low = h.nx := by rw [lY2, lowY1]
          simp only [go_sem, Nat.reduceLT, Nat.reduceLeDiff, Nat.reduceEqDiff, Nat.reduceAdd, Nat.reduceSub, Nat.reduceMul, reduceCtorEq, Int.reduceBEq, Int.reduceLT, Int.reduceLE, Int.reduceAdd, Int.reduceSub, Int.reduceEq, Int.reduceNeg, Int.reduceToNat, Int.reduceGT, Int.reduceGE, i4, i5, i6, i7, i8, e0, e3, e4, e5, wi, row0, row1, ← hX, ← hZ, ← hV, aV, bV, ga0, ga1, ga2, ga3, gb0, gb1, gb2, gb3, cmp, ca2, cb2, len2, p1, p2, p3, p4, ab1, ab2, q', cv, cY1, ← hY1, aY1, bY1, BY1.len, nle5, cY2, ← hY2, aY2, bY2, BY2.len, le6]
          refine next _ _ ⟨t2, a2, b2, v32, lid2, lb, ?_, by omega, by simp only [go_sem, Nat.reduceLT, Nat.reduceLeDiff, Nat.reduceEqDiff, Nat.reduceAdd, Nat.reduceSub, Nat.reduceMul, reduceCtorEq, Int.reduceBEq, Int.reduceLT, Int.reduceLE, Int.reduceAdd, Int.reduceSub, Int.reduceEq, Int.reduceNeg, Int.reduceToNat, Int.reduceGT, Int.reduceGE, e0], by simp only [go_sem, Nat.reduceLT, Nat.reduceLeDiff, Nat.reduceEqDiff, Nat.reduceAdd, Nat.reduceSub, Nat.reduceMul, reduceCtorEq, Int.reduceBEq, Int.reduceLT, Int.reduceLE, Int.reduceAdd, Int.reduceSub, Int.reduceEq, Int.reduceNeg, Int.reduceToNat, Int.reduceGT, Int.reduceGE, e3], by simp only [go_sem, Nat.reduceLT, Nat.reduceLeDiff, Nat.reduceEqDiff, Nat.reduceAdd, Nat.reduceSub, Nat.reduceMul, reduceCtorEq, Int.reduceBEq, Int.reduceLT, Int.reduceLE, Int.reduceAdd, Int.reduceSub, Int.reduceEq, Int.reduceNeg, Int.reduceToNat, Int.reduceGT, Int.reduceGE, e4], by simp only [go_sem, Nat.reduceLT, Nat.reduceLeDiff, Nat.reduceEqDiff, Nat.reduceAdd, Nat.reduceSub, Nat.reduceMul, reduceCtorEq, Int.reduceBEq, Int.reduceLT, Int.reduceLE, Int.reduceAdd, Int.reduceSub, Int.reduceEq, Int.reduceNeg, Int.reduceToNat, Int.reduceGT, Int.reduceGE, wi]⟩
          have fs := S2.grow (EEY2) (lowY2)
          rw [hY2] at fs
          rw [hY1] at fs
          rw [hV] at fs
          first | exact fs | (rw [hZ] at fs; exact fs)
        cases down
        · have shr : (lim Try.prog σ).call 26 [v32, .agg [u64 a2.c, u64 a2.b, u64 a2.h0, u64 a2.h1], .agg [u64 b2.c, u64 b2.b, u64 b2.h0, u64 b2.h1]] Y1 = some (.bool (decide (sh a2.el b2.el ≠ 0)), none) := lshared_run hσ (S2.tl.ext EEY1) S2.tree (by omega) a2 b2 la2 lb2 S2.A.ch S2.B.ch
          by_cases s0 : sh a2.el b2.el ≠ 0
          · have cv : cmpV a2 b2 = 7 := by unfold cmpV; rw [if_neg q, if_neg m5, if_neg m6, if_pos s0]
            have ds : decide (sh a2.el b2.el ≠ 0) = true := decide_eq_true s0
            rw [ds] at shr
            simp only [go_sem, Nat.reduceLT, Nat.reduceLeDiff, Nat.reduceEqDiff, Nat.reduceAdd, Nat.reduceSub, Nat.reduceMul, reduceCtorEq, Int.reduceBEq, Int.reduceLT, Int.reduceLE, Int.reduceAdd, Int.reduceSub, Int.reduceEq, Int.reduceNeg, Int.reduceToNat, Int.reduceGT, Int.reduceGE, i4, i5, i6, i7, i8, e0, e3, e4, e5, wi, row0, row1, ← hX, ← hZ, ← hV, aV, bV, ga0, ga1, ga2, ga3, gb0, gb1, gb2, gb3, cmp, ca2, cb2, len2, p1, p2, p3, p4, ab1, ab2, q', cv, cY1, ← hY1, aY1, bY1, BY1.len, nle5, shr]
            refine next _ _ ⟨t2, a2, b2, v32, lid2, lb, ?_, by omega, by simp only [go_sem, Nat.reduceLT, Nat.reduceLeDiff, Nat.reduceEqDiff, Nat.reduceAdd, Nat.reduceSub, Nat.reduceMul, reduceCtorEq, Int.reduceBEq, Int.reduceLT, Int.reduceLE, Int.reduceAdd, Int.reduceSub, Int.reduceEq, Int.reduceNeg, Int.reduceToNat, Int.reduceGT, Int.reduceGE, e0], by simp only [go_sem, Nat.reduceLT, Nat.reduceLeDiff, Nat.reduceEqDiff, Nat.reduceAdd, Nat.reduceSub, Nat.reduceMul, reduceCtorEq, Int.reduceBEq, Int.reduceLT, Int.reduceLE, Int.reduceAdd, Int.reduceSub, Int.reduceEq, Int.reduceNeg, Int.reduceToNat, Int.reduceGT, Int.reduceGE, e3], by simp only [go_sem, Nat.reduceLT, Nat.reduceLeDiff, Nat.reduceEqDiff, Nat.reduceAdd, Nat.reduceSub, Nat.reduceMul, reduceCtorEq, Int.reduceBEq, Int.reduceLT, Int.reduceLE, Int.reduceAdd, Int.reduceSub, Int.reduceEq, Int.reduceNeg, Int.reduceToNat, Int.reduceGT, Int.reduceGE, e4], by simp only [go_sem, Nat.reduceLT, Nat.reduceLeDiff, Nat.reduceEqDiff, Nat.reduceAdd, Nat.reduceSub, Nat.reduceMul, reduceCtorEq, Int.reduceBEq, Int.reduceLT, Int.reduceLE, Int.reduceAdd, Int.reduceSub, Int.reduceEq, Int.reduceNeg, Int.reduceToNat, Int.reduceGT, Int.reduceGE, wi]⟩
            have fs := S2.grow (EEY1) (lowY1)
            rw [hY1] at fs
            rw [hV] at fs
            first | exact fs | (rw [hZ] at fs; exact fs)
          · have cv : cmpV a2 b2 = 8 := by unfold cmpV; rw [if_neg q, if_neg m5, if_neg m6, if_neg s0]
            have ds : decide (sh a2.el b2.el ≠ 0) = false := decide_eq_false s0
            rw [ds] at shr
            simp only [go_sem, Nat.reduceLT, Nat.reduceLeDiff, Nat.reduceEqDiff, Nat.reduceAdd, Nat.reduceSub, Nat.reduceMul, reduceCtorEq, Int.reduceBEq, Int.reduceLT, Int.reduceLE, Int.reduceAdd, Int.reduceSub, Int.reduceEq, Int.reduceNeg, Int.reduceToNat, Int.reduceGT, Int.reduceGE, i4, i5, i6, i7, i8, e0, e3, e4, e5, wi, row0, row1, ← hX, ← hZ, ← hV, aV, bV, ga0, ga1, ga2, ga3, gb0, gb1, gb2, gb3, cmp, ca2, cb2, len2, p1, p2, p3, p4, ab1, ab2, q', cv, cY1, ← hY1, aY1, bY1, BY1.len, nle5, shr]
            refine next _ _ ⟨t2, a2, b2, v32, lid2, lb, ?_, by omega, by simp only [go_sem, Nat.reduceLT, Nat.reduceLeDiff, Nat.reduceEqDiff, Nat.reduceAdd, Nat.reduceSub, Nat.reduceMul, reduceCtorEq, Int.reduceBEq, Int.reduceLT, Int.reduceLE, Int.reduceAdd, Int.reduceSub, Int.reduceEq, Int.reduceNeg, Int.reduceToNat, Int.reduceGT, Int.reduceGE, e0], by simp only [go_sem, Nat.reduceLT, Nat.reduceLeDiff, Nat.reduceEqDiff, Nat.reduceAdd, Nat.reduceSub, Nat.reduceMul, reduceCtorEq, Int.reduceBEq, Int.reduceLT, Int.reduceLE, Int.reduceAdd, Int.reduceSub, Int.reduceEq, Int.reduceNeg, Int.reduceToNat, Int.reduceGT, Int.reduceGE, e3], by simp only [go_sem, Nat.reduceLT, Nat.reduceLeDiff, Nat.reduceEqDiff, Nat.reduceAdd, Nat.reduceSub, Nat.reduceMul, reduceCtorEq, Int.reduceBEq, Int.reduceLT, Int.reduceLE, Int.reduceAdd, Int.reduceSub, Int.reduceEq, Int.reduceNeg, Int.reduceToNat, Int.reduceGT, Int.reduceGE, e4], by simp only [go_sem, Nat.reduceLT, Nat.reduceLeDiff, Nat.reduceEqDiff, Nat.reduceAdd, Nat.reduceSub, Nat.reduceMul, reduceCtorEq, Int.reduceBEq, Int.reduceLT, Int.reduceLE, Int.reduceAdd, Int.reduceSub, Int.reduceEq, Int.reduceNeg, Int.reduceToNat, Int.reduceGT, Int.reduceGE, wi]⟩
            have fs := S2.grow (EEY1) (lowY1)
            rw [hY1] at fs
            rw [hV] at fs
            first | exact fs | (rw [hZ] at fs; exact fs)
        · obtain ⟨vY2, xY2, eY2, BY2, EY2, lY2⟩ := elder_c hσ (X := Y1) (by have := (EEY1).nx; have := S2.ext.nx; omega) a2
          obtain ⟨Y2, hY2⟩ : ∃ Y', Y' = xY2.getD Y1 := ⟨_, rfl⟩
          rw [← hY2] at BY2 EY2 lY2
          have cY2 : (lim Try.prog σ).call 25 [.agg [u64 a2.c, u64 a2.b, u64 a2.h0, u64 a2.h1]] Y1 = some (vY2, xY2) := eY2
          have aY2 : Y2.blk Z.nx = some ka := (EY2.blk (by omega)).trans aY1
          have bY2 : Y2.blk (Z.nx + 1) = some kb := (EY2.blk (by omega)).trans bY1
          have nxY2 : Z.nx + 2 ≤ Y2.nx := by have := EY2.nx; omega
          have EEY2 : Ext Z Y2 := (EEY1).trans EY2
          have lowY2 : Y2.low = h.nx := by rw [lY2, lowY1]
          have nle6 : ¬ Int.ofNat way ≤ Int.ofNat a2.el.length := fun e => m6 (M6.2 ⟨rfl, Int.ofNat_le.1 e⟩)
          have shr : (lim Try.prog σ).call 26 [v32, .agg [u64 a2.c, u64 a2.b, u64 a2.h0, u64 a2.h1], .agg [u64 b2.c, u64 b2.b, u64 b2.h0, u64 b2.h1]] Y2 = some (.bool (decide (sh a2.el b2.el ≠ 0)), none) := lshared_run hσ (S2.tl.ext EEY2) S2.tree (by omega) a2 b2 la2 lb2 S2.A.ch S2.B.ch
          by_cases s0 : sh a2.el b2.el ≠ 0
          · have cv : cmpV a2 b2 = 7 := by unfold cmpV; rw [if_neg q, if_neg m5, if_neg m6, if_pos s0]
            have ds : decide (sh a2.el b2.el ≠ 0) = true := decide_eq_true s0
            rw [ds] at shr
            simp only [go_sem, Nat.reduceLT, Nat.reduceLeDiff, Nat.reduceEqDiff, Nat.reduceAdd, Nat.reduceSub, Nat.reduceMul, reduceCtorEq, Int.reduceBEq, Int.reduceLT, Int.reduceLE, Int.reduceAdd, Int.reduceSub, Int.reduceEq, Int.reduceNeg, Int.reduceToNat, Int.reduceGT, Int.reduceGE, i4, i5, i6, i7, i8, e0, e3, e4, e5, wi, row0, row1, ← hX, ← hZ, ← hV, aV, bV, ga0, ga1, ga2, ga3, gb0, gb1, gb2, gb3, cmp, ca2, cb2, len2, p1, p2, p3, p4, ab1, ab2, q', cv, cY1, ← hY1, aY1, bY1, BY1.len, nle5, cY2, ← hY2, aY2, bY2, BY2.len, nle6, shr]
            refine next _ _ ⟨t2, a2, b2, v32, lid2, lb, ?_, by omega, by simp only [go_sem, Nat.reduceLT, Nat.reduceLeDiff, Nat.reduceEqDiff, Nat.reduceAdd, Nat.reduceSub, Nat.reduceMul, reduceCtorEq, Int.reduceBEq, Int.reduceLT, Int.reduceLE, Int.reduceAdd, Int.reduceSub, Int.reduceEq, Int.reduceNeg, Int.reduceToNat, Int.reduceGT, Int.reduceGE, e0], by simp only [go_sem, Nat.reduceLT, Nat.reduceLeDiff, Nat.reduceEqDiff, Nat.reduceAdd, Nat.reduceSub, Nat.reduceMul, reduceCtorEq, Int.reduceBEq, Int.reduceLT, Int.reduceLE, Int.reduceAdd, Int.reduceSub, Int.reduceEq, Int.reduceNeg, Int.reduceToNat, Int.reduceGT, Int.reduceGE, e3], by simp only [go_sem, Nat.reduceLT, Nat.reduceLeDiff, Nat.reduceEqDiff, Nat.reduceAdd, Nat.reduceSub, Nat.reduceMul, reduceCtorEq, Int.reduceBEq, Int.reduceLT, Int.reduceLE, Int.reduceAdd, Int.reduceSub, Int.reduceEq, Int.reduceNeg, Int.reduceToNat, Int.reduceGT, Int.reduceGE, e4], by simp only [go_sem, Nat.reduceLT, Nat.reduceLeDiff, Nat.reduceEqDiff, Nat.reduceAdd, Nat.reduceSub, Nat.reduceMul, reduceCtorEq, Int.reduceBEq, Int.reduceLT, Int.reduceLE, Int.reduceAdd, Int.reduceSub, Int.reduceEq, Int.reduceNeg, Int.reduceToNat, Int.reduceGT, Int.reduceGE, wi]⟩
            have fs := S2.grow (EEY2) (lowY2)
            rw [hY2] at fs
            rw [hY1] at fs
            rw [hV] at fs
            first | exact fs | (rw [hZ] at fs; exact fs)
          · have cv : cmpV a2 b2 = 8 := by unfold cmpV; rw [if_neg q, if_neg m5, if_neg m6, if_neg s0]
            have ds : decide (sh a2.el b2.el ≠ 0) = false := decide_eq_false s0
            rw [ds] at shr
            simp only [go_sem, Nat.reduceLT, Nat.reduceLeDiff, Nat.reduceEqDiff, Nat.reduceAdd, Nat.reduceSub, Nat.reduceMul, reduceCtorEq, Int.reduceBEq, Int.reduceLT, Int.reduceLE, Int.reduceAdd, Int.reduceSub, Int.reduceEq, Int.reduceNeg, Int.reduceToNat, Int.reduceGT, Int.reduceGE, i4, i5, i6, i7, i8, e0, e3, e4, e5, wi, row0, row1, ← hX, ← hZ, ← hV, aV, bV, ga0, ga1, ga2, ga3, gb0, gb1, gb2, gb3, cmp, ca2, cb2, len2, p1, p2, p3, p4, ab1, ab2, q', cv, cY1, ← hY1, aY1, bY1, BY1.len, nle5, cY2, ← hY2, aY2, bY2, BY2.len, nle6, shr]
            refine next _ _ ⟨t2, a2, b2, v32, lid2, lb, ?_, by omega, by simp only [go_sem, Nat.reduceLT, Nat.reduceLeDiff, Nat.reduceEqDiff, Nat.reduceAdd, Nat.reduceSub, Nat.reduceMul, reduceCtorEq, Int.reduceBEq, Int.reduceLT, Int.reduceLE, Int.reduceAdd, Int.reduceSub, Int.reduceEq, Int.reduceNeg, Int.reduceToNat, Int.reduceGT, Int.reduceGE, e0], by simp only [go_sem, Nat.reduceLT, Nat.reduceLeDiff, Nat.reduceEqDiff, Nat.reduceAdd, Nat.reduceSub, Nat.reduceMul, reduceCtorEq, Int.reduceBEq, Int.reduceLT, Int.reduceLE, Int.reduceAdd, Int.reduceSub, Int.reduceEq, Int.reduceNeg, Int.reduceToNat, Int.reduceGT, Int.reduceGE, e3], by simp only [go_sem, Nat.reduceLT, Nat.reduceLeDiff, Nat.reduceEqDiff, Nat.reduceAdd, Nat.reduceSub, Nat.reduceMul, reduceCtorEq, Int.reduceBEq, Int.reduceLT, Int.reduceLE, Int.reduceAdd, Int.reduceSub, Int.reduceEq, Int.reduceNeg, Int.reduceToNat, Int.reduceGT, Int.reduceGE, e4], by simp only [go_sem, Nat.reduceLT, Nat.reduceLeDiff, Nat.reduceEqDiff, Nat.reduceAdd, Nat.reduceSub, Nat.reduceMul, reduceCtorEq, Int.reduceBEq, Int.reduceLT, Int.reduceLE, Int.reduceAdd, Int.reduceSub, Int.reduceEq, Int.reduceNeg, Int.reduceToNat, Int.reduceGT, Int.reduceGE, wi]⟩
            have fs := S2.grow (EEY2) (lowY2)
            rw [hY2] at fs
            rw [hY1] at fs
            rw [hV] at fs
            first | exact fs | (rw [hZ] at fs; exact fs)
    by_cases x3 : x = 3
    · subst x3
      have wr0 : IntKind.wrap .i64 0 = 0 := by decide
      have wr1 : IntKind.wrap .i64 1 = 1 := by decide
      simp only [go_sem, Nat.reduceLT, Nat.reduceLeDiff, Nat.reduceEqDiff, Nat.reduceAdd, Nat.reduceSub, Nat.reduceMul, reduceCtorEq, Int.reduceBEq, Int.reduceLT, Int.reduceLE, Int.reduceAdd, Int.reduceSub, Int.reduceEq, Int.reduceNeg, Int.reduceToNat, Int.reduceGT, Int.reduceGE, S.len, e0, e3, e4, e5, c0, ea, hb', hg0, row0, row1, hk1, kg0, kg1, kg2, kg3, kg4, kg5, kg6, kg7, hkn, hkr, lenl, cu, al0, en0, Ln.cv_eq, wr0, wr1]
      obtain ⟨X, hX⟩ : ∃ X, X = (h'.alloc (.cells (newBlk [CV.int .u64 0, CV.int .u64 0, CV.int .u64 0, CV.int .u64 0]))).put h'.nx (.cells (((((newBlk [CV.int .u64 0, CV.int .u64 0, CV.int .u64 0, CV.int .u64 0]).st 0 (u64 (ended b).c)).st 1 (u64 (ended b).b)).st 2 (u64 (ended b).h0)).st 3 (u64 (ended b).h1))) := ⟨_, rfl⟩
      have Xnx : X.nx = h'.nx + 1 := by rw [hX]; rfl
      have Xlow : X.low = h.nx := by rw [hX]; simp only [go_sem, Nat.reduceLT, Nat.reduceLeDiff, Nat.reduceEqDiff, Nat.reduceAdd, Nat.reduceSub, Nat.reduceMul, reduceCtorEq, Int.reduceBEq, Int.reduceLT, Int.reduceLE, Int.reduceAdd, Int.reduceSub, Int.reduceEq, Int.reduceNeg, Int.reduceToNat, Int.reduceGT, Int.reduceGE, st.low]; have := st.ext.nx; omega
      have XE : Ext h' X := by rw [hX]; exact (Ext.alloc' (Ext.refl _) _).put _ (Nat.le_refl _)
      have Xi : X.blk id = some bb := (XE.blk (Nat.lt_of_lt_of_le hid st.ext.nx)).trans hb'
      have Xk : X.blk lb = some k := (XE.blk st.lines.lt).trans hk1
      have Xn : X.blk h'.nx = some (((((newBlk [CV.int .u64 0, CV.int .u64 0, CV.int .u64 0, CV.int .u64 0]).st 0 (u64 (ended b).c)).st 1 (u64 (ended b).b)).st 2 (u64 (ended b).h0)).st 3 (u64 (ended b).h1)) := by rw [hX]; simp only [go_sem, Nat.reduceLT, Nat.reduceLeDiff, Nat.reduceEqDiff, Nat.reduceAdd, Nat.reduceSub, Nat.reduceMul, reduceCtorEq, Int.reduceBEq, Int.reduceLT, Int.reduceLE, Int.reduceAdd, Int.reduceSub, Int.reduceEq, Int.reduceNeg, Int.reduceToNat, Int.reduceGT, Int.reduceGE]
      have sX := st.grow XE Xlow
      refine cnd_go (Q := Q) (by kernel_rfl) ?_
      simp only [go_sem, Nat.reduceLT, Nat.reduceLeDiff, Nat.reduceEqDiff, Nat.reduceAdd, Nat.reduceSub, Nat.reduceMul, reduceCtorEq, Int.reduceBEq, Int.reduceLT, Int.reduceLE, Int.reduceAdd, Int.reduceSub, Int.reduceEq, Int.reduceNeg, Int.reduceToNat, Int.reduceGT, Int.reduceGE, S.len, e0, e3, e4, e5, c0, ea, hb', hg0, row0, row1, hk1, kg0, kg1, kg2, kg3, kg4, kg5, kg6, kg7, hkn, hkr, lenl, cu, al0, en0, Ln.cv_eq, wr0, wr1, ← hX, Xi, Xk, Xn]
      refine cnd_go (Q := Q) (by kernel_rfl) ?_
      have hx9 : h'.nx ≠ lb := by have := st.lines.lt; omega
      simp only [go_sem, Nat.reduceLT, Nat.reduceLeDiff, Nat.reduceEqDiff, Nat.reduceAdd, Nat.reduceSub, Nat.reduceMul, reduceCtorEq, Int.reduceBEq, Int.reduceLT, Int.reduceLE, Int.reduceAdd, Int.reduceSub, Int.reduceEq, Int.reduceNeg, Int.reduceToNat, Int.reduceGT, Int.reduceGE, S.len, e0, e3, e4, e5, c0, ea, hb', hg0, row0, row1, hk1, kg0, kg1, kg2, kg3, kg4, kg5, kg6, kg7, hkn, hkr, lenl, cu, al0, en0, Ln.cv_eq, wr0, wr1, beqC_4, hx9, ← hX, Xi, Xk, Xn]
      obtain ⟨Z, hZ⟩ : ∃ Z, Z = (X.put lb (.cells ((((k.st 0 (u64 (ended b).c)).st 1 (u64 (ended b).b)).st 2 (u64 (ended b).h0)).st 3 (u64 (ended b).h1)))).put lb (.cells ((((((((k.st 0 (u64 (ended b).c)).st 1 (u64 (ended b).b)).st 2 (u64 (ended b).h0)).st 3 (u64 (ended b).h1)).st 4 (u64 (ended b).c)).st 5 (u64 (ended b).b)).st 6 (u64 (ended b).h0)).st 7 (u64 (ended b).h1))) := ⟨_, rfl⟩
      obtain ⟨a2, ha2⟩ : ∃ a2, a2 = ended b := ⟨_, rfl⟩
      obtain ⟨b2, hb2⟩ : ∃ b2, b2 = ended b := ⟨_, rfl⟩
      obtain ⟨t2, ht2⟩ : ∃ t2, t2 = t := ⟨_, rfl⟩
      obtain ⟨lid2, hl2⟩ : ∃ l, l = lid := ⟨_, rfl⟩
      obtain ⟨v32, hv32⟩ : ∃ l, l = v3 := ⟨_, rfl⟩
      have htl : t2.length = t.length := by rw [ht2]
      have S2 : Sta h Z t2 a2 b2 v32 lid2 lb := by
        rw [hZ, ha2, hb2, ht2, hl2, hv32]
        have g1 := l8_set0 (a' := ended b) hkn hkg
        exact (sX.put (a' := ended b) (b' := b) (k' := ((((k.st 0 (u64 (ended b).c)).st 1 (u64 (ended b).b)).st 2 (u64 (ended b).h0)).st 3 (u64 (ended b).h1))) (by simp only [go_sem, Nat.reduceLT, Nat.reduceLeDiff, Nat.reduceEqDiff, Nat.reduceAdd, Nat.reduceSub, Nat.reduceMul, reduceCtorEq, Int.reduceBEq, Int.reduceLT, Int.reduceLE, Int.reduceAdd, Int.reduceSub, Int.reduceEq, Int.reduceNeg, Int.reduceToNat, Int.reduceGT, Int.reduceGE, hkn]) (by simp only [go_sem, Nat.reduceLT, Nat.reduceLeDiff, Nat.reduceEqDiff, Nat.reduceAdd, Nat.reduceSub, Nat.reduceMul, reduceCtorEq, Int.reduceBEq, Int.reduceLT, Int.reduceLE, Int.reduceAdd, Int.reduceSub, Int.reduceEq, Int.reduceNeg, Int.reduceToNat, Int.reduceGT, Int.reduceGE, hkr]) g1 (st.B.ended) st.B).put (by simp only [go_sem, Nat.reduceLT, Nat.reduceLeDiff, Nat.reduceEqDiff, Nat.reduceAdd, Nat.reduceSub, Nat.reduceMul, reduceCtorEq, Int.reduceBEq, Int.reduceLT, Int.reduceLE, Int.reduceAdd, Int.reduceSub, Int.reduceEq, Int.reduceNeg, Int.reduceToNat, Int.reduceGT, Int.reduceGE, hkn]) (by simp only [go_sem, Nat.reduceLT, Nat.reduceLeDiff, Nat.reduceEqDiff, Nat.reduceAdd, Nat.reduceSub, Nat.reduceMul, reduceCtorEq, Int.reduceBEq, Int.reduceLT, Int.reduceLE, Int.reduceAdd, Int.reduceSub, Int.reduceEq, Int.reduceNeg, Int.reduceToNat, Int.reduceGT, Int.reduceGE, hkr]) (l8_set1 (by simp only [go_sem, Nat.reduceLT, Nat.reduceLeDiff, Nat.reduceEqDiff, Nat.reduceAdd, Nat.reduceSub, Nat.reduceMul, reduceCtorEq, Int.reduceBEq, Int.reduceLT, Int.reduceLE, Int.reduceAdd, Int.reduceSub, Int.reduceEq, Int.reduceNeg, Int.reduceToNat, Int.reduceGT, Int.reduceGE, hkn]) g1) (st.B.ended) (st.B.ended)
      have e3 : evT env 3 = v32 := e3.trans hv32.symm
      obtain ⟨k2, hk2, hk2n, hk2r, hk2g⟩ := S2.lines.bk
      have kh0 := hk2g 0
      have kh1 := hk2g 1
      have kh2 := hk2g 2
      have kh3 := hk2g 3
      have kh4 := hk2g 4
      have kh5 := hk2g 5
      have kh6 := hk2g 6
      have kh7 := hk2g 7
      simp only [l8, nth] at kh0 kh1 kh2 kh3 kh4 kh5 kh6 kh7
      have hlb2 := S2.lines.lt
      have hne1 : lb ≠ Z.nx := by omega
      have hne2 : lb ≠ Z.nx + 1 := by omega
      refine cnd_go (Q := Q) (by kernel_rfl) ?_
      simp only [go_sem, Nat.reduceLT, Nat.reduceLeDiff, Nat.reduceEqDiff, Nat.reduceAdd, Nat.reduceSub, Nat.reduceMul, reduceCtorEq, Int.reduceBEq, Int.reduceLT, Int.reduceLE, Int.reduceAdd, Int.reduceSub, Int.reduceEq, Int.reduceNeg, Int.reduceToNat, Int.reduceGT, Int.reduceGE, e0, e3, e4, e5, wi, row0, row1, ← hX, ← hZ, hk2, kh0, kh1, kh2, kh3, kh4, kh5, kh6, kh7, hlb2, hne1, hne2]
      refine cnd_goF (Q := Q) (by kernel_rfl) ?_
      refine cnd_go' (Q := Q) (by kernel_rfl) ?_
      refine cnd_go' (Q := Q) ?_ ?_
      · rw [show leadN _ _ = 2 from by kernel_rfl]
        simp only [go_sem, Nat.reduceLT, Nat.reduceLeDiff, Nat.reduceEqDiff, Nat.reduceAdd, Nat.reduceSub, Nat.reduceMul, reduceCtorEq, Int.reduceBEq, Int.reduceLT, Int.reduceLE, Int.reduceAdd, Int.reduceSub, Int.reduceEq, Int.reduceNeg, Int.reduceToNat, Int.reduceGT, Int.reduceGE, List.take_succ_cons, List.take_zero, leadH_blk, leadH_gn, leadH_nx, ids_ptr, ids_4, beqC_4, leadId_lt, e0, e3, e4, e5, wi, row0, row1, ← hX, ← hZ, hk2, kh0, kh1, kh2, kh3, kh4, kh5, kh6, kh7, hlb2, hne1, hne2]
      simp only [go_sem, Nat.reduceLT, Nat.reduceLeDiff, Nat.reduceEqDiff, Nat.reduceAdd, Nat.reduceSub, Nat.reduceMul, reduceCtorEq, Int.reduceBEq, Int.reduceLT, Int.reduceLE, Int.reduceAdd, Int.reduceSub, Int.reduceEq, Int.reduceNeg, Int.reduceToNat, Int.reduceGT, Int.reduceGE, e0, e3, e4, e5, wi, row0, row1, ← hX, ← hZ, hk2, kh0, kh1, kh2, kh3, kh4, kh5, kh6, kh7, hlb2, hne1, hne2]
      obtain ⟨ka, hka⟩ : ∃ k, k = (((((newBlk [CV.int .u64 0, CV.int .u64 0, CV.int .u64 0, CV.int .u64 0]).st 0 (u64 a2.c)).st 1 (u64 a2.b)).st 2 (u64 a2.h0)).st 3 (u64 a2.h1)) := ⟨_, rfl⟩
      obtain ⟨kb, hkb⟩ : ∃ k, k = (((((newBlk [CV.int .u64 0, CV.int .u64 0, CV.int .u64 0, CV.int .u64 0]).st 0 (u64 b2.c)).st 1 (u64 b2.b)).st 2 (u64 b2.h0)).st 3 (u64 b2.h1)) := ⟨_, rfl⟩
      obtain ⟨V, hV⟩ : ∃ V, V = (((Z.alloc (.cells (newBlk [CV.int .u64 0, CV.int .u64 0, CV.int .u64 0, CV.int .u64 0]))).alloc (.cells (newBlk [CV.int .u64 0, CV.int .u64 0, CV.int .u64 0, CV.int .u64 0]))).put Z.nx (.cells (((((newBlk [CV.int .u64 0, CV.int .u64 0, CV.int .u64 0, CV.int .u64 0]).st 0 (u64 a2.c)).st 1 (u64 a2.b)).st 2 (u64 a2.h0)).st 3 (u64 a2.h1)))).put (Z.nx + 1) (.cells (((((newBlk [CV.int .u64 0, CV.int .u64 0, CV.int .u64 0, CV.int .u64 0]).st 0 (u64 b2.c)).st 1 (u64 b2.b)).st 2 (u64 b2.h0)).st 3 (u64 b2.h1))) := ⟨_, rfl⟩
      have VE : Ext Z V := by rw [hV]; exact (((Ext.alloc' (Ext.alloc' (Ext.refl _) _) _).put _ (Nat.le_refl _)).put _ (by omega))
      have Vnx : V.nx = Z.nx + 2 := by rw [hV]; rfl
      have nxV : Z.nx + 2 ≤ V.nx := by omega
      have lowV : V.low = h.nx := by rw [hV]; simp only [go_sem, Nat.reduceLT, Nat.reduceLeDiff, Nat.reduceEqDiff, Nat.reduceAdd, Nat.reduceSub, Nat.reduceMul, reduceCtorEq, Int.reduceBEq, Int.reduceLT, Int.reduceLE, Int.reduceAdd, Int.reduceSub, Int.reduceEq, Int.reduceNeg, Int.reduceToNat, Int.reduceGT, Int.reduceGE, S2.low]; have := S2.ext.nx; omega
      have aV : V.blk Z.nx = some ka := by rw [hV, hka]; simp only [go_sem, Nat.reduceLT, Nat.reduceLeDiff, Nat.reduceEqDiff, Nat.reduceAdd, Nat.reduceSub, Nat.reduceMul, reduceCtorEq, Int.reduceBEq, Int.reduceLT, Int.reduceLE, Int.reduceAdd, Int.reduceSub, Int.reduceEq, Int.reduceNeg, Int.reduceToNat, Int.reduceGT, Int.reduceGE, ne_succ]
      have bV : V.blk (Z.nx + 1) = some kb := by rw [hV, hkb]; simp only [go_sem, Nat.reduceLT, Nat.reduceLeDiff, Nat.reduceEqDiff, Nat.reduceAdd, Nat.reduceSub, Nat.reduceMul, reduceCtorEq, Int.reduceBEq, Int.reduceLT, Int.reduceLE, Int.reduceAdd, Int.reduceSub, Int.reduceEq, Int.reduceNeg, Int.reduceToNat, Int.reduceGT, Int.reduceGE]
      have ga0 : ka.get 0 = some (u64 a2.c) := by rw [hka]; simp only [go_sem, Nat.reduceLT, Nat.reduceLeDiff, Nat.reduceEqDiff, Nat.reduceAdd, Nat.reduceSub, Nat.reduceMul, reduceCtorEq, Int.reduceBEq, Int.reduceLT, Int.reduceLE, Int.reduceAdd, Int.reduceSub, Int.reduceEq, Int.reduceNeg, Int.reduceToNat, Int.reduceGT, Int.reduceGE]
      have ga1 : ka.get 1 = some (u64 a2.b) := by rw [hka]; simp only [go_sem, Nat.reduceLT, Nat.reduceLeDiff, Nat.reduceEqDiff, Nat.reduceAdd, Nat.reduceSub, Nat.reduceMul, reduceCtorEq, Int.reduceBEq, Int.reduceLT, Int.reduceLE, Int.reduceAdd, Int.reduceSub, Int.reduceEq, Int.reduceNeg, Int.reduceToNat, Int.reduceGT, Int.reduceGE]
      have ga2 : ka.get 2 = some (u64 a2.h0) := by rw [hka]; simp only [go_sem, Nat.reduceLT, Nat.reduceLeDiff, Nat.reduceEqDiff, Nat.reduceAdd, Nat.reduceSub, Nat.reduceMul, reduceCtorEq, Int.reduceBEq, Int.reduceLT, Int.reduceLE, Int.reduceAdd, Int.reduceSub, Int.reduceEq, Int.reduceNeg, Int.reduceToNat, Int.reduceGT, Int.reduceGE]
      have ga3 : ka.get 3 = some (u64 a2.h1) := by rw [hka]; simp only [go_sem, Nat.reduceLT, Nat.reduceLeDiff, Nat.reduceEqDiff, Nat.reduceAdd, Nat.reduceSub, Nat.reduceMul, reduceCtorEq, Int.reduceBEq, Int.reduceLT, Int.reduceLE, Int.reduceAdd, Int.reduceSub, Int.reduceEq, Int.reduceNeg, Int.reduceToNat, Int.reduceGT, Int.reduceGE]
      have gb0 : kb.get 0 = some (u64 b2.c) := by rw [hkb]; simp only [go_sem, Nat.reduceLT, Nat.reduceLeDiff, Nat.reduceEqDiff, Nat.reduceAdd, Nat.reduceSub, Nat.reduceMul, reduceCtorEq, Int.reduceBEq, Int.reduceLT, Int.reduceLE, Int.reduceAdd, Int.reduceSub, Int.reduceEq, Int.reduceNeg, Int.reduceToNat, Int.reduceGT, Int.reduceGE]
      have gb1 : kb.get 1 = some (u64 b2.b) := by rw [hkb]; simp only [go_sem, Nat.reduceLT, Nat.reduceLeDiff, Nat.reduceEqDiff, Nat.reduceAdd, Nat.reduceSub, Nat.reduceMul, reduceCtorEq, Int.reduceBEq, Int.reduceLT, Int.reduceLE, Int.reduceAdd, Int.reduceSub, Int.reduceEq, Int.reduceNeg, Int.reduceToNat, Int.reduceGT, Int.reduceGE]
      have gb2 : kb.get 2 = some (u64 b2.h0) := by rw [hkb]; simp only [go_sem, Nat.reduceLT, Nat.reduceLeDiff, Nat.reduceEqDiff, Nat.reduceAdd, Nat.reduceSub, Nat.reduceMul, reduceCtorEq, Int.reduceBEq, Int.reduceLT, Int.reduceLE, Int.reduceAdd, Int.reduceSub, Int.reduceEq, Int.reduceNeg, Int.reduceToNat, Int.reduceGT, Int.reduceGE]
      have gb3 : kb.get 3 = some (u64 b2.h1) := by rw [hkb]; simp only [go_sem, Nat.reduceLT, Nat.reduceLeDiff, Nat.reduceEqDiff, Nat.reduceAdd, Nat.reduceSub, Nat.reduceMul, reduceCtorEq, Int.reduceBEq, Int.reduceLT, Int.reduceLE, Int.reduceAdd, Int.reduceSub, Int.reduceEq, Int.reduceNeg, Int.reduceToNat, Int.reduceGT, Int.reduceGE]
      have pa := S2.A.pos
      have pb := S2.B.pos
      have la2 := S2.A.lt
      have lb2 := S2.B.lt
      have cmp : ∀ Y, (lim Try.prog σ).call 23 [.agg [u64 a2.c, u64 a2.b, u64 a2.h0, u64 a2.h1], .agg [u64 b2.c, u64 b2.b, u64 b2.h0, u64 b2.h1]] Y = some (.int .i64 (Int.ofNat (cmpV a2 b2)), none) := fun Y => compare_run hσ Y a2 b2 (by omega) (by omega)
      have ca2 := fun X => cvi (n := a2.c) (by omega) X
      have cb2 := fun X => cvi (n := b2.c) (by omega) X
      have BV : TL V v32 t2 := S2.tl.ext VE
      have len2 := fun h' ts az => BV.len h' ts az
      have p1 : ¬ Int.ofNat a2.c < 1 := by show ¬ (a2.c : Int) < 1; omega
      have p2 : ¬ Int.ofNat b2.c < 1 := by show ¬ (b2.c : Int) < 1; omega
      have p3 : ¬ Int.ofNat a2.c ≥ Int.ofNat t2.length := by show ¬ (a2.c : Int) ≥ (t2.length : Int); omega
      have p4 : ¬ Int.ofNat b2.c ≥ Int.ofNat t2.length := by show ¬ (b2.c : Int) ≥ (t2.length : Int); omega
      obtain ⟨far, up, r1, hf1, ab1'⟩ := above_run hσ BV S2.tree (by omega) a2.c b2.c pa lb2
      obtain ⟨way, down, r2, hf2, ab2'⟩ := above_run hσ BV S2.tree (by omega) b2.c a2.c pb la2
      have ab1 : (lim Try.prog σ).call 24 [v32, .int .i64 (Int.ofNat a2.c), .int .i64 (Int.ofNat b2.c)] V = _ := ab1'
      have ab2 : (lim Try.prog σ).call 24 [v32, .int .i64 (Int.ofNat b2.c), .int .i64 (Int.ofNat a2.c)] V = _ := ab2'
      simp only [go_sem, Nat.reduceLT, Nat.reduceLeDiff, Nat.reduceEqDiff, Nat.reduceAdd, Nat.reduceSub, Nat.reduceMul, reduceCtorEq, Int.reduceBEq, Int.reduceLT, Int.reduceLE, Int.reduceAdd, Int.reduceSub, Int.reduceEq, Int.reduceNeg, Int.reduceToNat, Int.reduceGT, Int.reduceGE, i4, i5, i6, i7, i8, e0, e3, e4, e5, wi, row0, row1, ← hX, ← hZ, ← hV, aV, bV, ga0, ga1, ga2, ga3, gb0, gb1, gb2, gb3, cmp, ca2, cb2, len2, p1, p2, p3, p4, ab1, ab2]
      refine cnd_go (Q := Q) (by kernel_rfl) ?_
      simp only [go_sem, Nat.reduceLT, Nat.reduceLeDiff, Nat.reduceEqDiff, Nat.reduceAdd, Nat.reduceSub, Nat.reduceMul, reduceCtorEq, Int.reduceBEq, Int.reduceLT, Int.reduceLE, Int.reduceAdd, Int.reduceSub, Int.reduceEq, Int.reduceNeg, Int.reduceToNat, Int.reduceGT, Int.reduceGE, i4, i5, i6, i7, i8, e0, e3, e4, e5, wi, row0, row1, ← hX, ← hZ, ← hV, aV, bV, ga0, ga1, ga2, ga3, gb0, gb1, gb2, gb3, cmp, ca2, cb2, len2, p1, p2, p3, p4, ab1, ab2]
      by_cases q : a2.c = b2.c
      · have q' : Int.ofNat a2.c = Int.ofNat b2.c := congrArg _ q
        have cv : cmpV a2 b2 = 4 := if_pos q
        simp only [go_sem, Nat.reduceLT, Nat.reduceLeDiff, Nat.reduceEqDiff, Nat.reduceAdd, Nat.reduceSub, Nat.reduceMul, reduceCtorEq, Int.reduceBEq, Int.reduceLT, Int.reduceLE, Int.reduceAdd, Int.reduceSub, Int.reduceEq, Int.reduceNeg, Int.reduceToNat, Int.reduceGT, Int.reduceGE, i4, i5, i6, i7, i8, e0, e3, e4, e5, wi, row0, row1, ← hX, ← hZ, ← hV, aV, bV, ga0, ga1, ga2, ga3, gb0, gb1, gb2, gb3, cmp, ca2, cb2, len2, p1, p2, p3, p4, ab1, ab2, q', cv]
        refine next _ _ ⟨t2, a2, b2, v32, lid2, lb, ?_, by omega, by simp only [go_sem, Nat.reduceLT, Nat.reduceLeDiff, Nat.reduceEqDiff, Nat.reduceAdd, Nat.reduceSub, Nat.reduceMul, reduceCtorEq, Int.reduceBEq, Int.reduceLT, Int.reduceLE, Int.reduceAdd, Int.reduceSub, Int.reduceEq, Int.reduceNeg, Int.reduceToNat, Int.reduceGT, Int.reduceGE, e0], by simp only [go_sem, Nat.reduceLT, Nat.reduceLeDiff, Nat.reduceEqDiff, Nat.reduceAdd, Nat.reduceSub, Nat.reduceMul, reduceCtorEq, Int.reduceBEq, Int.reduceLT, Int.reduceLE, Int.reduceAdd, Int.reduceSub, Int.reduceEq, Int.reduceNeg, Int.reduceToNat, Int.reduceGT, Int.reduceGE, e3], by simp only [go_sem, Nat.reduceLT, Nat.reduceLeDiff, Nat.reduceEqDiff, Nat.reduceAdd, Nat.reduceSub, Nat.reduceMul, reduceCtorEq, Int.reduceBEq, Int.reduceLT, Int.reduceLE, Int.reduceAdd, Int.reduceSub, Int.reduceEq, Int.reduceNeg, Int.reduceToNat, Int.reduceGT, Int.reduceGE, e4], by simp only [go_sem, Nat.reduceLT, Nat.reduceLeDiff, Nat.reduceEqDiff, Nat.reduceAdd, Nat.reduceSub, Nat.reduceMul, reduceCtorEq, Int.reduceBEq, Int.reduceLT, Int.reduceLE, Int.reduceAdd, Int.reduceSub, Int.reduceEq, Int.reduceNeg, Int.reduceToNat, Int.reduceGT, Int.reduceGE, wi]⟩
        have fs := S2.grow (VE) (lowV)
        rw [hV] at fs
        first | exact fs | (rw [hZ] at fs; exact fs)
      have q' : ¬ Int.ofNat a2.c = Int.ofNat b2.c := fun e => q (Int.ofNat.inj e)
      have M5 := mem_iff S2.tree S2.B pa q r1
      have M6 := mem_iff S2.tree S2.A pb (fun e => q e.symm) r2
      by_cases m5 : a2.c ∈ b2.el
      · obtain ⟨u1, u2⟩ := M5.1 m5
        subst u1
        have cv : cmpV a2 b2 = 5 := by unfold cmpV; rw [if_neg q, if_pos m5]
        have le5 : Int.ofNat far ≤ Int.ofNat b2.el.length := by show (far : Int) ≤ _; exact Int.ofNat_le.2 u2
        obtain ⟨vY1, xY1, eY1, BY1, EY1, lY1⟩ := elder_c hσ (X := V) (by have := (VE).nx; have := S2.ext.nx; omega) b2
        obtain ⟨Y1, hY1⟩ : ∃ Y', Y' = xY1.getD V := ⟨_, rfl⟩
        rw [← hY1] at BY1 EY1 lY1
        have cY1 : (lim Try.prog σ).call 25 [.agg [u64 b2.c, u64 b2.b, u64 b2.h0, u64 b2.h1]] V = some (vY1, xY1) := eY1
        have aY1 : Y1.blk Z.nx = some ka := (EY1.blk (by omega)).trans aV
        have bY1 : Y1.blk (Z.nx + 1) = some kb := (EY1.blk (by omega)).trans bV
        have nxY1 : Z.nx + 2 ≤ Y1.nx := by have := EY1.nx; omega
        have EEY1 : Ext Z Y1 := (VE).trans EY1
        have lowY1 : Y1.low = h.nx := by rw [lY1, lowV]
        simp only [go_sem, Nat.reduceLT, Nat.reduceLeDiff, Nat.reduceEqDiff, Nat.reduceAdd, Nat.reduceSub, Nat.reduceMul, reduceCtorEq, Int.reduceBEq, Int.reduceLT, Int.reduceLE, Int.reduceAdd, Int.reduceSub, Int.reduceEq, Int.reduceNeg, Int.reduceToNat, Int.reduceGT, Int.reduceGE, i4, i5, i6, i7, i8, e0, e3, e4, e5, wi, row0, row1, ← hX, ← hZ, ← hV, aV, bV, ga0, ga1, ga2, ga3, gb0, gb1, gb2, gb3, cmp, ca2, cb2, len2, p1, p2, p3, p4, ab1, ab2, q', cv, cY1, ← hY1, aY1, bY1, BY1.len, le5]
        refine next _ _ ⟨t2, a2, b2, v32, lid2, lb, ?_, by omega, by simp only [go_sem, Nat.reduceLT, Nat.reduceLeDiff, Nat.reduceEqDiff, Nat.reduceAdd, Nat.reduceSub, Nat.reduceMul, reduceCtorEq, Int.reduceBEq, Int.reduceLT, Int.reduceLE, Int.reduceAdd, Int.reduceSub, Int.reduceEq, Int.reduceNeg, Int.reduceToNat, Int.reduceGT, Int.reduceGE, e0], by simp only [go_sem, Nat.reduceLT, Nat.reduceLeDiff, Nat.reduceEqDiff, Nat.reduceAdd, Nat.reduceSub, Nat.reduceMul, reduceCtorEq, Int.reduceBEq, Int.reduceLT, Int.reduceLE, Int.reduceAdd, Int.reduceSub, Int.reduceEq, Int.reduceNeg, Int.reduceToNat, Int.reduceGT, Int.reduceGE, e3], by simp only [go_sem, Nat.reduceLT, Nat.reduceLeDiff, Nat.reduceEqDiff, Nat.reduceAdd, Nat.reduceSub, Nat.reduceMul, reduceCtorEq, Int.reduceBEq, Int.reduceLT, Int.reduceLE, Int.reduceAdd, Int.reduceSub, Int.reduceEq, Int.reduceNeg, Int.reduceToNat, Int.reduceGT, Int.reduceGE, e4], by simp only [go_sem, Nat.reduceLT, Nat.reduceLeDiff, Nat.reduceEqDiff, Nat.reduceAdd, Nat.reduceSub, Nat.reduceMul, reduceCtorEq, Int.reduceBEq, Int.reduceLT, Int.reduceLE, Int.reduceAdd, Int.reduceSub, Int.reduceEq, Int.reduceNeg, Int.reduceToNat, Int.reduceGT, Int.reduceGE, wi]⟩
        have fs := S2.grow (EEY1) (lowY1)
        rw [hY1] at fs
        rw [hV] at fs
        first | exact fs | (rw [hZ] at fs; exact fs)
      cases up
      · by_cases m6 : b2.c ∈ a2.el
        · obtain ⟨u1, u2⟩ := M6.1 m6
          subst u1
          have cv : cmpV a2 b2 = 6 := by unfold cmpV; rw [if_neg q, if_neg m5, if_pos m6]
          have le6 : Int.ofNat way ≤ Int.ofNat a2.el.length := by show (way : Int) ≤ _; exact Int.ofNat_le.2 u2
          obtain ⟨vY2, xY2, eY2, BY2, EY2, lY2⟩ := elder_c hσ (X := V) (by have := (VE).nx; have := S2.ext.nx; omega) a2
          obtain ⟨Y2, hY2⟩ : ∃ Y', Y' = xY2.getD V := ⟨_, rfl⟩
          rw [← hY2] at BY2 EY2 lY2
          have cY2 : (lim Try.prog σ).call 25 [.agg [u64 a2.c, u64 a2.b, u64 a2.h0, u64 a2.h1]] V = some (vY2, xY2) := eY2
          have aY2 : Y2.blk Z.nx = some ka := (EY2.blk (by omega)).trans aV
          have bY2 : Y2.blk (Z.nx + 1) = some kb := (EY2.blk (by omega)).trans bV
          have nxY2 : Z.nx + 2 ≤ Y2.nx := by have := EY2.nx; omega
          have EEY2 : Ext Z Y2 := (VE).trans EY2
          have lowY2 : Y2.low = h.nx := by rw [lY2, lowV]
          simp only [go_sem, Nat.reduceLT, Nat.reduceLeDiff, Nat.reduceEqDiff, Nat.reduceAdd, Nat.reduceSub, Nat.reduceMul, reduceCtorEq, Int.reduceBEq, Int.reduceLT, Int.reduceLE, Int.reduceAdd, Int.reduceSub, Int.reduceEq, Int.reduceNeg, Int.reduceToNat, Int.reduceGT, Int.reduceGE, i4, i5, i6, i7, i8, e0, e3, e4, e5, wi, row0, row1, ← hX, ← hZ, ← hV, aV, bV, ga0, ga1, ga2, ga3, gb0, gb1, gb2, gb3, cmp, ca2, cb2, len2, p1, p2, p3, p4, ab1, ab2, q', cv, cY2, ← hY2, aY2, bY2, BY2.len, le6]
          refine next _ _ ⟨t2, a2, b2, v32, lid2, lb, ?_, by omega, by simp only [go_sem, Nat.reduceLT, Nat.reduceLeDiff, Nat.reduceEqDiff, Nat.reduceAdd, Nat.reduceSub, Nat.reduceMul, reduceCtorEq, Int.reduceBEq, Int.reduceLT, Int.reduceLE, Int.reduceAdd, Int.reduceSub, Int.reduceEq, Int.reduceNeg, Int.reduceToNat, Int.reduceGT, Int.reduceGE, e0], by simp only [go_sem, Nat.reduceLT, Nat.reduceLeDiff, Nat.reduceEqDiff, Nat.reduceAdd, Nat.reduceSub, Nat.reduceMul, reduceCtorEq, Int.reduceBEq, Int.reduceLT, Int.reduceLE, Int.reduceAdd, Int.reduceSub, Int.reduceEq, Int.reduceNeg, Int.reduceToNat, Int.reduceGT, Int.reduceGE, e3], by simp only [go_sem, Nat.reduceLT, Nat.reduceLeDiff, Nat.reduceEqDiff, Nat.reduceAdd, Nat.reduceSub, Nat.reduceMul, reduceCtorEq, Int.reduceBEq, Int.reduceLT, Int.reduceLE, Int.reduceAdd, Int.reduceSub, Int.reduceEq, Int.reduceNeg, Int.reduceToNat, Int.reduceGT, Int.reduceGE, e4], by simp only [go_sem, Nat.reduceLT, Nat.reduceLeDiff, Nat.reduceEqDiff, Nat.reduceAdd, Nat.reduceSub, Nat.reduceMul, reduceCtorEq, Int.reduceBEq, Int.reduceLT, Int.reduceLE, Int.reduceAdd, Int.reduceSub, Int.reduceEq, Int.reduceNeg, Int.reduceToNat, Int.reduceGT, Int.reduceGE, wi]⟩
          have fs := S2.grow (EEY2) (lowY2)
          rw [hY2] at fs
          rw [hV] at fs
          first | exact fs | (rw [hZ] at fs; exact fs)
        cases down
        · have shr : (lim Try.prog σ).call 26 [v32, .agg [u64 a2.c, u64 a2.b, u64 a2.h0, u64 a2.h1], .agg [u64 b2.c, u64 b2.b, u64 b2.h0, u64 b2.h1]] V = some (.bool (decide (sh a2.el b2.el ≠ 0)), none) := lshared_run hσ (S2.tl.ext VE) S2.tree (by omega) a2 b2 la2 lb2 S2.A.ch S2.B.ch
          by_cases s0 : sh a2.el b2.el ≠ 0
          · have cv : cmpV a2 b2 = 7 := by unfold cmpV; rw [if_neg q, if_neg m5, if_neg m6, if_pos s0]
            have ds : decide (sh a2.el b2.el ≠ 0) = true := decide_eq_true s0
            rw [ds] at shr
            simp only [go_sem, Nat.reduceLT, Nat.reduceLeDiff, Nat.reduceEqDiff, Nat.reduceAdd, Nat.reduceSub, Nat.reduceMul, reduceCtorEq, Int.reduceBEq, Int.reduceLT, Int.reduceLE, Int.reduceAdd, Int.reduceSub, Int.reduceEq, Int.reduceNeg, Int.reduceToNat, Int.reduceGT, Int.reduceGE, i4, i5, i6, i7, i8, e0, e3, e4, e5, wi, row0, row1, ← hX, ← hZ, ← hV, aV, bV, ga0, ga1, ga2, ga3, gb0, gb1, gb2, gb3, cmp, ca2, cb2, len2, p1, p2, p3, p4, ab1, ab2, q', cv, shr]
            refine next _ _ ⟨t2, a2, b2, v32, lid2, lb, ?_, by omega, by simp only [go_sem, Nat.reduceLT, Nat.reduceLeDiff, Nat.reduceEqDiff, Nat.reduceAdd, Nat.reduceSub, Nat.reduceMul, reduceCtorEq, Int.reduceBEq, Int.reduceLT, Int.reduceLE, Int.reduceAdd, Int.reduceSub, Int.reduceEq, Int.reduceNeg, Int.reduceToNat, Int.reduceGT, Int.reduceGE, e0], by simp only [go_sem, Nat.reduceLT, Nat.reduceLeDiff, Nat.reduceEqDiff, Nat.reduceAdd, Nat.reduceSub, Nat.reduceMul, reduceCtorEq, Int.reduceBEq, Int.reduceLT, Int.reduceLE, Int.reduceAdd, Int.reduceSub, Int.reduceEq, Int.reduceNeg, Int.reduceToNat, Int.reduceGT, Int.reduceGE, e3], by simp only [go_sem, Nat.reduceLT, Nat.reduceLeDiff, Nat.reduceEqDiff, Nat.reduceAdd, Nat.reduceSub, Nat.reduceMul, reduceCtorEq, Int.reduceBEq, Int.reduceLT, Int.reduceLE, Int.reduceAdd, Int.reduceSub, Int.reduceEq, Int.reduceNeg, Int.reduceToNat, Int.reduceGT, Int.reduceGE, e4], by simp only [go_sem, Nat.reduceLT, Nat.reduceLeDiff, Nat.reduceEqDiff, Nat.reduceAdd, Nat.reduceSub, Nat.reduceMul, reduceCtorEq, Int.reduceBEq, Int.reduceLT, Int.reduceLE, Int.reduceAdd, Int.reduceSub, Int.reduceEq, Int.reduceNeg, Int.reduceToNat, Int.reduceGT, Int.reduceGE, wi]⟩
            have fs := S2.grow (VE) (lowV)
            rw [hV] at fs
            first | exact fs | (rw [hZ] at fs; exact fs)
          · have cv : cmpV a2 b2 = 8 := by unfold cmpV; rw [if_neg q, if_neg m5, if_neg m6, if_neg s0]
            have ds : decide (sh a2.el b2.el ≠ 0) = false := decide_eq_false s0
            rw [ds] at shr
            simp only [go_sem, Nat.reduceLT, Nat.reduceLeDiff, Nat.reduceEqDiff, Nat.reduceAdd, Nat.reduceSub, Nat.reduceMul, reduceCtorEq, Int.reduceBEq, Int.reduceLT, Int.reduceLE, Int.reduceAdd, Int.reduceSub, Int.reduceEq, Int.reduceNeg, Int.reduceToNat, Int.reduceGT, Int.reduceGE, i4, i5, i6, i7, i8, e0, e3, e4, e5, wi, row0, row1, ← hX, ← hZ, ← hV, aV, bV, ga0, ga1, ga2, ga3, gb0, gb1, gb2, gb3, cmp, ca2, cb2, len2, p1, p2, p3, p4, ab1, ab2, q', cv, shr]
            refine next _ _ ⟨t2, a2, b2, v32, lid2, lb, ?_, by omega, by simp only [go_sem, Nat.reduceLT, Nat.reduceLeDiff, Nat.reduceEqDiff, Nat.reduceAdd, Nat.reduceSub, Nat.reduceMul, reduceCtorEq, Int.reduceBEq, Int.reduceLT, Int.reduceLE, Int.reduceAdd, Int.reduceSub, Int.reduceEq, Int.reduceNeg, Int.reduceToNat, Int.reduceGT, Int.reduceGE, e0], by simp only [go_sem, Nat.reduceLT, Nat.reduceLeDiff, Nat.reduceEqDiff, Nat.reduceAdd, Nat.reduceSub, Nat.reduceMul, reduceCtorEq, Int.reduceBEq, Int.reduceLT, Int.reduceLE, Int.reduceAdd, Int.reduceSub, Int.reduceEq, Int.reduceNeg, Int.reduceToNat, Int.reduceGT, Int.reduceGE, e3], by simp only [go_sem, Nat.reduceLT, Nat.reduceLeDiff, Nat.reduceEqDiff, Nat.reduceAdd, Nat.reduceSub, Nat.reduceMul, reduceCtorEq, Int.reduceBEq, Int.reduceLT, Int.reduceLE, Int.reduceAdd, Int.reduceSub, Int.reduceEq, Int.reduceNeg, Int.reduceToNat, Int.reduceGT, Int.reduceGE, e4], by simp only [go_sem, Nat.reduceLT, Nat.reduceLeDiff, Nat.reduceEqDiff, Nat.reduceAdd, Nat.reduceSub, Nat.reduceMul, reduceCtorEq, Int.reduceBEq, Int.reduceLT, Int.reduceLE, Int.reduceAdd, Int.reduceSub, Int.reduceEq, Int.reduceNeg, Int.reduceToNat, Int.reduceGT, Int.reduceGE, wi]⟩
            have fs := S2.grow (VE) (lowV)
            rw [hV] at fs
            first | exact fs | (rw [hZ] at fs; exact fs)
        · obtain ⟨vY2, xY2, eY2, BY2, EY2, lY2⟩ := elder_c hσ (X := V) (by have := (VE).nx; have := S2.ext.nx; omega) a2
          obtain ⟨Y2, hY2⟩ : ∃ Y', Y' = xY2.getD V := ⟨_, rfl⟩
          rw [← hY2] at BY2 EY2 lY2
          have cY2 : (lim Try.prog σ).call 25 [.agg [u64 a2.c, u64 a2.b, u64 a2.h0, u64 a2.h1]] V = some (vY2, xY2) := eY2
          have aY2 : Y2.blk Z.nx = some ka := (EY2.blk (by omega)).trans aV
          have bY2 : Y2.blk (Z.nx + 1) = some kb := (EY2.blk (by omega)).trans bV
          have nxY2 : Z.nx + 2 ≤ Y2.nx := by have := EY2.nx; omega
          have EEY2 : Ext Z Y2 := (VE).trans EY2
          have lowY2 : Y2.low = h.nx := by rw [lY2, lowV]
          have nle6 : ¬ Int.ofNat way ≤ Int.ofNat a2.el.length := fun e => m6 (M6.2 ⟨rfl, Int.ofNat_le.1 e⟩)
          have shr : (lim Try.prog σ).call 26 [v32, .agg [u64 a2.c, u64 a2.b, u64 a2.h0, u64 a2.h1], .agg [u64 b2.c, u64 b2.b, u64 b2.h0, u64 b2.h1]] Y2 = some (.bool (decide (sh a2.el b2.el ≠ 0)), none) := lshared_run hσ (S2.tl.ext EEY2) S2.tree (by omega) a2 b2 la2 lb2 S2.A.ch S2.B.ch
          by_cases s0 : sh a2.el b2.el ≠ 0
          · have cv : cmpV a2 b2 = 7 := by unfold cmpV; rw [if_neg q, if_neg m5, if_neg m6, if_pos s0]
            have ds : decide (sh a2.el b2.el ≠ 0) = true := decide_eq_true s0
            rw [ds] at shr
            simp only [go_sem, Nat.reduceLT, Nat.reduceLeDiff, Nat.reduceEqDiff, Nat.reduceAdd, Nat.reduceSub, Nat.reduceMul, reduceCtorEq, Int.reduceBEq, Int.reduceLT, Int.reduceLE, Int.reduceAdd, Int.reduceSub, Int.reduceEq, Int.reduceNeg, Int.reduceToNat, Int.reduceGT, Int.reduceGE, i4, i5, i6, i7, i8, e0, e3, e4, e5, wi, row0, row1, ← hX, ← hZ, ← hV, aV, bV, ga0, ga1, ga2, ga3, gb0, gb1, gb2, gb3, cmp, ca2, cb2, len2, p1, p2, p3, p4, ab1, ab2, q', cv, cY2, ← hY2, aY2, bY2, BY2.len, nle6, shr]
            refine next _ _ ⟨t2, a2, b2, v32, lid2, lb, ?_, by omega, by simp only [go_sem, Nat.reduceLT, Nat.reduceLeDiff, Nat.reduceEqDiff, Nat.reduceAdd, Nat.reduceSub, Nat.reduceMul, reduceCtorEq, Int.reduceBEq, Int.reduceLT, Int.reduceLE, Int.reduceAdd, Int.reduceSub, Int.reduceEq, Int.reduceNeg, Int.reduceToNat, Int.reduceGT, Int.reduceGE, e0], by simp only [go_sem, Nat.reduceLT, Nat.reduceLeDiff, Nat.reduceEqDiff, Nat.reduceAdd, Nat.reduceSub, Nat.reduceMul, reduceCtorEq, Int.reduceBEq, Int.reduceLT, Int.reduceLE, Int.reduceAdd, Int.reduceSub, Int.reduceEq, Int.reduceNeg, Int.reduceToNat, Int.reduceGT, Int.reduceGE, e3], by simp only [go_sem, Nat.reduceLT, Nat.reduceLeDiff, Nat.reduceEqDiff, Nat.reduceAdd, Nat.reduceSub, Nat.reduceMul, reduceCtorEq, Int.reduceBEq, Int.reduceLT, Int.reduceLE, Int.reduceAdd, Int.reduceSub, Int.reduceEq, Int.reduceNeg, Int.reduceToNat, Int.reduceGT, Int.reduceGE, e4], by simp only [go_sem, Nat.reduceLT, Nat.reduceLeDiff, Nat.reduceEqDiff, Nat.reduceAdd, Nat.reduceSub, Nat.reduceMul, reduceCtorEq, Int.reduceBEq, Int.reduceLT, Int.reduceLE, Int.reduceAdd, Int.reduceSub, Int.reduceEq, Int.reduceNeg, Int.reduceToNat, Int.reduceGT, Int.reduceGE, wi]⟩
            have fs := S2.grow (EEY2) (lowY2)
            rw [hY2] at fs
            rw [hV] at fs
            first | exact fs | (rw [hZ] at fs; exact fs)
          · have cv : cmpV a2 b2 = 8 := by unfold cmpV; rw [if_neg q, if_neg m5, if_neg m6, if_neg s0]
            have ds : decide (sh a2.el b2.el ≠ 0) = false := decide_eq_false s0
            rw [ds] at shr
            simp only [go_sem, Nat.reduceLT, Nat.reduceLeDiff, Nat.reduceEqDiff, Nat.reduceAdd, Nat.reduceSub, Nat.reduceMul, reduceCtorEq, Int.reduceBEq, Int.reduceLT, Int.reduceLE, Int.reduceAdd, Int.reduceSub, Int.reduceEq, Int.reduceNeg, Int.reduceToNat, Int.reduceGT, Int.reduceGE, i4, i5, i6, i7, i8, e0, e3, e4, e5, wi, row0, row1, ← hX, ← hZ, ← hV, aV, bV, ga0, ga1, ga2, ga3, gb0, gb1, gb2, gb3, cmp, ca2, cb2, len2, p1, p2, p3, p4, ab1, ab2, q', cv, cY2, ← hY2, aY2, bY2, BY2.len, nle6, shr]
            refine next _ _ ⟨t2, a2, b2, v32, lid2, lb, ?_, by omega, by simp only [go_sem, Nat.reduceLT, Nat.reduceLeDiff, Nat.reduceEqDiff, Nat.reduceAdd, Nat.reduceSub, Nat.reduceMul, reduceCtorEq, Int.reduceBEq, Int.reduceLT, Int.reduceLE, Int.reduceAdd, Int.reduceSub, Int.reduceEq, Int.reduceNeg, Int.reduceToNat, Int.reduceGT, Int.reduceGE, e0], by simp only [go_sem, Nat.reduceLT, Nat.reduceLeDiff, Nat.reduceEqDiff, Nat.reduceAdd, Nat.reduceSub, Nat.reduceMul, reduceCtorEq, Int.reduceBEq, Int.reduceLT, Int.reduceLE, Int.reduceAdd, Int.reduceSub, Int.reduceEq, Int.reduceNeg, Int.reduceToNat, Int.reduceGT, Int.reduceGE, e3], by simp only [go_sem, Nat.reduceLT, Nat.reduceLeDiff, Nat.reduceEqDiff, Nat.reduceAdd, Nat.reduceSub, Nat.reduceMul, reduceCtorEq, Int.reduceBEq, Int.reduceLT, Int.reduceLE, Int.reduceAdd, Int.reduceSub, Int.reduceEq, Int.reduceNeg, Int.reduceToNat, Int.reduceGT, Int.reduceGE, e4], by simp only [go_sem, Nat.reduceLT, Nat.reduceLeDiff, Nat.reduceEqDiff, Nat.reduceAdd, Nat.reduceSub, Nat.reduceMul, reduceCtorEq, Int.reduceBEq, Int.reduceLT, Int.reduceLE, Int.reduceAdd, Int.reduceSub, Int.reduceEq, Int.reduceNeg, Int.reduceToNat, Int.reduceGT, Int.reduceGE, wi]⟩
            have fs := S2.grow (EEY2) (lowY2)
            rw [hY2] at fs
            rw [hV] at fs
            first | exact fs | (rw [hZ] at fs; exact fs)
      · obtain ⟨vY1, xY1, eY1, BY1, EY1, lY1⟩ := elder_c hσ (X := V) (by have := (VE).nx; have := S2.ext.nx; omega) b2
        obtain ⟨Y1, hY1⟩ : ∃ Y', Y' = xY1.getD V := ⟨_, rfl⟩
        rw [← hY1] at BY1 EY1 lY1
        have cY1 : (lim Try.prog σ).call 25 [.agg [u64 b2.c, u64 b2.b, u64 b2.h0, u64 b2.h1]] V = some (vY1, xY1) := eY1
        have aY1 : Y1.blk Z.nx = some ka := (EY1.blk (by omega)).trans aV
        have bY1 : Y1.blk (Z.nx + 1) = some kb := (EY1.blk (by omega)).trans bV
        have nxY1 : Z.nx + 2 ≤ Y1.nx := by have := EY1.nx; omega
        have EEY1 : Ext Z Y1 := (VE).trans EY1
        have lowY1 : Y1.low = h.nx := by rw [lY1, lowV]
        have nle5 : ¬ Int.ofNat far ≤ Int.ofNat b2.el.length := fun e => m5 (M5.2 ⟨rfl, Int.ofNat_le.1 e⟩)
        by_cases m6 : b2.c ∈ a2.el
        · obtain ⟨u1, u2⟩ := M6.1 m6
          subst u1
          have cv : cmpV a2 b2 = 6 := by unfold cmpV; rw [if_neg q, if_neg m5, if_pos m6]
          have le6 : Int.ofNat way ≤ Int.ofNat a2.el.length := by show (way : Int) ≤ _; exact Int.ofNat_le.2 u2
          obtain ⟨vY2, xY2, eY2, BY2, EY2, lY2⟩ := elder_c hσ (X := Y1) (by have := (EEY1).nx; have := S2.ext.nx; omega) a2
          obtain ⟨Y2, hY2⟩ : ∃ Y', Y' = xY2.getD Y1 := ⟨_, rfl⟩
          rw [← hY2] at BY2 EY2 lY2
          have cY2 : (lim Try.prog σ).call 25 [.agg [u64 a2.c, u64 a2.b, u64 a2.h0, u64 a2.h1]] Y1 = some (vY2, xY2) := eY2
          have aY2 : Y2.blk Z.nx = some ka := (EY2.blk (by omega)).trans aY1
          have bY2 : Y2.blk (Z.nx + 1) = some kb := (EY2.blk (by omega)).trans bY1
          have nxY2 : Z.nx + 2 ≤ Y2.nx := by have := EY2.nx; omega
          have EEY2 : Ext Z Y2 := (EEY1).trans EY2
          have lowY2 : Y2.low = h.nx := by rw [lY2, lowY1]
          simp only [go_sem, Nat.reduceLT, Nat.reduceLeDiff, Nat.reduceEqDiff, Nat.reduceAdd, Nat.reduceSub, Nat.reduceMul, reduceCtorEq, Int.reduceBEq, Int.reduceLT, Int.reduceLE, Int.reduceAdd, Int.reduceSub, Int.reduceEq, Int.reduceNeg, Int.reduceToNat, Int.reduceGT, Int.reduceGE, i4, i5, i6, i7, i8, e0, e3, e4, e5, wi, row0, row1, ← hX, ← hZ, ← hV, aV, bV, ga0, ga1, ga2, ga3, gb0, gb1, gb2, gb3, cmp, ca2, cb2, len2, p1, p2, p3, p4, ab1, ab2, q', cv, cY1, ← hY1, aY1, bY1, BY1.len, nle5, cY2, ← hY2, aY2, bY2, BY2.len, le6]
          refine next _ _ ⟨t2, a2, b2, v32, lid2, lb, ?_, by omega, by simp only [go_sem, Nat.reduceLT, Nat.reduceLeDiff, Nat.reduceEqDiff, Nat.reduceAdd, Nat.reduceSub, Nat.reduceMul, reduceCtorEq, Int.reduceBEq, Int.reduceLT, Int.reduceLE, Int.reduceAdd, Int.reduceSub, Int.reduceEq, Int.reduceNeg, Int.reduceToNat, Int.reduceGT, Int.reduceGE, e0], by simp only [go_sem, Nat.reduceLT, Nat.reduceLeDiff, Nat.reduceEqDiff, Nat.reduceAdd, Nat.reduceSub, Nat.reduceMul, reduceCtorEq, Int.reduceBEq, Int.reduceLT, Int.reduceLE, Int.reduceAdd, Int.reduceSub, Int.reduceEq, Int.reduceNeg, Int.reduceToNat, Int.reduceGT, Int.reduceGE, e3], by simp only [go_sem, Nat.reduceLT, Nat.reduceLeDiff, Nat.reduceEqDiff, Nat.reduceAdd, Nat.reduceSub, Nat.reduceMul, reduceCtorEq, Int.reduceBEq, Int.reduceLT, Int.reduceLE, Int.reduceAdd, Int.reduceSub, Int.reduceEq, Int.reduceNeg, Int.reduceToNat, Int.reduceGT, Int.reduceGE, e4], by simp only [go_sem, Nat.reduceLT, Nat.reduceLeDiff, Nat.reduceEqDiff, Nat.reduceAdd, Nat.reduceSub, Nat.reduceMul, reduceCtorEq, Int.reduceBEq, Int.reduceLT, Int.reduceLE, Int.reduceAdd, Int.reduceSub, Int.reduceEq, Int.reduceNeg, Int.reduceToNat, Int.reduceGT, Int.reduceGE, wi]⟩
          have fs := S2.grow (EEY2) (lowY2)
          rw [hY2] at fs
          rw [hY1] at fs
          rw [hV] at fs
          first | exact fs | (rw [hZ] at fs; exact fs)
        cases down
        · have shr : (lim Try.prog σ).call 26 [v32, .agg [u64 a2.c, u64 a2.b, u64 a2.h0, u64 a2.h1], .agg [u64 b2.c, u64 b2.b, u64 b2.h0, u64 b2.h1]] Y1 = some (.bool (decide (sh a2.el b2.el ≠ 0)), none) := lshared_run hσ (S2.tl.ext EEY1) S2.tree (by omega) a2 b2 la2 lb2 S2.A.ch S2.B.ch
          by_cases s0 : sh a2.el b2.el ≠ 0
          · have cv : cmpV a2 b2 = 7 := by unfold cmpV; rw [if_neg q, if_neg m5, if_neg m6, if_pos s0]
            have ds : decide (sh a2.el b2.el ≠ 0) = true := decide_eq_true s0
            rw [ds] at shr
            simp only [go_sem, Nat.reduceLT, Nat.reduceLeDiff, Nat.reduceEqDiff, Nat.reduceAdd, Nat.reduceSub, Nat.reduceMul, reduceCtorEq, Int.reduceBEq, Int.reduceLT, Int.reduceLE, Int.reduceAdd, Int.reduceSub, Int.reduceEq, Int.reduceNeg, Int.reduceToNat, Int.reduceGT, Int.reduceGE, i4, i5, i6, i7, i8, e0, e3, e4, e5, wi, row0, row1, ← hX, ← hZ, ← hV, aV, bV, ga0, ga1, ga2, ga3, gb0, gb1, gb2, gb3, cmp, ca2, cb2, len2, p1, p2, p3, p4, ab1, ab2, q', cv, cY1, ← hY1, aY1, bY1, BY1.len, nle5, shr]
            refine next _ _ ⟨t2, a2, b2, v32, lid2, lb, ?_, by omega, by simp only [go_sem, Nat.reduceLT, Nat.reduceLeDiff, Nat.reduceEqDiff, Nat.reduceAdd, Nat.reduceSub, Nat.reduceMul, reduceCtorEq, Int.reduceBEq, Int.reduceLT, Int.reduceLE, Int.reduceAdd, Int.reduceSub, Int.reduceEq, Int.reduceNeg, Int.reduceToNat, Int.reduceGT, Int.reduceGE, e0], by simp only [go_sem, Nat.reduceLT, Nat.reduceLeDiff, Nat.reduceEqDiff, Nat.reduceAdd, Nat.reduceSub, Nat.reduceMul, reduceCtorEq, Int.reduceBEq, Int.reduceLT, Int.reduceLE, Int.reduceAdd, Int.reduceSub, Int.reduceEq, Int.reduceNeg, Int.reduceToNat, Int.reduceGT, Int.reduceGE, e3], by simp only [go_sem, Nat.reduceLT, Nat.reduceLeDiff, Nat.reduceEqDiff, Nat.reduceAdd, Nat.reduceSub, Nat.reduceMul, reduceCtorEq, Int.reduceBEq, Int.reduceLT, Int.reduceLE, Int.reduceAdd, Int.reduceSub, Int.reduceEq, Int.reduceNeg, Int.reduceToNat, Int.reduceGT, Int.reduceGE, e4], by simp only [go_sem, Nat.reduceLT, Nat.reduceLeDiff, Nat.reduceEqDiff, Nat.reduceAdd, Nat.reduceSub, Nat.reduceMul, reduceCtorEq, Int.reduceBEq, Int.reduceLT, Int.reduceLE, Int.reduceAdd, Int.reduceSub, Int.reduceEq, Int.reduceNeg, Int.reduceToNat, Int.reduceGT, Int.reduceGE, wi]⟩
            have fs := S2.grow (EEY1) (lowY1)
            rw [hY1] at fs
            rw [hV] at fs
            first | exact fs | (rw [hZ] at fs; exact fs)
          · have cv : cmpV a2 b2 = 8 := by unfold cmpV; rw [if_neg q, if_neg m5, if_neg m6, if_neg s0]
            have ds : decide (sh a2.el b2.el ≠ 0) = false := decide_eq_false s0
            rw [ds] at shr
            simp only [go_sem, Nat.reduceLT, Nat.reduceLeDiff, Nat.reduceEqDiff, Nat.reduceAdd, Nat.reduceSub, Nat.reduceMul, reduceCtorEq, Int.reduceBEq, Int.reduceLT, Int.reduceLE, Int.reduceAdd, Int.reduceSub, Int.reduceEq, Int.reduceNeg, Int.reduceToNat, Int.reduceGT, Int.reduceGE, i4, i5, i6, i7, i8, e0, e3, e4, e5, wi, row0, row1, ← hX, ← hZ, ← hV, aV, bV, ga0, ga1, ga2, ga3, gb0, gb1, gb2, gb3, cmp, ca2, cb2, len2, p1, p2, p3, p4, ab1, ab2, q', cv, cY1, ← hY1, aY1, bY1, BY1.len, nle5, shr]
            refine next _ _ ⟨t2, a2, b2, v32, lid2, lb, ?_, by omega, by simp only [go_sem, Nat.reduceLT, Nat.reduceLeDiff, Nat.reduceEqDiff, Nat.reduceAdd, Nat.reduceSub, Nat.reduceMul, reduceCtorEq, Int.reduceBEq, Int.reduceLT, Int.reduceLE, Int.reduceAdd, Int.reduceSub, Int.reduceEq, Int.reduceNeg, Int.reduceToNat, Int.reduceGT, Int.reduceGE, e0], by simp only [go_sem, Nat.reduceLT, Nat.reduceLeDiff, Nat.reduceEqDiff, Nat.reduceAdd, Nat.reduceSub, Nat.reduceMul, reduceCtorEq, Int.reduceBEq, Int.reduceLT, Int.reduceLE, Int.reduceAdd, Int.reduceSub, Int.reduceEq, Int.reduceNeg, Int.reduceToNat, Int.reduceGT, Int.reduceGE, e3], by simp only [go_sem, Nat.reduceLT, Nat.reduceLeDiff, Nat.reduceEqDiff, Nat.reduceAdd, Nat.reduceSub, Nat.reduceMul, reduceCtorEq, Int.reduceBEq, Int.reduceLT, Int.reduceLE, Int.reduceAdd, Int.reduceSub, Int.reduceEq, Int.reduceNeg, Int.reduceToNat, Int.reduceGT, Int.reduceGE, e4], by simp only [go_sem, Nat.reduceLT, Nat.reduceLeDiff, Nat.reduceEqDiff, Nat.reduceAdd, Nat.reduceSub, Nat.reduceMul, reduceCtorEq, Int.reduceBEq, Int.reduceLT, Int.reduceLE, Int.reduceAdd, Int.reduceSub, Int.reduceEq, Int.reduceNeg, Int.reduceToNat, Int.reduceGT, Int.reduceGE, wi]⟩
            have fs := S2.grow (EEY1) (lowY1)
            rw [hY1] at fs
            rw [hV] at fs
            first | exact fs | (rw [hZ] at fs; exact fs)
        · obtain ⟨vY2, xY2, eY2, BY2, EY2, lY2⟩ := elder_c hσ (X := Y1) (by have := (EEY1).nx; have := S2.ext.nx; omega) a2
          obtain ⟨Y2, hY2⟩ : ∃ Y', Y' = xY2.getD Y1 := ⟨_, rfl⟩
          rw [← hY2] at BY2 EY2 lY2
          have cY2 : (lim Try.prog σ).call 25 [.agg [u64 a2.c, u64 a2.b, u64 a2.h0, u64 a2.h1]] Y1 = some (vY2, xY2) := eY2
          have aY2 : Y2.blk Z.nx = some ka := (EY2.blk (by omega)).trans aY1
          have bY2 : Y2.blk (Z.nx + 1) = some kb := (EY2.blk (by omega)).trans bY1
          have nxY2 : Z.nx + 2 ≤ Y2.nx := by have := EY2.nx; omega
          have EEY2 : Ext Z Y2 := (EEY1).trans EY2
          have lowY2 : Y2.low = h.nx := by rw [lY2, lowY1]
          have nle6 : ¬ Int.ofNat way ≤ Int.ofNat a2.el.length := fun e => m6 (M6.2 ⟨rfl, Int.ofNat_le.1 e⟩)
          have shr : (lim Try.prog σ).call 26 [v32, .agg [u64 a2.c, u64 a2.b, u64 a2.h0, u64 a2.h1], .agg [u64 b2.c, u64 b2.b, u64 b2.h0, u64 b2.h1]] Y2 = some (.bool (decide (sh a2.el b2.el ≠ 0)), none) := lshared_run hσ (S2.tl.ext EEY2) S2.tree (by omega) a2 b2 la2 lb2 S2.A.ch S2.B.ch
          by_cases s0 : sh a2.el b2.el ≠ 0
          · have cv : cmpV a2 b2 = 7 := by unfold cmpV; rw [if_neg q, if_neg m5, if_neg m6, if_pos s0]
            have ds : decide (sh a2.el b2.el ≠ 0) = true := decide_eq_true s0
            rw [ds] at shr
            simp only [go_sem, Nat.reduceLT, Nat.reduceLeDiff, Nat.reduceEqDiff, Nat.reduceAdd, Nat.reduceSub, Nat.reduceMul, reduceCtorEq, Int.reduceBEq, Int.reduceLT, Int.reduceLE, Int.reduceAdd, Int.reduceSub, Int.reduceEq, Int.reduceNeg, Int.reduceToNat, Int.reduceGT, Int.reduceGE, i4, i5, i6, i7, i8, e0, e3, e4, e5, wi, row0, row1, ← hX, ← hZ, ← hV, aV, bV, ga0, ga1, ga2, ga3, gb0, gb1, gb2, gb3, cmp, ca2, cb2, len2, p1, p2, p3, p4, ab1, ab2, q', cv, cY1, ← hY1, aY1, bY1, BY1.len, nle5, cY2, ← hY2, aY2, bY2, BY2.len, nle6, shr]
            refine next _ _ ⟨t2, a2, b2, v32, lid2, lb, ?_, by omega, by simp only [go_sem, Nat.reduceLT, Nat.reduceLeDiff, Nat.reduceEqDiff, Nat.reduceAdd, Nat.reduceSub, Nat.reduceMul, reduceCtorEq, Int.reduceBEq, Int.reduceLT, Int.reduceLE, Int.reduceAdd, Int.reduceSub, Int.reduceEq, Int.reduceNeg, Int.reduceToNat, Int.reduceGT, Int.reduceGE, e0], by simp only [go_sem, Nat.reduceLT, Nat.reduceLeDiff, Nat.reduceEqDiff, Nat.reduceAdd, Nat.reduceSub, Nat.reduceMul, reduceCtorEq, Int.reduceBEq, Int.reduceLT, Int.reduceLE, Int.reduceAdd, Int.reduceSub, Int.reduceEq, Int.reduceNeg, Int.reduceToNat, Int.reduceGT, Int.reduceGE, e3], by simp only [go_sem, Nat.reduceLT, Nat.reduceLeDiff, Nat.reduceEqDiff, Nat.reduceAdd, Nat.reduceSub, Nat.reduceMul, reduceCtorEq, Int.reduceBEq, Int.reduceLT, Int.reduceLE, Int.reduceAdd, Int.reduceSub, Int.reduceEq, Int.reduceNeg, Int.reduceToNat, Int.reduceGT, Int.reduceGE, e4], by simp only [go_sem, Nat.reduceLT, Nat.reduceLeDiff, Nat.reduceEqDiff, Nat.reduceAdd, Nat.reduceSub, Nat.reduceMul, reduceCtorEq, Int.reduceBEq, Int.reduceLT, Int.reduceLE, Int.reduceAdd, Int.reduceSub, Int.reduceEq, Int.reduceNeg, Int.reduceToNat, Int.reduceGT, Int.reduceGE, wi]⟩
            have fs := S2.grow (EEY2) (lowY2)
            rw [hY2] at fs
            rw [hY1] at fs
            rw [hV] at fs
            first | exact fs | (rw [hZ] at fs; exact fs)
          · have cv : cmpV a2 b2 = 8 := by unfold cmpV; rw [if_neg q, if_neg m5, if_neg m6, if_neg s0]
            have ds : decide (sh a2.el b2.el ≠ 0) = false := decide_eq_false s0
            rw [ds] at shr
            simp only [go_sem, Nat.reduceLT, Nat.reduceLeDiff, Nat.reduceEqDiff, Nat.reduceAdd, Nat.reduceSub, Nat.reduceMul, reduceCtorEq, Int.reduceBEq, Int.reduceLT, Int.reduceLE, Int.reduceAdd, Int.reduceSub, Int.reduceEq, Int.reduceNeg, Int.reduceToNat, Int.reduceGT, Int.reduceGE, i4, i5, i6, i7, i8, e0, e3, e4, e5, wi, row0, row1, ← hX, ← hZ, ← hV, aV, bV, ga0, ga1, ga2, ga3, gb0, gb1, gb2, gb3, cmp, ca2, cb2, len2, p1, p2, p3, p4, ab1, ab2, q', cv, cY1, ← hY1, aY1, bY1, BY1.len, nle5, cY2, ← hY2, aY2, bY2, BY2.len, nle6, shr]
            refine next _ _ ⟨t2, a2, b2, v32, lid2, lb, ?_, by omega, by simp only [go_sem, Nat.reduceLT, Nat.reduceLeDiff, Nat.reduceEqDiff, Nat.reduceAdd, Nat.reduceSub, Nat.reduceMul, reduceCtorEq, Int.reduceBEq, Int.reduceLT, Int.reduceLE, Int.reduceAdd, Int.reduceSub, Int.reduceEq, Int.reduceNeg, Int.reduceToNat, Int.reduceGT, Int.reduceGE, e0], by simp only [go_sem, Nat.reduceLT, Nat.reduceLeDiff, Nat.reduceEqDiff, Nat.reduceAdd, Nat.reduceSub, Nat.reduceMul, reduceCtorEq, Int.reduceBEq, Int.reduceLT, Int.reduceLE, Int.reduceAdd, Int.reduceSub, Int.reduceEq, Int.reduceNeg, Int.reduceToNat, Int.reduceGT, Int.reduceGE, e3], by simp only [go_sem, Nat.reduceLT, Nat.reduceLeDiff, Nat.reduceEqDiff, Nat.reduceAdd, Nat.reduceSub, Nat.reduceMul, reduceCtorEq, Int.reduceBEq, Int.reduceLT, Int.reduceLE, Int.reduceAdd, Int.reduceSub, Int.reduceEq, Int.reduceNeg, Int.reduceToNat, Int.reduceGT, Int.reduceGE, e4], by simp only [go_sem, Nat.reduceLT, Nat.reduceLeDiff, Nat.reduceEqDiff, Nat.reduceAdd, Nat.reduceSub, Nat.reduceMul, reduceCtorEq, Int.reduceBEq, Int.reduceLT, Int.reduceLE, Int.reduceAdd, Int.reduceSub, Int.reduceEq, Int.reduceNeg, Int.reduceToNat, Int.reduceGT, Int.reduceGE, wi]⟩
            have fs := S2.grow (EEY2) (lowY2)
            rw [hY2] at fs
            rw [hY1] at fs
            rw [hV] at fs
            first | exact fs | (rw [hZ] at fs; exact fs)
    simp only [go_sem, Nat.reduceLT, Nat.reduceLeDiff, Nat.reduceEqDiff, Nat.reduceAdd, Nat.reduceSub, Nat.reduceMul, reduceCtorEq, Int.reduceBEq, Int.reduceLT, Int.reduceLE, Int.reduceAdd, Int.reduceSub, Int.reduceEq, Int.reduceNeg, Int.reduceToNat, Int.reduceGT, Int.reduceGE, S.len, e0, e3, e4, e5, c0, ea, hb', hg0, wi, x0, x1, x2, x3]
    refine next _ _ ⟨t, a, b, v3, lid, lb, st, by omega, by simp only [go_sem, Nat.reduceLT, Nat.reduceLeDiff, Nat.reduceEqDiff, Nat.reduceAdd, Nat.reduceSub, Nat.reduceMul, reduceCtorEq, Int.reduceBEq, Int.reduceLT, Int.reduceLE, Int.reduceAdd, Int.reduceSub, Int.reduceEq, Int.reduceNeg, Int.reduceToNat, Int.reduceGT, Int.reduceGE, e0], by simp only [go_sem, Nat.reduceLT, Nat.reduceLeDiff, Nat.reduceEqDiff, Nat.reduceAdd, Nat.reduceSub, Nat.reduceMul, reduceCtorEq, Int.reduceBEq, Int.reduceLT, Int.reduceLE, Int.reduceAdd, Int.reduceSub, Int.reduceEq, Int.reduceNeg, Int.reduceToNat, Int.reduceGT, Int.reduceGE, e3], by simp only [go_sem, Nat.reduceLT, Nat.reduceLeDiff, Nat.reduceEqDiff, Nat.reduceAdd, Nat.reduceSub, Nat.reduceMul, reduceCtorEq, Int.reduceBEq, Int.reduceLT, Int.reduceLE, Int.reduceAdd, Int.reduceSub, Int.reduceEq, Int.reduceNeg, Int.reduceToNat, Int.reduceGT, Int.reduceGE, e4], by simp only [go_sem, Nat.reduceLT, Nat.reduceLeDiff, Nat.reduceEqDiff, Nat.reduceAdd, Nat.reduceSub, Nat.reduceMul, reduceCtorEq, Int.reduceBEq, Int.reduceLT, Int.reduceLE, Int.reduceAdd, Int.reduceSub, Int.reduceEq, Int.reduceNeg, Int.reduceToNat, Int.reduceGT, Int.reduceGE, wi]⟩
  · rintro env h' ⟨t, a, b, v3, lid, lb, st, ht, e0, e3, e4, e5⟩
    have c0 := ofNat_nlt (Nat.le_refl xs.length)
    simp only [go_sem, Nat.reduceLT, Nat.reduceLeDiff, Nat.reduceEqDiff, Nat.reduceAdd, Nat.reduceSub, Nat.reduceMul, reduceCtorEq, Int.reduceBEq, Int.reduceLT, Int.reduceLE, Int.reduceAdd, Int.reduceSub, Int.reduceEq, Int.reduceNeg, Int.reduceToNat, Int.reduceGT, Int.reduceGE, S.len, e0, e3, e4, e5, c0, hk]
    rw [hQ]; exact tru_fin _ _
end Go.Cl.U
