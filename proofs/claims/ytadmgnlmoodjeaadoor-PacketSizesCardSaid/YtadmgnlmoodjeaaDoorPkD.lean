/- The program's functions, run by the rewriting evaluator: what each answers and leaves (PkD). -/
import Derived.Test.YtadmgnlmoodjeaaDoorPkC
set_option linter.all false
open Go Go.Cl Go.Proofs
namespace Go.Cl.Sh.W
variable {σ : Sums}
set_option maxRecDepth 1000000

theorem wok_some {X : H} {w lid : Nat} {s : Bool × List Nat} {r : Option (CV × Option H)} (W : WOk X w lid s r) (hs : s.1 = false) :
    ∃ Y lid', r = some (.ptr w 0, some Y) ∧ WrAt Y w lid' false s.2 ∧ WFr X Y w lid ∧ (lid' = lid ∨ X.nx ≤ lid') ∧ Y.low ≤ w := by
  obtain ⟨x, lid', rfl, A, F, hl, hw, hx⟩ := W
  cases x with
  | none => rw [hx rfl] at hs; cases hs
  | some Y => exact ⟨Y, lid', rfl, by rw [← hs]; exact A, F, hl, (hw Y rfl).1⟩
def hdr (p : Pk) : List Nat := [71, 80] ++ be p.kind.toNat 1 ++ be p.mine 8 ++ be p.theirs 8 ++ (if ackK p.kind then be p.ack 8 else []) ++ (if dataK p.kind then be p.seq 8 ++ (be p.xs.length 2 ++ p.xs) else [])
def pack (p : Pk) : List Nat := hdr p ++ (digest (hdr p)).take 4
theorem hdr_len {p : Pk} (h : mayV p = true) : (hdr p).length ≤ 5000 := by
  have hx : dataK p.kind = true → p.xs.length ≤ 4000 := fun e => by
    unfold mayV at h
    rw [e] at h
    split at h
    · cases h
    · split at h
      · cases h
      · simp at h; exact h.2.2
  unfold hdr
  simp only [List.length_append, be_len]
  have e1 : (if ackK p.kind = true then be p.ack 8 else []).length ≤ 8 := by split <;> simp [be_len]
  have e2 : (if dataK p.kind = true then be p.seq 8 ++ (be p.xs.length 2 ++ p.xs) else []).length ≤ 4010 := by
    split
    · rename_i e; have := hx e; simp [be_len]; omega
    · simp
  simp
  omega
structure PkOk (p : Pk) : Prop where
  m : p.mine < 2 ^ 64
  t : p.theirs < 2 ^ 64
  a : p.ack < 2 ^ 64
  s : p.seq < 2 ^ 64
theorem sl_d (h : H) (id : Nat) : sliceT Tryd.prog h 77 (.ptr id 0) none (some (.int .i64 4)) none = some (.sl id 0 4 (.exact 32)) := by kernel_rfl
theorem four_of (l : List Nat) (h : 4 ≤ l.length) : ∃ a b c d r, l = a :: b :: c :: d :: r := by
  match l, h with
  | a :: b :: c :: d :: r, _ => exact ⟨a, b, c, d, r, rfl⟩
theorem bsl_beq {h : H} {v : CV} {cs : List CV} (B : BSl h v cs) : beqC v v = true := by
  rcases B with ⟨_, rfl⟩ | ⟨_, _, _, _, _, rfl⟩ | ⟨_, _, _, _, rfl, _⟩
  · exact beqC_nils
  · simp [beqC]
  · exact beqC_sl _ _ _ _
theorem numB8 {n : Nat} (h : n < 2 ^ 64) : numB n 8 = some (be n 8) := by
  unfold numB
  rw [if_pos (by decide), if_pos (Nat.div_eq_of_lt (by show n < 256 ^ 8; omega))]
  rfl
theorem numB1 {n : Nat} (h : n < 256) : numB n 1 = some (be n 1) := by
  unfold numB
  rw [if_pos (by decide), if_pos (Nat.div_eq_of_lt (by show n < 256 ^ 1; omega))]
  rfl
theorem ne_succ' (n : Nat) : n ≠ n + 1 := by omega
theorem u64_eq' (n : Nat) : CV.int .u64 (Int.ofNat n) = u64 n := rfl
theorem cvk {k : Int} (h1 : 0 ≤ k) (h2 : k < 1000) (X : H) : convT Tryd.prog X 22 23 (.int .i64 k) = some (.val (u64 k.toNat)) := by
  have e := cv_22_23 X .i64 k
  obtain ⟨n, rfl⟩ : ∃ n : Nat, k = Int.ofNat n := ⟨k.toNat, by simp; omega⟩
  rw [wrap_u64 (by simp at h2; omega)] at e
  exact e
def PBok (h : H) (p : Pk) (r : Option (CV × Option H)) : Prop :=
  (mayV p = false ∧ r = some (.tup [.nils, .int .i64 2], none)) ∨ (mayV p = true ∧ ∃ v x, r = some (.tup [v, .int .i64 0], x) ∧ Ext h (x.getD h) ∧ BSl (x.getD h) v (bc (pack p)))
theorem bytes_pk (hσ : ∀ f a h, σ f a h = none) {h : H} (g : HG h) (p : Pk) (ok : PkOk p) (B : BSl h p.v (bc p.xs)) : PBok h p ((lim Tryd.prog σ).call 7 [.agg p.cs] h) := by
  have hσ' : ∀ f a h, told f = false → σ f a h = none := fun f a h _ => hσ f a h
  obtain ⟨Q, hQ⟩ : ∃ Q, Q = PBok h p := ⟨_, rfl⟩
  rw [← hQ]
  rw [call_eq (hσ' _ _ _ (by decide)) fn_7 rfl rfl, Tryd.ntmps7, Tryd.results7]
  obtain ⟨pb, hpb⟩ : ∃ pb, pb = newBlk p.cs := ⟨_, rfl⟩
  have pb' : newBlk [.int .i64 p.kind, u64 p.mine, u64 p.theirs, u64 p.ack, u64 p.seq, p.v] = pb := hpb.symm
  obtain ⟨X, hX⟩ : ∃ X, X = h.lo.alloc (.cells pb) := ⟨_, rfl⟩
  have Xnx : X.nx = h.nx + 1 := by rw [hX]; rfl
  have XE : Ext h X := by rw [hX]; exact (Ext.lo h).alloc' _
  have Xlow : X.low = h.nx := by rw [hX]; rfl
  have Xp : X.blk h.nx = some pb := by rw [hX]; simp only [go_sem, Nat.reduceLT, Nat.reduceLeDiff, Nat.reduceEqDiff, Nat.reduceAdd, Nat.reduceSub, Nat.reduceMul, reduceCtorEq, Int.reduceBEq, Int.reduceLT, Int.reduceLE, Int.reduceAdd, Int.reduceSub, Int.reduceEq, Int.reduceNeg, Int.reduceToNat, Int.reduceGT, Int.reduceGE]
  have ov := B.one.1
  have oc := B.one.2
  have g0 : pb.get 0 = some (.int .i64 p.kind) := by rw [hpb]; simp only [go_sem, Nat.reduceLT, Nat.reduceLeDiff, Nat.reduceEqDiff, Nat.reduceAdd, Nat.reduceSub, Nat.reduceMul, reduceCtorEq, Int.reduceBEq, Int.reduceLT, Int.reduceLE, Int.reduceAdd, Int.reduceSub, Int.reduceEq, Int.reduceNeg, Int.reduceToNat, Int.reduceGT, Int.reduceGE, Pk.cs]
  have g1 : pb.get 1 = some (u64 p.mine) := by rw [hpb]; simp only [go_sem, Nat.reduceLT, Nat.reduceLeDiff, Nat.reduceEqDiff, Nat.reduceAdd, Nat.reduceSub, Nat.reduceMul, reduceCtorEq, Int.reduceBEq, Int.reduceLT, Int.reduceLE, Int.reduceAdd, Int.reduceSub, Int.reduceEq, Int.reduceNeg, Int.reduceToNat, Int.reduceGT, Int.reduceGE, Pk.cs]
  have g2 : pb.get 2 = some (u64 p.theirs) := by rw [hpb]; simp only [go_sem, Nat.reduceLT, Nat.reduceLeDiff, Nat.reduceEqDiff, Nat.reduceAdd, Nat.reduceSub, Nat.reduceMul, reduceCtorEq, Int.reduceBEq, Int.reduceLT, Int.reduceLE, Int.reduceAdd, Int.reduceSub, Int.reduceEq, Int.reduceNeg, Int.reduceToNat, Int.reduceGT, Int.reduceGE, Pk.cs]
  have g3 : pb.get 3 = some (u64 p.ack) := by rw [hpb]; simp only [go_sem, Nat.reduceLT, Nat.reduceLeDiff, Nat.reduceEqDiff, Nat.reduceAdd, Nat.reduceSub, Nat.reduceMul, reduceCtorEq, Int.reduceBEq, Int.reduceLT, Int.reduceLE, Int.reduceAdd, Int.reduceSub, Int.reduceEq, Int.reduceNeg, Int.reduceToNat, Int.reduceGT, Int.reduceGE, Pk.cs]
  have g4 : pb.get 4 = some (u64 p.seq) := by rw [hpb]; simp only [go_sem, Nat.reduceLT, Nat.reduceLeDiff, Nat.reduceEqDiff, Nat.reduceAdd, Nat.reduceSub, Nat.reduceMul, reduceCtorEq, Int.reduceBEq, Int.reduceLT, Int.reduceLE, Int.reduceAdd, Int.reduceSub, Int.reduceEq, Int.reduceNeg, Int.reduceToNat, Int.reduceGT, Int.reduceGE, Pk.cs]
  have g5 : pb.get 5 = some p.v := by rw [hpb]; simp only [go_sem, Nat.reduceLT, Nat.reduceLeDiff, Nat.reduceEqDiff, Nat.reduceAdd, Nat.reduceSub, Nat.reduceMul, reduceCtorEq, Int.reduceBEq, Int.reduceLT, Int.reduceLE, Int.reduceAdd, Int.reduceSub, Int.reduceEq, Int.reduceNeg, Int.reduceToNat, Int.reduceGT, Int.reduceGE, Pk.cs]
  have mr : (lim Tryd.prog σ).call 33 [.agg [.int .i64 p.kind, u64 p.mine, u64 p.theirs, u64 p.ack, u64 p.seq, p.v]] X = some (.bool (mayV p), none) := may_run hσ' p (B.ext XE)
  have nm : ∀ Y, (lim Tryd.prog σ).call 34 [.int .i64 p.kind] Y = some (.tup [.bool (isK p.kind), .bool (ackK p.kind), .bool (dataK p.kind)], none) := fun Y => names_run hσ' Y p.kind
  unfold Pk.cs
  simp only [go_sem, Nat.reduceLT, Nat.reduceLeDiff, Nat.reduceEqDiff, Nat.reduceAdd, Nat.reduceSub, Nat.reduceMul, reduceCtorEq, Int.reduceBEq, Int.reduceLT, Int.reduceLE, Int.reduceAdd, Int.reduceSub, Int.reduceEq, Int.reduceNeg, Int.reduceToNat, Int.reduceGT, Int.reduceGE, pb', ← hX, Xp, ov, oc, g0, g1, g2, g3, g4, g5, mr]
  cases e0 : mayV p
  · simp only [go_sem, Nat.reduceLT, Nat.reduceLeDiff, Nat.reduceEqDiff, Nat.reduceAdd, Nat.reduceSub, Nat.reduceMul, reduceCtorEq, Int.reduceBEq, Int.reduceLT, Int.reduceLE, Int.reduceAdd, Int.reduceSub, Int.reduceEq, Int.reduceNeg, Int.reduceToNat, Int.reduceGT, Int.reduceGE, pb', ← hX, Xp, ov, oc, g0, g1, g2, g3, g4, g5, mr, e0]
    rw [hQ]
    exact .inl ⟨e0, congrArg some (fin_q _ _ _ Xlow rfl)⟩
  have hk : 0 ≤ p.kind ∧ p.kind < 256 := by
    have : isK p.kind = true := by
      cases e1 : isK p.kind with
      | true => rfl
      | false => unfold mayV at e0; simp [e1] at e0
    unfold isK at this; simp at this; omega
  have ck := cvk hk.1 (by omega : p.kind < 1000)
  simp only [go_sem, Nat.reduceLT, Nat.reduceLeDiff, Nat.reduceEqDiff, Nat.reduceAdd, Nat.reduceSub, Nat.reduceMul, reduceCtorEq, Int.reduceBEq, Int.reduceLT, Int.reduceLE, Int.reduceAdd, Int.reduceSub, Int.reduceEq, Int.reduceNeg, Int.reduceToNat, Int.reduceGT, Int.reduceGE, pb', ← hX, Xp, ov, oc, g0, g1, g2, g3, g4, g5, mr, e0, nm]
  refine cnd_go (Q := Q) (by kernel_rfl) ?_
  obtain ⟨mb, hmb⟩ : ∃ mb, mb = ({ n := 2, d := [CV.int .u8 0], t := T.nil : Blk }.st 0 (CV.int .u8 71)).st 1 (CV.int .u8 80) := ⟨_, rfl⟩
  obtain ⟨X1, hX1⟩ : ∃ X1, X1 = X.alloc (.cells (newBlk [CV.nils, CV.bool false])) := ⟨_, rfl⟩
  have X1nx : X1.nx = X.nx + 1 := by rw [hX1]; rfl
  have X1p : X1.blk h.nx = some pb := by rw [hX1]; exact ((Ext.alloc X _).blk (by omega)).trans Xp
  obtain ⟨X2, hX2⟩ : ∃ X2, X2 = X1.alloc (.cells mb) := ⟨_, rfl⟩
  have XE2 : Ext X X2 := by rw [hX2, hX1]; exact ((Ext.refl X).alloc' _).alloc' _
  have X2nx : X2.nx = h.nx + 3 := by rw [hX2, hX1]; simp only [go_sem, Nat.reduceLT, Nat.reduceLeDiff, Nat.reduceEqDiff, Nat.reduceAdd, Nat.reduceSub, Nat.reduceMul, reduceCtorEq, Int.reduceBEq, Int.reduceLT, Int.reduceLE, Int.reduceAdd, Int.reduceSub, Int.reduceEq, Int.reduceNeg, Int.reduceToNat, Int.reduceGT, Int.reduceGE]; omega
  have X2low : X2.low = h.nx := by rw [hX2, hX1]; exact Xlow
  have X2m : X2.blk (X.nx + 1) = some mb := by rw [hX2, hX1]; simp only [go_sem, Nat.reduceLT, Nat.reduceLeDiff, Nat.reduceEqDiff, Nat.reduceAdd, Nat.reduceSub, Nat.reduceMul, reduceCtorEq, Int.reduceBEq, Int.reduceLT, Int.reduceLE, Int.reduceAdd, Int.reduceSub, Int.reduceEq, Int.reduceNeg, Int.reduceToNat, Int.reduceGT, Int.reduceGE]
  have X2p : X2.blk h.nx = some pb := (XE2.blk (by omega)).trans Xp
  have hro : mb.ro = false := by rw [hmb]; rfl
  have hcv : ∀ Y, Y.blk (X.nx + 1) = some mb → convT Tryd.prog Y 24 24 (.sl (X.nx + 1) 0 2 (.exact 2)) = some (.val (.sl (X.nx + 1) 0 2 (.exact 2))) := fun Y hY => by
    simp [convT, Tryd.underlying24, Tryd.underlying5, hY, hro]
  have A0 : WrAt X2 X.nx X.nx false [] := by
    refine ⟨by omega, fun q => absurd rfl q, newBlk [CV.nils, CV.bool false], .nils, ?_, rfl, rfl, rfl, rfl, Lst.nil _ _ _⟩
    rw [hX2, hX1]; simp only [go_sem, Nat.reduceLT, Nat.reduceLeDiff, Nat.reduceEqDiff, Nat.reduceAdd, Nat.reduceSub, Nat.reduceMul, reduceCtorEq, Int.reduceBEq, Int.reduceLT, Int.reduceLE, Int.reduceAdd, Int.reduceSub, Int.reduceEq, Int.reduceNeg, Int.reduceToNat, Int.reduceGT, Int.reduceGE, ne_succ']
  have Bm : BSl X2 (.sl (X.nx + 1) 0 2 (.exact 2)) (bc [71, 80]) := .inr (.inr ⟨_, 0, _, mb, rfl, by omega, X2m, by rw [hmb]; rfl⟩)
  obtain ⟨Y1, l1, q1, A1, F1, L1, w1⟩ := wok_some (bytes_run hσ' A0 Bm (by decide)) rfl
  have y1n := F1.nx
  have Y1m : Y1.blk (X.nx + 1) = some mb := (blk_eq (F1.old (X.nx + 1) (by omega) (by omega) (by omega))).trans X2m
  have Y1p : Y1.blk h.nx = some pb := (blk_eq (F1.old h.nx (by omega) (by omega) (by omega))).trans X2p
  obtain ⟨Y2, l2, q2, A2, F2, L2, w2⟩ := wok_some (number_run hσ' A1 p.kind.toNat (by omega) 1 (by decide)) (by rw [numB1 (by omega)]; rfl)
  have y2n := F2.nx
  have Y2m : Y2.blk (X.nx + 1) = some mb := (blk_eq (F2.old (X.nx + 1) (by omega) (by omega) (by omega))).trans Y1m
  have Y2p : Y2.blk h.nx = some pb := (blk_eq (F2.old h.nx (by omega) (by omega) (by omega))).trans Y1p
  rw [numB1 (by omega)] at A2
  obtain ⟨Y3, l3, q3, A3, F3, L3, w3⟩ := wok_some (number_run hσ' A2 p.mine ok.m 8 (by simp [wput, be_len])) (by rw [numB8 ok.m]; rfl)
  have y3n := F3.nx
  have Y3m : Y3.blk (X.nx + 1) = some mb := (blk_eq (F3.old (X.nx + 1) (by omega) (by omega) (by omega))).trans Y2m
  have Y3p : Y3.blk h.nx = some pb := (blk_eq (F3.old h.nx (by omega) (by omega) (by omega))).trans Y2p
  rw [numB8 ok.m] at A3
  obtain ⟨Y4, l4, q4, A4, F4, L4, w4⟩ := wok_some (number_run hσ' A3 p.theirs ok.t 8 (by simp [wput, be_len])) (by rw [numB8 ok.t]; rfl)
  have y4n := F4.nx
  have Y4m : Y4.blk (X.nx + 1) = some mb := (blk_eq (F4.old (X.nx + 1) (by omega) (by omega) (by omega))).trans Y3m
  have Y4p : Y4.blk h.nx = some pb := (blk_eq (F4.old h.nx (by omega) (by omega) (by omega))).trans Y3p
  rw [numB8 ok.t] at A4
  have hw1 : X.nx < X2.nx := by omega
  have EY1 : Ext h Y1 := F1.ext (XE.trans XE2) (by omega) (by omega)
  have EY2 : Ext h Y2 := F2.ext EY1 (by omega) (by omega)
  have EY3 : Ext h Y3 := F3.ext EY2 (by omega) (by omega)
  have EY4 : Ext h Y4 := F4.ext EY3 (by omega) (by omega)
  have q2' : (lim Tryd.prog σ).call 36 [.ptr X.nx 0, u64 p.kind.toNat, .int .i64 1] Y1 = some (.ptr X.nx 0, some Y2) := q2
  have q3' : (lim Tryd.prog σ).call 36 [.ptr X.nx 0, u64 p.mine, .int .i64 8] Y2 = some (.ptr X.nx 0, some Y3) := q3
  have q4' : (lim Tryd.prog σ).call 36 [.ptr X.nx 0, u64 p.theirs, .int .i64 8] Y3 = some (.ptr X.nx 0, some Y4) := q4
  simp only [go_sem, Nat.reduceLT, Nat.reduceLeDiff, Nat.reduceEqDiff, Nat.reduceAdd, Nat.reduceSub, Nat.reduceMul, reduceCtorEq, Int.reduceBEq, Int.reduceLT, Int.reduceLE, Int.reduceAdd, Int.reduceSub, Int.reduceEq, Int.reduceNeg, Int.reduceToNat, Int.reduceGT, Int.reduceGE, pb', ← hX, ← hmb, ← hX1, ← hX2, X1nx, X1p, X2m, Y1m, Y2m, Y3m, Y4m, Xp, X2p, Y1p, Y2p, Y3p, Y4p, hcv, q1, q2', q3', q4', ov, oc, g0, g1, g2, g3, g4, g5, mr, e0, nm, ck]
  refine cnd_go (Q := Q) (by kernel_rfl) ?_
  simp only [go_sem, Nat.reduceLT, Nat.reduceLeDiff, Nat.reduceEqDiff, Nat.reduceAdd, Nat.reduceSub, Nat.reduceMul, reduceCtorEq, Int.reduceBEq, Int.reduceLT, Int.reduceLE, Int.reduceAdd, Int.reduceSub, Int.reduceEq, Int.reduceNeg, Int.reduceToNat, Int.reduceGT, Int.reduceGE, pb', ← hX, ← hmb, ← hX1, ← hX2, X1nx, X1p, X2m, Y1m, Y2m, Y3m, Y4m, Xp, X2p, Y1p, Y2p, Y3p, Y4p, hcv, q1, q2', q3', q4', ov, oc, g0, g1, g2, g3, g4, g5, mr, e0, nm, ck]
  rw [cond_al (i := 1) (d := [])]
  rotate_left
  · kernel_rfl
  simp only [go_sem, Nat.reduceLT, Nat.reduceLeDiff, Nat.reduceEqDiff, Nat.reduceAdd, Nat.reduceSub, Nat.reduceMul, reduceCtorEq, Int.reduceBEq, Int.reduceLT, Int.reduceLE, Int.reduceAdd, Int.reduceSub, Int.reduceEq, Int.reduceNeg, Int.reduceToNat, Int.reduceGT, Int.reduceGE, pb', ← hX, ← hmb, ← hX1, ← hX2, X1nx, X1p, X2m, Y1m, Y2m, Y3m, Y4m, Xp, X2p, Y1p, Y2p, Y3p, Y4p, hcv, q1, q2', q3', q4', ov, oc, g0, g1, g2, g3, g4, g5, mr, e0, nm, ck]
  cases ea : ackK p.kind
  · have ed : dataK p.kind = false := by unfold dataK; unfold ackK at ea; simp at ea ⊢; exact ea.1
    simp only [go_sem, Nat.reduceLT, Nat.reduceLeDiff, Nat.reduceEqDiff, Nat.reduceAdd, Nat.reduceSub, Nat.reduceMul, reduceCtorEq, Int.reduceBEq, Int.reduceLT, Int.reduceLE, Int.reduceAdd, Int.reduceSub, Int.reduceEq, Int.reduceNeg, Int.reduceToNat, Int.reduceGT, Int.reduceGE, pb', ← hX, ← hmb, ← hX1, ← hX2, X1nx, X1p, X2m, Y1m, Y2m, Y3m, Y4m, Xp, X2p, Y1p, Y2p, Y3p, Y4p, hcv, q1, q2', q3', q4', ov, oc, g0, g1, g2, g3, g4, g5, mr, e0, nm, ck, ea, ed]
    have hL : ((([] ++ [71, 80]) ++ be p.kind.toNat 1) ++ be p.mine 8) ++ be p.theirs 8 = hdr p := by unfold hdr; simp [ea, ed]
    have A9 : WrAt Y4 X.nx l4 false (hdr p) := by rw [← hL]; exact A4
    have hlen : (hdr p).length ≤ 5000 := hdr_len e0
    have hne : hdr p ≠ [] := by unfold hdr; simp
    obtain ⟨v, x, qe, Ee, Be, Le⟩ := end_run hσ' A9 (by omega)
    obtain ⟨id, hv, hid, Lst1⟩ := Le rfl hne
    obtain ⟨Z, hZ⟩ : ∃ Z, Z = x.getD Y4 := ⟨_, rfl⟩
    rw [← hZ] at Ee Be Lst1
    have B1 : BV Z v (hdr p) := lst_bv Lst1
    have EZ : Ext h Z := EY4.trans Ee
    have qs : (lim Tryd.prog σ).call 39 [v] Z = some (.agg (Go.Cl.Sh.bc (digest (hdr p))), none) := sum_run hσ B1 (g.ext EZ) (by omega)
    have qe' : (lim Tryd.prog σ).call 38 [.ptr X.nx 0] Y4 = some (.tup [v, .int .i64 0], x) := qe
    have hd32 : (Go.Cl.Sh.bc (digest (hdr p))).length = 32 := by rw [Go.Cl.Sh.bc_len]; exact digest_len _
    simp only [go_sem, Nat.reduceLT, Nat.reduceLeDiff, Nat.reduceEqDiff, Nat.reduceAdd, Nat.reduceSub, Nat.reduceMul, reduceCtorEq, Int.reduceBEq, Int.reduceLT, Int.reduceLE, Int.reduceAdd, Int.reduceSub, Int.reduceEq, Int.reduceNeg, Int.reduceToNat, Int.reduceGT, Int.reduceGE, qe', ← hZ, qs, hd32]
    refine store_step (Q := Q) (L := Go.Cl.Sh.bc (digest (hdr p))) ?_ (Go.Cl.Sh.bc_one _) fun b9 hn9 hr9 hl9 hg9 => ?_
    · rw [hd32]; rfl
    obtain ⟨Z1, hZ1⟩ : ∃ Z1, Z1 = (Z.alloc (.cells (newBlk (List.replicate 32 (CV.int .u8 0))))).put Z.nx (.cells b9) := ⟨_, rfl⟩
    have hZ1' := hZ1
    simp only [List.replicate] at hZ1'
    have EZ1 : Ext Z Z1 := by rw [hZ1]; exact ((Ext.refl Z).alloc' _).put _ (Nat.le_refl _)
    have Z1nx : Z1.nx = Z.nx + 1 := by rw [hZ1]; rfl
    have Z1b : Z1.blk Z.nx = some b9 := by rw [hZ1]; exact put_blk_same _ _ _
    obtain ⟨d0, d1, d2, d3, dr, hd⟩ := four_of (digest (hdr p)) (by rw [digest_len]; omega)
    have hq0 := hg9 0
    have hq1 := hg9 1
    have hq2 := hg9 2
    have hq3 := hg9 3
    rw [hd] at hq0 hq1 hq2 hq3
    simp only [Go.Cl.Sh.bc, List.map_cons, nth] at hq0 hq1 hq2 hq3
    simp only [go_sem, Nat.reduceLT, Nat.reduceLeDiff, Nat.reduceEqDiff, Nat.reduceAdd, Nat.reduceSub, Nat.reduceMul, reduceCtorEq, Int.reduceBEq, Int.reduceLT, Int.reduceLE, Int.reduceAdd, Int.reduceSub, Int.reduceEq, Int.reduceNeg, Int.reduceToNat, Int.reduceGT, Int.reduceGE, ← hZ, ← hZ1', sl_d, Z1b, hq0, hq1, hq2, hq3]
    refine app_step (Q := Q) (by_ := 1) (m := 4) (Lst1.ext EZ1) (by decide) rfl rfl rfl (by decide) (by omega) (by omega) fun W9 L9 hnx hgn hold hlow hlow2 => ?_
    simp only [go_sem, Nat.reduceLT, Nat.reduceLeDiff, Nat.reduceEqDiff, Nat.reduceAdd, Nat.reduceSub, Nat.reduceMul, reduceCtorEq, Int.reduceBEq, Int.reduceLT, Int.reduceLE, Int.reduceAdd, Int.reduceSub, Int.reduceEq, Int.reduceNeg, Int.reduceToNat, Int.reduceGT, Int.reduceGE, ← hZ]
    rw [hQ]
    have znx := EZ.nx
    refine .inr ⟨e0, _, _, congrArg some (fin_new _ _ _ ?_), ?_, ?_⟩
    · show (_ && _) = false
      rw [okB_sl, blt_eq', decide_eq_false (by omega)]; rfl
    · exact (⟨by omega, hgn.trans (EZ1.gn.trans EZ.gn), fun i hi => (hold i (by omega) fun _ => by omega).trans ((EZ1.old i (by omega)).trans (EZ.old i hi))⟩ : Ext h W9).up' _
    · have e4 : (digest (hdr p)).take 4 = [d0, d1, d2, d3] := by rw [hd]; rfl
      have L10 : Lst W9 1 (.sl Z1.nx 0 ((hdr p).length + 4) (.opn 1)) Z1.nx ((hdr p).length + 4) (bc (pack p)) := by
        have : bc (pack p) = bc (hdr p) ++ [u8 d0, u8 d1, u8 d2, u8 d3] := by unfold pack; rw [bc_app, e4]; rfl
        rw [this]; exact L9
      exact (lst_bsl L10).ext (Ext.up _ _)
  obtain ⟨Y5, l5, q5, A5, F5, L5, w5⟩ := wok_some (number_run hσ' A4 p.ack ok.a 8 (by simp [wput, be_len])) (by rw [numB8 ok.a]; rfl)
  have y5n := F5.nx
  have Y5p : Y5.blk h.nx = some pb := (blk_eq (F5.old h.nx (by omega) (by omega) (by omega))).trans Y4p
  rw [numB8 ok.a] at A5
  have EY5 : Ext h Y5 := F5.ext EY4 (by omega) (by omega)
  have q5' : (lim Tryd.prog σ).call 36 [.ptr X.nx 0, u64 p.ack, .int .i64 8] Y4 = some (.ptr X.nx 0, some Y5) := q5
  cases ed : dataK p.kind
  · simp only [go_sem, Nat.reduceLT, Nat.reduceLeDiff, Nat.reduceEqDiff, Nat.reduceAdd, Nat.reduceSub, Nat.reduceMul, reduceCtorEq, Int.reduceBEq, Int.reduceLT, Int.reduceLE, Int.reduceAdd, Int.reduceSub, Int.reduceEq, Int.reduceNeg, Int.reduceToNat, Int.reduceGT, Int.reduceGE, pb', ← hX, ← hmb, ← hX1, ← hX2, X1nx, X1p, X2m, Y1m, Y2m, Y3m, Y4m, Xp, X2p, Y1p, Y2p, Y3p, Y4p, hcv, q1, q2', q3', q4', ov, oc, g0, g1, g2, g3, g4, g5, mr, e0, nm, ck, ea, ed, q5', Y5p]
    have hL : (((([] ++ [71, 80]) ++ be p.kind.toNat 1) ++ be p.mine 8) ++ be p.theirs 8) ++ be p.ack 8 = hdr p := by unfold hdr; simp [ea, ed]
    have A9 : WrAt Y5 X.nx l5 false (hdr p) := by rw [← hL]; exact A5
    have hlen : (hdr p).length ≤ 5000 := hdr_len e0
    have hne : hdr p ≠ [] := by unfold hdr; simp
    obtain ⟨v, x, qe, Ee, Be, Le⟩ := end_run hσ' A9 (by omega)
    obtain ⟨id, hv, hid, Lst1⟩ := Le rfl hne
    obtain ⟨Z, hZ⟩ : ∃ Z, Z = x.getD Y5 := ⟨_, rfl⟩
    rw [← hZ] at Ee Be Lst1
    have B1 : BV Z v (hdr p) := lst_bv Lst1
    have EZ : Ext h Z := EY5.trans Ee
    have qs : (lim Tryd.prog σ).call 39 [v] Z = some (.agg (Go.Cl.Sh.bc (digest (hdr p))), none) := sum_run hσ B1 (g.ext EZ) (by omega)
    have qe' : (lim Tryd.prog σ).call 38 [.ptr X.nx 0] Y5 = some (.tup [v, .int .i64 0], x) := qe
    have hd32 : (Go.Cl.Sh.bc (digest (hdr p))).length = 32 := by rw [Go.Cl.Sh.bc_len]; exact digest_len _
    simp only [go_sem, Nat.reduceLT, Nat.reduceLeDiff, Nat.reduceEqDiff, Nat.reduceAdd, Nat.reduceSub, Nat.reduceMul, reduceCtorEq, Int.reduceBEq, Int.reduceLT, Int.reduceLE, Int.reduceAdd, Int.reduceSub, Int.reduceEq, Int.reduceNeg, Int.reduceToNat, Int.reduceGT, Int.reduceGE, qe', ← hZ, qs, hd32]
    refine store_step (Q := Q) (L := Go.Cl.Sh.bc (digest (hdr p))) ?_ (Go.Cl.Sh.bc_one _) fun b9 hn9 hr9 hl9 hg9 => ?_
    · rw [hd32]; rfl
    obtain ⟨Z1, hZ1⟩ : ∃ Z1, Z1 = (Z.alloc (.cells (newBlk (List.replicate 32 (CV.int .u8 0))))).put Z.nx (.cells b9) := ⟨_, rfl⟩
    have hZ1' := hZ1
    simp only [List.replicate] at hZ1'
    have EZ1 : Ext Z Z1 := by rw [hZ1]; exact ((Ext.refl Z).alloc' _).put _ (Nat.le_refl _)
    have Z1nx : Z1.nx = Z.nx + 1 := by rw [hZ1]; rfl
    have Z1b : Z1.blk Z.nx = some b9 := by rw [hZ1]; exact put_blk_same _ _ _
    obtain ⟨d0, d1, d2, d3, dr, hd⟩ := four_of (digest (hdr p)) (by rw [digest_len]; omega)
    have hq0 := hg9 0
    have hq1 := hg9 1
    have hq2 := hg9 2
    have hq3 := hg9 3
    rw [hd] at hq0 hq1 hq2 hq3
    simp only [Go.Cl.Sh.bc, List.map_cons, nth] at hq0 hq1 hq2 hq3
    simp only [go_sem, Nat.reduceLT, Nat.reduceLeDiff, Nat.reduceEqDiff, Nat.reduceAdd, Nat.reduceSub, Nat.reduceMul, reduceCtorEq, Int.reduceBEq, Int.reduceLT, Int.reduceLE, Int.reduceAdd, Int.reduceSub, Int.reduceEq, Int.reduceNeg, Int.reduceToNat, Int.reduceGT, Int.reduceGE, ← hZ, ← hZ1', sl_d, Z1b, hq0, hq1, hq2, hq3]
    refine app_step (Q := Q) (by_ := 1) (m := 4) (Lst1.ext EZ1) (by decide) rfl rfl rfl (by decide) (by omega) (by omega) fun W9 L9 hnx hgn hold hlow hlow2 => ?_
    simp only [go_sem, Nat.reduceLT, Nat.reduceLeDiff, Nat.reduceEqDiff, Nat.reduceAdd, Nat.reduceSub, Nat.reduceMul, reduceCtorEq, Int.reduceBEq, Int.reduceLT, Int.reduceLE, Int.reduceAdd, Int.reduceSub, Int.reduceEq, Int.reduceNeg, Int.reduceToNat, Int.reduceGT, Int.reduceGE, ← hZ]
    rw [hQ]
    have znx := EZ.nx
    refine .inr ⟨e0, _, _, congrArg some (fin_new _ _ _ ?_), ?_, ?_⟩
    · show (_ && _) = false
      rw [okB_sl, blt_eq', decide_eq_false (by omega)]; rfl
    · exact (⟨by omega, hgn.trans (EZ1.gn.trans EZ.gn), fun i hi => (hold i (by omega) fun _ => by omega).trans ((EZ1.old i (by omega)).trans (EZ.old i hi))⟩ : Ext h W9).up' _
    · have e4 : (digest (hdr p)).take 4 = [d0, d1, d2, d3] := by rw [hd]; rfl
      have L10 : Lst W9 1 (.sl Z1.nx 0 ((hdr p).length + 4) (.opn 1)) Z1.nx ((hdr p).length + 4) (bc (pack p)) := by
        have : bc (pack p) = bc (hdr p) ++ [u8 d0, u8 d1, u8 d2, u8 d3] := by unfold pack; rw [bc_app, e4]; rfl
        rw [this]; exact L9
      exact (lst_bsl L10).ext (Ext.up _ _)
  obtain ⟨Y6, l6, q6, A6, F6, L6, w6⟩ := wok_some (number_run hσ' A5 p.seq ok.s 8 (by simp [wput, be_len])) (by rw [numB8 ok.s]; rfl)
  have y6n := F6.nx
  have Y6p : Y6.blk h.nx = some pb := (blk_eq (F6.old h.nx (by omega) (by omega) (by omega))).trans Y5p
  rw [numB8 ok.s] at A6
  have EY6 : Ext h Y6 := F6.ext EY5 (by omega) (by omega)
  have q6' : (lim Tryd.prog σ).call 36 [.ptr X.nx 0, u64 p.seq, .int .i64 8] Y5 = some (.ptr X.nx 0, some Y6) := q6
  have hx4 : p.xs.length ≤ 4000 := by
    have e := e0
    unfold mayV at e
    rw [ed] at e
    split at e
    · cases e
    · split at e
      · cases e
      · simp at e; exact e.2.2
  have hbv : beqC p.v p.v = true := bsl_beq B
  obtain ⟨Y7, l7, q7, A7, F7, L7, w7⟩ := wok_some (blob_run hσ' A6 B EY6 (by omega) (by omega) (by simp [wput, be_len]; omega) (by omega)) rfl
  have y7n := F7.nx
  have Y7p : Y7.blk h.nx = some pb := (blk_eq (F7.old h.nx (by omega) (by omega) (by omega))).trans Y6p
  have EY7 : Ext h Y7 := F7.ext EY6 (by omega) (by omega)
  simp only [go_sem, Nat.reduceLT, Nat.reduceLeDiff, Nat.reduceEqDiff, Nat.reduceAdd, Nat.reduceSub, Nat.reduceMul, reduceCtorEq, Int.reduceBEq, Int.reduceLT, Int.reduceLE, Int.reduceAdd, Int.reduceSub, Int.reduceEq, Int.reduceNeg, Int.reduceToNat, Int.reduceGT, Int.reduceGE, pb', ← hX, ← hmb, ← hX1, ← hX2, X1nx, X1p, X2m, Y1m, Y2m, Y3m, Y4m, Xp, X2p, Y1p, Y2p, Y3p, Y4p, hcv, q1, q2', q3', q4', ov, oc, g0, g1, g2, g3, g4, g5, mr, e0, nm, ck, ea, ed, q5', q6', q7, Y5p, Y6p, Y7p, hbv]
  refine cnd_go (Q := Q) (by kernel_rfl) ?_
  simp only [go_sem, Nat.reduceLT, Nat.reduceLeDiff, Nat.reduceEqDiff, Nat.reduceAdd, Nat.reduceSub, Nat.reduceMul, reduceCtorEq, Int.reduceBEq, Int.reduceLT, Int.reduceLE, Int.reduceAdd, Int.reduceSub, Int.reduceEq, Int.reduceNeg, Int.reduceToNat, Int.reduceGT, Int.reduceGE, pb', ← hX, ← hmb, ← hX1, ← hX2, X1nx, X1p, X2m, Y1m, Y2m, Y3m, Y4m, Xp, X2p, Y1p, Y2p, Y3p, Y4p, hcv, q1, q2', q3', q4', ov, oc, g0, g1, g2, g3, g4, g5, mr, e0, nm, ck, ea, ed, q5', q6', q7, Y5p, Y6p, Y7p, hbv]
  refine cnd_go (Q := Q) (by kernel_rfl) ?_
  simp only [go_sem, Nat.reduceLT, Nat.reduceLeDiff, Nat.reduceEqDiff, Nat.reduceAdd, Nat.reduceSub, Nat.reduceMul, reduceCtorEq, Int.reduceBEq, Int.reduceLT, Int.reduceLE, Int.reduceAdd, Int.reduceSub, Int.reduceEq, Int.reduceNeg, Int.reduceToNat, Int.reduceGT, Int.reduceGE, pb', ← hX, ← hmb, ← hX1, ← hX2, X1nx, X1p, X2m, Y1m, Y2m, Y3m, Y4m, Xp, X2p, Y1p, Y2p, Y3p, Y4p, hcv, q1, q2', q3', q4', ov, oc, g0, g1, g2, g3, g4, g5, mr, e0, nm, ck, ea, ed, q5', q6', q7, Y5p, Y6p, Y7p, hbv]
  have hL : ((((([] ++ [71, 80]) ++ be p.kind.toNat 1) ++ be p.mine 8) ++ be p.theirs 8) ++ be p.ack 8) ++ be p.seq 8 ++ (be p.xs.length 2 ++ p.xs) = hdr p := by unfold hdr; simp [ea, ed]
  have A9 : WrAt Y7 X.nx l7 false (hdr p) := by rw [← hL]; exact A7
  have hlen : (hdr p).length ≤ 5000 := hdr_len e0
  have hne : hdr p ≠ [] := by unfold hdr; simp
  obtain ⟨v, x, qe, Ee, Be, Le⟩ := end_run hσ' A9 (by omega)
  obtain ⟨id, hv, hid, Lst1⟩ := Le rfl hne
  obtain ⟨Z, hZ⟩ : ∃ Z, Z = x.getD Y7 := ⟨_, rfl⟩
  rw [← hZ] at Ee Be Lst1
  have B1 : BV Z v (hdr p) := lst_bv Lst1
  have EZ : Ext h Z := EY7.trans Ee
  have qs : (lim Tryd.prog σ).call 39 [v] Z = some (.agg (Go.Cl.Sh.bc (digest (hdr p))), none) := sum_run hσ B1 (g.ext EZ) (by omega)
  have qe' : (lim Tryd.prog σ).call 38 [.ptr X.nx 0] Y7 = some (.tup [v, .int .i64 0], x) := qe
  have hd32 : (Go.Cl.Sh.bc (digest (hdr p))).length = 32 := by rw [Go.Cl.Sh.bc_len]; exact digest_len _
  simp only [go_sem, Nat.reduceLT, Nat.reduceLeDiff, Nat.reduceEqDiff, Nat.reduceAdd, Nat.reduceSub, Nat.reduceMul, reduceCtorEq, Int.reduceBEq, Int.reduceLT, Int.reduceLE, Int.reduceAdd, Int.reduceSub, Int.reduceEq, Int.reduceNeg, Int.reduceToNat, Int.reduceGT, Int.reduceGE, qe', ← hZ, qs, hd32]
  refine store_step (Q := Q) (L := Go.Cl.Sh.bc (digest (hdr p))) ?_ (Go.Cl.Sh.bc_one _) fun b9 hn9 hr9 hl9 hg9 => ?_
  · rw [hd32]; rfl
  obtain ⟨Z1, hZ1⟩ : ∃ Z1, Z1 = (Z.alloc (.cells (newBlk (List.replicate 32 (CV.int .u8 0))))).put Z.nx (.cells b9) := ⟨_, rfl⟩
  have hZ1' := hZ1
  simp only [List.replicate] at hZ1'
  have EZ1 : Ext Z Z1 := by rw [hZ1]; exact ((Ext.refl Z).alloc' _).put _ (Nat.le_refl _)
  have Z1nx : Z1.nx = Z.nx + 1 := by rw [hZ1]; rfl
  have Z1b : Z1.blk Z.nx = some b9 := by rw [hZ1]; exact put_blk_same _ _ _
  obtain ⟨d0, d1, d2, d3, dr, hd⟩ := four_of (digest (hdr p)) (by rw [digest_len]; omega)
  have hq0 := hg9 0
  have hq1 := hg9 1
  have hq2 := hg9 2
  have hq3 := hg9 3
  rw [hd] at hq0 hq1 hq2 hq3
  simp only [Go.Cl.Sh.bc, List.map_cons, nth] at hq0 hq1 hq2 hq3
  simp only [go_sem, Nat.reduceLT, Nat.reduceLeDiff, Nat.reduceEqDiff, Nat.reduceAdd, Nat.reduceSub, Nat.reduceMul, reduceCtorEq, Int.reduceBEq, Int.reduceLT, Int.reduceLE, Int.reduceAdd, Int.reduceSub, Int.reduceEq, Int.reduceNeg, Int.reduceToNat, Int.reduceGT, Int.reduceGE, ← hZ, ← hZ1', sl_d, Z1b, hq0, hq1, hq2, hq3]
  refine app_step (Q := Q) (by_ := 1) (m := 4) (Lst1.ext EZ1) (by decide) rfl rfl rfl (by decide) (by omega) (by omega) fun W9 L9 hnx hgn hold hlow hlow2 => ?_
  simp only [go_sem, Nat.reduceLT, Nat.reduceLeDiff, Nat.reduceEqDiff, Nat.reduceAdd, Nat.reduceSub, Nat.reduceMul, reduceCtorEq, Int.reduceBEq, Int.reduceLT, Int.reduceLE, Int.reduceAdd, Int.reduceSub, Int.reduceEq, Int.reduceNeg, Int.reduceToNat, Int.reduceGT, Int.reduceGE, ← hZ]
  rw [hQ]
  have znx := EZ.nx
  refine .inr ⟨e0, _, _, congrArg some (fin_new _ _ _ ?_), ?_, ?_⟩
  · show (_ && _) = false
    rw [okB_sl, blt_eq', decide_eq_false (by omega)]; rfl
  · exact (⟨by omega, hgn.trans (EZ1.gn.trans EZ.gn), fun i hi => (hold i (by omega) fun _ => by omega).trans ((EZ1.old i (by omega)).trans (EZ.old i hi))⟩ : Ext h W9).up' _
  · have e4 : (digest (hdr p)).take 4 = [d0, d1, d2, d3] := by rw [hd]; rfl
    have L10 : Lst W9 1 (.sl Z1.nx 0 ((hdr p).length + 4) (.opn 1)) Z1.nx ((hdr p).length + 4) (bc (pack p)) := by
      have : bc (pack p) = bc (hdr p) ++ [u8 d0, u8 d1, u8 d2, u8 d3] := by unfold pack; rw [bc_app, e4]; rfl
      rw [this]; exact L9
    exact (lst_bsl L10).ext (Ext.up _ _)
end Go.Cl.Sh.W

namespace Go.Cl.Sh.W
variable {σ : Sums}
set_option maxRecDepth 1000000

theorem bsl_at {h : H} {v : CV} {cs : List CV} (B : BSl h v cs) {i : Nat} {c : CV} (hi : nth cs i = some c) :
    ∃ id off b, (∀ kd, indexAddrT Tryd.prog 24 v (.int kd (Int.ofNat i)) = some (.ptr id (off + i))) ∧ h.blk id = some b ∧ b.get (off + i) = some c := by
  have hl : i < cs.length := by rw [nth_eq] at hi; exact (List.getElem?_eq_some_iff.1 hi).1
  rcases B with ⟨rfl, _⟩ | ⟨rfl, _⟩ | ⟨id, off, c', b, rfl, h2, h3, h4⟩
  · simp at hl
  · simp at hl
  · refine ⟨id, off, b, fun kd => by rw [ia_24, blt_eq', decide_eq_true hl, cond_true, Nat.mul_one], h3, ?_⟩
    have := (loadN_spec h4).2 i hl
    rw [this, ← nth_eq]; exact hi
theorem num_run (hσ : ∀ f a h, σ f a h = none) (h : H) (n : Int) (h1 : 0 ≤ n) (h2 : n < 1000) : Ret (.int .i64 n) ((lim Tryd.prog σ).call 8 [.int .i64 n] h) := by
  rw [call_eq (hσ _ _ _) fn_8 rfl rfl, Tryd.ntmps8, Tryd.results8]
  simp only [go_sem, Nat.reduceLT, Nat.reduceLeDiff, Nat.reduceEqDiff, Nat.reduceAdd, Nat.reduceSub, Nat.reduceMul, reduceCtorEq, Int.reduceBEq, Int.reduceLT, Int.reduceLE, Int.reduceAdd, Int.reduceSub, Int.reduceEq, Int.reduceNeg, Int.reduceToNat, Int.reduceGT, Int.reduceGE]
  exact congrArg some (fin_q _ _ _ rfl rfl)
theorem pack_len (p : Pk) : (pack p).length = 23 + (if ackK p.kind then 8 else 0) + (if dataK p.kind then 10 + p.xs.length else 0) := by
  unfold pack hdr
  have : ((digest (hdr p)).take 4).length = 4 := by rw [List.length_take, digest_len]; rfl
  unfold hdr at this
  simp only [List.length_append, be_len, this]
  cases ackK p.kind <;> cases dataK p.kind <;> simp [be_len] <;> omega
theorem known_run (hσ : ∀ f a h, σ f a h = none) {h : H} (g : HG h) : ∃ x, ((lim Tryd.prog σ).call 9 [] h) = some (.bool true, x) ∧ Ext h (x.getD h) := by
  obtain ⟨Q, hQ⟩ : ∃ Q : Option (CV × Option H) → Prop, Q = fun r => ∃ x, r = some (.bool true, x) ∧ Ext h (x.getD h) := ⟨_, rfl⟩
  have goal : Q ((lim Tryd.prog σ).call 9 [] h) := ?_
  · rw [hQ] at goal; exact goal
  rw [call_eq (hσ _ _ _) fn_9 rfl rfl, Tryd.ntmps9, Tryd.results9]
  have bp := bytes_pk hσ (g.ext (Ext.lo h)) ⟨1, 1, 0, 0, 0, .nils, []⟩ ⟨by decide, by decide, by decide, by decide⟩ (.inl ⟨rfl, rfl⟩)
  rcases bp with ⟨e, _⟩ | ⟨_, v, x, e1, E1, B1⟩
  · exact absurd e (by decide)
  have e1' : (lim Tryd.prog σ).call 7 [.agg [.int .i64 1, .int .u64 1, .int .u64 0, .int .u64 0, .int .u64 0, .nils]] h.lo = some (.tup [v, .int .i64 0], x) := e1
  have nr := fun Y => num_run hσ Y 0 (by decide) (by decide)
  have nr' : ∀ Y, (lim Tryd.prog σ).call 8 [.int .i64 0] Y = some (.int .i64 0, none) := nr
  have bl := B1.len
  rw [bc_len, pack_len] at bl
  have hn : (23 + (if ackK (1 : Int) then 8 else 0) + (if dataK (1 : Int) then 10 + ([] : List Nat).length else 0)) = 23 := by decide
  have bl' : ∀ h', builtinT Tryd.prog h' .len [24] [v] = some (.val (.int .i64 23)) := fun h' => by
    rw [bl h', hn]; rfl
  simp only [go_sem, Nat.reduceLT, Nat.reduceLeDiff, Nat.reduceEqDiff, Nat.reduceAdd, Nat.reduceSub, Nat.reduceMul, reduceCtorEq, Int.reduceBEq, Int.reduceLT, Int.reduceLE, Int.reduceAdd, Int.reduceSub, Int.reduceEq, Int.reduceNeg, Int.reduceToNat, Int.reduceGT, Int.reduceGE, e1', nr', bl']
  rw [hQ]
  obtain ⟨y, hy, Ey⟩ := fin_ext (s := x.getD h.lo) ((Ext.lo h).trans E1) (.bool true)
  exact ⟨y, congrArg some hy, Ey⟩

theorem be_at {n k j : Nat} (h : j < k) : (be n k)[j]? = some (dig n k j) := by
  unfold be; rw [List.getElem?_map, List.getElem?_range h]; rfl
theorem pack_at (p : Pk) : ∃ r, pack p = 71 :: 80 :: dig p.kind.toNat 1 0 :: (be p.mine 8 ++ (be p.theirs 8 ++ r)) := by
  unfold pack hdr
  refine ⟨(if ackK p.kind then be p.ack 8 else []) ++ (if dataK p.kind then be p.seq 8 ++ (be p.xs.length 2 ++ p.xs) else []) ++ (digest (hdr p)).take 4, ?_⟩
  have : be p.kind.toNat 1 = [dig p.kind.toNat 1 0] := rfl
  unfold hdr
  simp [this, List.append_assoc]
theorem pack_mine (p : Pk) {i : Nat} (h : i < 8) : nth (bc (pack p)) (3 + i) = some (.int .u8 (Int.ofNat (dig p.mine 8 i))) := by
  obtain ⟨r, e⟩ := pack_at p
  rw [nth_eq, e]
  unfold bc
  rw [List.getElem?_map, show 3 + i = i + 1 + 1 + 1 by omega]
  simp only [List.getElem?_cons_succ]
  rw [List.getElem?_append_left (by rw [be_len]; exact h), be_at h]; rfl
theorem pack_theirs (p : Pk) {i : Nat} (h : i < 8) : nth (bc (pack p)) (11 + i) = some (.int .u8 (Int.ofNat (dig p.theirs 8 i))) := by
  obtain ⟨r, e⟩ := pack_at p
  rw [nth_eq, e]
  unfold bc
  rw [List.getElem?_map, show 11 + i = i + 8 + 1 + 1 + 1 by omega]
  simp only [List.getElem?_cons_succ]
  rw [List.getElem?_append_right (by rw [be_len]; omega), be_len, show i + 8 - 8 = i by omega, List.getElem?_append_left (by rw [be_len]; exact h), be_at h]; rfl
theorem dig_step (m i : Nat) (hm : m < 2 ^ 64) (h : i < 8) : (256 * (m / 2 ^ (8 * (8 - i))) % 18446744073709551616 + dig m 8 i) % 18446744073709551616 = m / 2 ^ (8 * (8 - (i + 1))) := by
  unfold dig
  have e1 : 8 * (8 - i) = 8 * (8 - 1 - i) + 8 := by omega
  have e2 : 8 * (8 - (i + 1)) = 8 * (8 - 1 - i) := by omega
  rw [e1, e2, Nat.pow_add, ← Nat.div_div_eq_div_mul]
  generalize hq : m / 2 ^ (8 * (8 - 1 - i)) = q
  have hle : q ≤ m := by rw [← hq]; exact Nat.div_le_self _ _
  have : (2 : Nat) ^ 8 = 256 := rfl
  rw [this]
  omega
theorem sizes_run (hσ : ∀ f a h, σ f a h = none) {h : H} (g : HG h) (p : Pk) (ok : PkOk p) (B : BSl h p.v (bc p.xs)) : Tru ((lim Tryd.prog σ).call 3 [.agg p.cs] h) := by
  obtain ⟨Q, hQ⟩ : ∃ Q : Option (CV × Option H) → Prop, Q = Tru := ⟨_, rfl⟩
  rw [← hQ]
  rw [call_eq (hσ _ _ _) fn_3 rfl rfl, Tryd.ntmps3, Tryd.results3]
  obtain ⟨pb, hpb⟩ : ∃ pb, pb = newBlk p.cs := ⟨_, rfl⟩
  have pb' : newBlk [.int .i64 p.kind, u64 p.mine, u64 p.theirs, u64 p.ack, u64 p.seq, p.v] = pb := hpb.symm
  obtain ⟨X, hX⟩ : ∃ X, X = h.lo.alloc (.cells pb) := ⟨_, rfl⟩
  have Xnx : X.nx = h.nx + 1 := by rw [hX]; rfl
  have XE : Ext h X := by rw [hX]; exact (Ext.lo h).alloc' _
  have Xp : X.blk h.nx = some pb := by rw [hX]; simp only [go_sem, Nat.reduceLT, Nat.reduceLeDiff, Nat.reduceEqDiff, Nat.reduceAdd, Nat.reduceSub, Nat.reduceMul, reduceCtorEq, Int.reduceBEq, Int.reduceLT, Int.reduceLE, Int.reduceAdd, Int.reduceSub, Int.reduceEq, Int.reduceNeg, Int.reduceToNat, Int.reduceGT, Int.reduceGE]
  have ov := B.one.1
  have oc := B.one.2
  have g0 : pb.get 0 = some (.int .i64 p.kind) := by rw [hpb]; simp only [go_sem, Nat.reduceLT, Nat.reduceLeDiff, Nat.reduceEqDiff, Nat.reduceAdd, Nat.reduceSub, Nat.reduceMul, reduceCtorEq, Int.reduceBEq, Int.reduceLT, Int.reduceLE, Int.reduceAdd, Int.reduceSub, Int.reduceEq, Int.reduceNeg, Int.reduceToNat, Int.reduceGT, Int.reduceGE, Pk.cs]
  have g1 : pb.get 1 = some (u64 p.mine) := by rw [hpb]; simp only [go_sem, Nat.reduceLT, Nat.reduceLeDiff, Nat.reduceEqDiff, Nat.reduceAdd, Nat.reduceSub, Nat.reduceMul, reduceCtorEq, Int.reduceBEq, Int.reduceLT, Int.reduceLE, Int.reduceAdd, Int.reduceSub, Int.reduceEq, Int.reduceNeg, Int.reduceToNat, Int.reduceGT, Int.reduceGE, Pk.cs]
  have g2 : pb.get 2 = some (u64 p.theirs) := by rw [hpb]; simp only [go_sem, Nat.reduceLT, Nat.reduceLeDiff, Nat.reduceEqDiff, Nat.reduceAdd, Nat.reduceSub, Nat.reduceMul, reduceCtorEq, Int.reduceBEq, Int.reduceLT, Int.reduceLE, Int.reduceAdd, Int.reduceSub, Int.reduceEq, Int.reduceNeg, Int.reduceToNat, Int.reduceGT, Int.reduceGE, Pk.cs]
  have g3 : pb.get 3 = some (u64 p.ack) := by rw [hpb]; simp only [go_sem, Nat.reduceLT, Nat.reduceLeDiff, Nat.reduceEqDiff, Nat.reduceAdd, Nat.reduceSub, Nat.reduceMul, reduceCtorEq, Int.reduceBEq, Int.reduceLT, Int.reduceLE, Int.reduceAdd, Int.reduceSub, Int.reduceEq, Int.reduceNeg, Int.reduceToNat, Int.reduceGT, Int.reduceGE, Pk.cs]
  have g4 : pb.get 4 = some (u64 p.seq) := by rw [hpb]; simp only [go_sem, Nat.reduceLT, Nat.reduceLeDiff, Nat.reduceEqDiff, Nat.reduceAdd, Nat.reduceSub, Nat.reduceMul, reduceCtorEq, Int.reduceBEq, Int.reduceLT, Int.reduceLE, Int.reduceAdd, Int.reduceSub, Int.reduceEq, Int.reduceNeg, Int.reduceToNat, Int.reduceGT, Int.reduceGE, Pk.cs]
  have g5 : pb.get 5 = some p.v := by rw [hpb]; simp only [go_sem, Nat.reduceLT, Nat.reduceLeDiff, Nat.reduceEqDiff, Nat.reduceAdd, Nat.reduceSub, Nat.reduceMul, reduceCtorEq, Int.reduceBEq, Int.reduceLT, Int.reduceLE, Int.reduceAdd, Int.reduceSub, Int.reduceEq, Int.reduceNeg, Int.reduceToNat, Int.reduceGT, Int.reduceGE, Pk.cs]
  have nr0 : ∀ Y, (lim Tryd.prog σ).call 8 [.int .i64 0] Y = some (.int .i64 0, none) := fun Y => num_run hσ Y 0 (by decide) (by decide)
  have nr2 : ∀ Y, (lim Tryd.prog σ).call 8 [.int .i64 2] Y = some (.int .i64 2, none) := fun Y => num_run hσ Y 2 (by decide) (by decide)
  unfold Pk.cs
  rcases bytes_pk hσ (g.ext XE) p ok (B.ext XE) with ⟨_, e1⟩ | ⟨hm, v, x, e1, E1, B1⟩
  · have e1' : (lim Tryd.prog σ).call 7 [.agg [.int .i64 p.kind, u64 p.mine, u64 p.theirs, u64 p.ack, u64 p.seq, p.v]] X = some (.tup [.nils, .int .i64 2], none) := e1
    obtain ⟨y, hk, _⟩ := known_run hσ (g.ext XE)
    simp only [go_sem, Nat.reduceLT, Nat.reduceLeDiff, Nat.reduceEqDiff, Nat.reduceAdd, Nat.reduceSub, Nat.reduceMul, reduceCtorEq, Int.reduceBEq, Int.reduceLT, Int.reduceLE, Int.reduceAdd, Int.reduceSub, Int.reduceEq, Int.reduceNeg, Int.reduceToNat, Int.reduceGT, Int.reduceGE, pb', ← hX, Xp, ov, oc, g0, g1, g2, g3, g4, g5, e1', nr2, hk]
    rw [hQ]; exact tru_fin _ _
  have e1' : (lim Tryd.prog σ).call 7 [.agg [.int .i64 p.kind, u64 p.mine, u64 p.theirs, u64 p.ack, u64 p.seq, p.v]] X = some (.tup [v, .int .i64 0], x) := e1
  obtain ⟨Y, hY⟩ : ∃ Y, Y = x.getD X := ⟨_, rfl⟩
  rw [← hY] at E1 B1
  have Yp : Y.blk h.nx = some pb := (E1.blk (by omega)).trans Xp
  have bl := B1.len
  rw [bc_len] at bl
  have pl := B.len
  rw [bc_len] at pl
  have w41 : p.kind = 2 → IntKind.wrap .i64 (41 + Int.ofNat p.xs.length) = Int.ofNat (41 + p.xs.length) := fun k2 => by
    have hx : p.xs.length ≤ 4000 := by
      have e := hm
      unfold mayV at e
      rw [show dataK p.kind = true from by unfold dataK; simp [k2]] at e
      split at e
      · cases e
      · split at e
        · cases e
        · simp at e; exact e.2.2
    rw [wrap_i64 (by simp; omega) (by simp; omega)]; simp
  obtain ⟨i0, o0, b0, a0, c0, d0⟩ := bsl_at B1 (i := 0) (c := .int .u8 71) (by obtain ⟨r, e⟩ := pack_at p; rw [e]; rfl)
  obtain ⟨i1, o1, b1, a1, c1, d1⟩ := bsl_at B1 (i := 1) (c := .int .u8 80) (by obtain ⟨r, e⟩ := pack_at p; rw [e]; rfl)
  obtain ⟨i2, o2, b2, a2, c2, d2⟩ := bsl_at B1 (i := 2) (c := .int .u8 (Int.ofNat (dig p.kind.toNat 1 0))) (by obtain ⟨r, e⟩ := pack_at p; rw [e]; rfl)
  have a0 : ∀ kd, indexAddrT Tryd.prog 24 v (.int kd 0) = some (.ptr i0 (o0 + 0)) := a0
  have a1 : ∀ kd, indexAddrT Tryd.prog 24 v (.int kd 1) = some (.ptr i1 (o1 + 1)) := a1
  have a2 : ∀ kd, indexAddrT Tryd.prog 24 v (.int kd 2) = some (.ptr i2 (o2 + 2)) := a2
  rw [Nat.add_zero] at d0
  have hk : isK p.kind = true := by
    cases e1 : isK p.kind with
    | true => rfl
    | false => unfold mayV at hm; simp [e1] at hm
  have hk4 : p.kind = 1 ∨ p.kind = 2 ∨ p.kind = 3 ∨ p.kind = 4 := by unfold isK at hk; simpa using hk
  have ck2 : ∀ W, convT Tryd.prog W 5 3 (.int .u8 (Int.ofNat (dig p.kind.toNat 1 0))) = some (.val (.int .i64 p.kind)) := fun W => by
    have e := cv_5_3 W .u8 (Int.ofNat (dig p.kind.toNat 1 0))
    have e2 : Int.ofNat (dig p.kind.toNat 1 0) = p.kind := by rcases hk4 with e | e | e | e <;> rw [e] <;> rfl
    rw [e2] at e ⊢
    rw [wrap_i64 (by omega) (by omega)] at e
    exact e
  have cB : ∀ W (d : Nat), d < 256 → convT Tryd.prog W 5 23 (.int .u8 (Int.ofNat d)) = some (.val (u64 d)) := fun W d hd => by
    have e := cv_5_23 W .u8 (Int.ofNat d)
    rw [wrap_u64 (by omega)] at e
    exact e
  have dlt : ∀ n j, dig n 8 j < 256 := fun n j => Nat.mod_lt _ (by decide)
  have gY : HG Y := g.ext (XE.trans E1)
  obtain ⟨yk, hkn, _⟩ := known_run hσ gY
  have l256 : CV.int .u64 256 = u64 256 := rfl
  have l0 : CV.int .u64 0 = u64 0 := rfl
  by_cases k3 : p.kind = 3
  · have dk3 : decide (p.kind = 3) = true := decide_eq_true k3
    have dk2 : decide (p.kind = 2) = false := decide_eq_false (by omega)
    have pn : (pack p).length = 31 := by rw [pack_len]; simp [ackK, dataK, k3]
    have bl' : ∀ h', builtinT Tryd.prog h' .len [24] [v] = some (.val (.int .i64 31)) := fun h' => by rw [bl h', pn]; rfl
    simp only [go_sem, Nat.reduceLT, Nat.reduceLeDiff, Nat.reduceEqDiff, Nat.reduceAdd, Nat.reduceSub, Nat.reduceMul, reduceCtorEq, Int.reduceBEq, Int.reduceLT, Int.reduceLE, Int.reduceAdd, Int.reduceSub, Int.reduceEq, Int.reduceNeg, Int.reduceToNat, Int.reduceGT, Int.reduceGE, pb', ← hX, Xp, ov, oc, g0, g1, g2, g3, g4, g5, e1', ← hY, Yp, nr0, pl, w41, a0, c0, d0, a1, c1, d1, a2, c2, d2, ck2, dk3, dk2, bl']
    refine cnd_go (Q := Q) (by kernel_rfl) ?_
    simp only [go_sem, Nat.reduceLT, Nat.reduceLeDiff, Nat.reduceEqDiff, Nat.reduceAdd, Nat.reduceSub, Nat.reduceMul, reduceCtorEq, Int.reduceBEq, Int.reduceLT, Int.reduceLE, Int.reduceAdd, Int.reduceSub, Int.reduceEq, Int.reduceNeg, Int.reduceToNat, Int.reduceGT, Int.reduceGE, pb', ← hX, Xp, ov, oc, g0, g1, g2, g3, g4, g5, e1', ← hY, Yp, nr0, pl, w41, a0, c0, d0, a1, c1, d1, a2, c2, d2, ck2, dk3, dk2, bl']
    refine loop_ind (Q := Q) (fun i env h' => h' = Y ∧ evT env 1 = .ptr h.nx 0 ∧ evT env 3 = v ∧ evT env 6 = u64 (p.mine / 2 ^ (8 * (8 - i))) ∧ evT env 7 = u64 (p.theirs / 2 ^ (8 * (8 - i))) ∧ evT env 8 = .int .i64 (Int.ofNat i)) 8 0 ?_ (by decide) ?_ ?_
    · exact ⟨by rw [hY, hX, hpb]; rfl, by simp only [go_sem, Nat.reduceLT, Nat.reduceLeDiff, Nat.reduceEqDiff, Nat.reduceAdd, Nat.reduceSub, Nat.reduceMul, reduceCtorEq, Int.reduceBEq, Int.reduceLT, Int.reduceLE, Int.reduceAdd, Int.reduceSub, Int.reduceEq, Int.reduceNeg, Int.reduceToNat, Int.reduceGT, Int.reduceGE], by simp only [go_sem, Nat.reduceLT, Nat.reduceLeDiff, Nat.reduceEqDiff, Nat.reduceAdd, Nat.reduceSub, Nat.reduceMul, reduceCtorEq, Int.reduceBEq, Int.reduceLT, Int.reduceLE, Int.reduceAdd, Int.reduceSub, Int.reduceEq, Int.reduceNeg, Int.reduceToNat, Int.reduceGT, Int.reduceGE], by simp only [go_sem, Nat.reduceLT, Nat.reduceLeDiff, Nat.reduceEqDiff, Nat.reduceAdd, Nat.reduceSub, Nat.reduceMul, reduceCtorEq, Int.reduceBEq, Int.reduceLT, Int.reduceLE, Int.reduceAdd, Int.reduceSub, Int.reduceEq, Int.reduceNeg, Int.reduceToNat, Int.reduceGT, Int.reduceGE, l0]; rw [Nat.div_eq_of_lt (by exact ok.m)], by simp only [go_sem, Nat.reduceLT, Nat.reduceLeDiff, Nat.reduceEqDiff, Nat.reduceAdd, Nat.reduceSub, Nat.reduceMul, reduceCtorEq, Int.reduceBEq, Int.reduceLT, Int.reduceLE, Int.reduceAdd, Int.reduceSub, Int.reduceEq, Int.reduceNeg, Int.reduceToNat, Int.reduceGT, Int.reduceGE, l0]; rw [Nat.div_eq_of_lt (by exact ok.t)], by simp only [go_sem, Nat.reduceLT, Nat.reduceLeDiff, Nat.reduceEqDiff, Nat.reduceAdd, Nat.reduceSub, Nat.reduceMul, reduceCtorEq, Int.reduceBEq, Int.reduceLT, Int.reduceLE, Int.reduceAdd, Int.reduceSub, Int.reduceEq, Int.reduceNeg, Int.reduceToNat, Int.reduceGT, Int.reduceGE]; rfl⟩
    · rintro i env h' ⟨rfl, q1, q3, q6, q7, q8⟩ hi next
      have lt8 : Int.ofNat i < 8 := by simp; omega
      have wi := wrap_succ (i := i) (by omega)
      have w3 : IntKind.wrap .i64 (3 + Int.ofNat i) = Int.ofNat (3 + i) := by rw [wrap_i64 (by simp; omega) (by simp; omega)]; simp
      have w11 : IntKind.wrap .i64 (11 + Int.ofNat i) = Int.ofNat (11 + i) := by rw [wrap_i64 (by simp; omega) (by simp; omega)]; simp
      obtain ⟨i5, o5, b5, a5, c5, d5⟩ := bsl_at B1 (pack_mine p hi)
      obtain ⟨i6, o6, b6, a6, c6, d6⟩ := bsl_at B1 (pack_theirs p hi)
      have cm := fun W => cB W _ (dlt p.mine i)
      have ct := fun W => cB W _ (dlt p.theirs i)
      have dm := dig_step p.mine i ok.m hi
      have dt := dig_step p.theirs i ok.t hi
      simp only [go_sem, Nat.reduceLT, Nat.reduceLeDiff, Nat.reduceEqDiff, Nat.reduceAdd, Nat.reduceSub, Nat.reduceMul, reduceCtorEq, Int.reduceBEq, Int.reduceLT, Int.reduceLE, Int.reduceAdd, Int.reduceSub, Int.reduceEq, Int.reduceNeg, Int.reduceToNat, Int.reduceGT, Int.reduceGE, q1, q3, q6, q7, q8, lt8, l256, mul64, add64]
      refine cnd_go (Q := Q) (by kernel_rfl) ?_
      simp only [go_sem, Nat.reduceLT, Nat.reduceLeDiff, Nat.reduceEqDiff, Nat.reduceAdd, Nat.reduceSub, Nat.reduceMul, reduceCtorEq, Int.reduceBEq, Int.reduceLT, Int.reduceLE, Int.reduceAdd, Int.reduceSub, Int.reduceEq, Int.reduceNeg, Int.reduceToNat, Int.reduceGT, Int.reduceGE, q1, q3, q6, q7, q8, lt8, l256, mul64, add64, w3, w11, a5, c5, d5, a6, c6, d6, cm, ct, dm, dt, wi]
      exact next _ _ ⟨rfl, by simp only [go_sem, Nat.reduceLT, Nat.reduceLeDiff, Nat.reduceEqDiff, Nat.reduceAdd, Nat.reduceSub, Nat.reduceMul, reduceCtorEq, Int.reduceBEq, Int.reduceLT, Int.reduceLE, Int.reduceAdd, Int.reduceSub, Int.reduceEq, Int.reduceNeg, Int.reduceToNat, Int.reduceGT, Int.reduceGE, q1], by simp only [go_sem, Nat.reduceLT, Nat.reduceLeDiff, Nat.reduceEqDiff, Nat.reduceAdd, Nat.reduceSub, Nat.reduceMul, reduceCtorEq, Int.reduceBEq, Int.reduceLT, Int.reduceLE, Int.reduceAdd, Int.reduceSub, Int.reduceEq, Int.reduceNeg, Int.reduceToNat, Int.reduceGT, Int.reduceGE, q3], by simp only [go_sem, Nat.reduceLT, Nat.reduceLeDiff, Nat.reduceEqDiff, Nat.reduceAdd, Nat.reduceSub, Nat.reduceMul, reduceCtorEq, Int.reduceBEq, Int.reduceLT, Int.reduceLE, Int.reduceAdd, Int.reduceSub, Int.reduceEq, Int.reduceNeg, Int.reduceToNat, Int.reduceGT, Int.reduceGE], by simp only [go_sem, Nat.reduceLT, Nat.reduceLeDiff, Nat.reduceEqDiff, Nat.reduceAdd, Nat.reduceSub, Nat.reduceMul, reduceCtorEq, Int.reduceBEq, Int.reduceLT, Int.reduceLE, Int.reduceAdd, Int.reduceSub, Int.reduceEq, Int.reduceNeg, Int.reduceToNat, Int.reduceGT, Int.reduceGE], by simp only [go_sem, Nat.reduceLT, Nat.reduceLeDiff, Nat.reduceEqDiff, Nat.reduceAdd, Nat.reduceSub, Nat.reduceMul, reduceCtorEq, Int.reduceBEq, Int.reduceLT, Int.reduceLE, Int.reduceAdd, Int.reduceSub, Int.reduceEq, Int.reduceNeg, Int.reduceToNat, Int.reduceGT, Int.reduceGE, wi]⟩
    · rintro env h' ⟨rfl, q1, q3, q6, q7, q8⟩
      have lt8 : ¬ Int.ofNat 8 < 8 := by decide
      have z1 : p.mine / 2 ^ (8 * (8 - 8)) = p.mine := Nat.div_one _
      have z2 : p.theirs / 2 ^ (8 * (8 - 8)) = p.theirs := Nat.div_one _
      rw [z1] at q6
      rw [z2] at q7
      simp only [go_sem, Nat.reduceLT, Nat.reduceLeDiff, Nat.reduceEqDiff, Nat.reduceAdd, Nat.reduceSub, Nat.reduceMul, reduceCtorEq, Int.reduceBEq, Int.reduceLT, Int.reduceLE, Int.reduceAdd, Int.reduceSub, Int.reduceEq, Int.reduceNeg, Int.reduceToNat, Int.reduceGT, Int.reduceGE, q1, q3, q6, q7, q8, lt8, Yp, g0, g1, g2, eq64, hkn]
      rw [hQ]; exact tru_fin _ _
  have dk3 : decide (p.kind = 3) = false := decide_eq_false k3
  by_cases k2 : p.kind = 2
  · have dk2 : decide (p.kind = 2) = true := decide_eq_true k2
    have w41 := w41 k2
    have pn : (pack p).length = 41 + p.xs.length := by rw [pack_len]; simp [ackK, dataK, k2]; omega
    have bl' : ∀ h', builtinT Tryd.prog h' .len [24] [v] = some (.val (.int .i64 (Int.ofNat (41 + p.xs.length)))) := fun h' => by rw [bl h', pn]
    simp only [go_sem, Nat.reduceLT, Nat.reduceLeDiff, Nat.reduceEqDiff, Nat.reduceAdd, Nat.reduceSub, Nat.reduceMul, reduceCtorEq, Int.reduceBEq, Int.reduceLT, Int.reduceLE, Int.reduceAdd, Int.reduceSub, Int.reduceEq, Int.reduceNeg, Int.reduceToNat, Int.reduceGT, Int.reduceGE, pb', ← hX, Xp, ov, oc, g0, g1, g2, g3, g4, g5, e1', ← hY, Yp, nr0, pl, w41, a0, c0, d0, a1, c1, d1, a2, c2, d2, ck2, dk3, dk2, bl']
    refine cnd_go (Q := Q) (by kernel_rfl) ?_
    simp only [go_sem, Nat.reduceLT, Nat.reduceLeDiff, Nat.reduceEqDiff, Nat.reduceAdd, Nat.reduceSub, Nat.reduceMul, reduceCtorEq, Int.reduceBEq, Int.reduceLT, Int.reduceLE, Int.reduceAdd, Int.reduceSub, Int.reduceEq, Int.reduceNeg, Int.reduceToNat, Int.reduceGT, Int.reduceGE, pb', ← hX, Xp, ov, oc, g0, g1, g2, g3, g4, g5, e1', ← hY, Yp, nr0, pl, w41, a0, c0, d0, a1, c1, d1, a2, c2, d2, ck2, dk3, dk2, bl']
    refine loop_ind (Q := Q) (fun i env h' => h' = Y ∧ evT env 1 = .ptr h.nx 0 ∧ evT env 3 = v ∧ evT env 6 = u64 (p.mine / 2 ^ (8 * (8 - i))) ∧ evT env 7 = u64 (p.theirs / 2 ^ (8 * (8 - i))) ∧ evT env 8 = .int .i64 (Int.ofNat i)) 8 0 ?_ (by decide) ?_ ?_
    · exact ⟨by rw [hY, hX, hpb]; rfl, by simp only [go_sem, Nat.reduceLT, Nat.reduceLeDiff, Nat.reduceEqDiff, Nat.reduceAdd, Nat.reduceSub, Nat.reduceMul, reduceCtorEq, Int.reduceBEq, Int.reduceLT, Int.reduceLE, Int.reduceAdd, Int.reduceSub, Int.reduceEq, Int.reduceNeg, Int.reduceToNat, Int.reduceGT, Int.reduceGE], by simp only [go_sem, Nat.reduceLT, Nat.reduceLeDiff, Nat.reduceEqDiff, Nat.reduceAdd, Nat.reduceSub, Nat.reduceMul, reduceCtorEq, Int.reduceBEq, Int.reduceLT, Int.reduceLE, Int.reduceAdd, Int.reduceSub, Int.reduceEq, Int.reduceNeg, Int.reduceToNat, Int.reduceGT, Int.reduceGE], by simp only [go_sem, Nat.reduceLT, Nat.reduceLeDiff, Nat.reduceEqDiff, Nat.reduceAdd, Nat.reduceSub, Nat.reduceMul, reduceCtorEq, Int.reduceBEq, Int.reduceLT, Int.reduceLE, Int.reduceAdd, Int.reduceSub, Int.reduceEq, Int.reduceNeg, Int.reduceToNat, Int.reduceGT, Int.reduceGE, l0]; rw [Nat.div_eq_of_lt (by exact ok.m)], by simp only [go_sem, Nat.reduceLT, Nat.reduceLeDiff, Nat.reduceEqDiff, Nat.reduceAdd, Nat.reduceSub, Nat.reduceMul, reduceCtorEq, Int.reduceBEq, Int.reduceLT, Int.reduceLE, Int.reduceAdd, Int.reduceSub, Int.reduceEq, Int.reduceNeg, Int.reduceToNat, Int.reduceGT, Int.reduceGE, l0]; rw [Nat.div_eq_of_lt (by exact ok.t)], by simp only [go_sem, Nat.reduceLT, Nat.reduceLeDiff, Nat.reduceEqDiff, Nat.reduceAdd, Nat.reduceSub, Nat.reduceMul, reduceCtorEq, Int.reduceBEq, Int.reduceLT, Int.reduceLE, Int.reduceAdd, Int.reduceSub, Int.reduceEq, Int.reduceNeg, Int.reduceToNat, Int.reduceGT, Int.reduceGE]; rfl⟩
    · rintro i env h' ⟨rfl, q1, q3, q6, q7, q8⟩ hi next
      have lt8 : Int.ofNat i < 8 := by simp; omega
      have wi := wrap_succ (i := i) (by omega)
      have w3 : IntKind.wrap .i64 (3 + Int.ofNat i) = Int.ofNat (3 + i) := by rw [wrap_i64 (by simp; omega) (by simp; omega)]; simp
      have w11 : IntKind.wrap .i64 (11 + Int.ofNat i) = Int.ofNat (11 + i) := by rw [wrap_i64 (by simp; omega) (by simp; omega)]; simp
      obtain ⟨i5, o5, b5, a5, c5, d5⟩ := bsl_at B1 (pack_mine p hi)
      obtain ⟨i6, o6, b6, a6, c6, d6⟩ := bsl_at B1 (pack_theirs p hi)
      have cm := fun W => cB W _ (dlt p.mine i)
      have ct := fun W => cB W _ (dlt p.theirs i)
      have dm := dig_step p.mine i ok.m hi
      have dt := dig_step p.theirs i ok.t hi
      simp only [go_sem, Nat.reduceLT, Nat.reduceLeDiff, Nat.reduceEqDiff, Nat.reduceAdd, Nat.reduceSub, Nat.reduceMul, reduceCtorEq, Int.reduceBEq, Int.reduceLT, Int.reduceLE, Int.reduceAdd, Int.reduceSub, Int.reduceEq, Int.reduceNeg, Int.reduceToNat, Int.reduceGT, Int.reduceGE, q1, q3, q6, q7, q8, lt8, l256, mul64, add64]
      refine cnd_go (Q := Q) (by kernel_rfl) ?_
      simp only [go_sem, Nat.reduceLT, Nat.reduceLeDiff, Nat.reduceEqDiff, Nat.reduceAdd, Nat.reduceSub, Nat.reduceMul, reduceCtorEq, Int.reduceBEq, Int.reduceLT, Int.reduceLE, Int.reduceAdd, Int.reduceSub, Int.reduceEq, Int.reduceNeg, Int.reduceToNat, Int.reduceGT, Int.reduceGE, q1, q3, q6, q7, q8, lt8, l256, mul64, add64, w3, w11, a5, c5, d5, a6, c6, d6, cm, ct, dm, dt, wi]
      exact next _ _ ⟨rfl, by simp only [go_sem, Nat.reduceLT, Nat.reduceLeDiff, Nat.reduceEqDiff, Nat.reduceAdd, Nat.reduceSub, Nat.reduceMul, reduceCtorEq, Int.reduceBEq, Int.reduceLT, Int.reduceLE, Int.reduceAdd, Int.reduceSub, Int.reduceEq, Int.reduceNeg, Int.reduceToNat, Int.reduceGT, Int.reduceGE, q1], by simp only [go_sem, Nat.reduceLT, Nat.reduceLeDiff, Nat.reduceEqDiff, Nat.reduceAdd, Nat.reduceSub, Nat.reduceMul, reduceCtorEq, Int.reduceBEq, Int.reduceLT, Int.reduceLE, Int.reduceAdd, Int.reduceSub, Int.reduceEq, Int.reduceNeg, Int.reduceToNat, Int.reduceGT, Int.reduceGE, q3], by simp only [go_sem, Nat.reduceLT, Nat.reduceLeDiff, Nat.reduceEqDiff, Nat.reduceAdd, Nat.reduceSub, Nat.reduceMul, reduceCtorEq, Int.reduceBEq, Int.reduceLT, Int.reduceLE, Int.reduceAdd, Int.reduceSub, Int.reduceEq, Int.reduceNeg, Int.reduceToNat, Int.reduceGT, Int.reduceGE], by simp only [go_sem, Nat.reduceLT, Nat.reduceLeDiff, Nat.reduceEqDiff, Nat.reduceAdd, Nat.reduceSub, Nat.reduceMul, reduceCtorEq, Int.reduceBEq, Int.reduceLT, Int.reduceLE, Int.reduceAdd, Int.reduceSub, Int.reduceEq, Int.reduceNeg, Int.reduceToNat, Int.reduceGT, Int.reduceGE], by simp only [go_sem, Nat.reduceLT, Nat.reduceLeDiff, Nat.reduceEqDiff, Nat.reduceAdd, Nat.reduceSub, Nat.reduceMul, reduceCtorEq, Int.reduceBEq, Int.reduceLT, Int.reduceLE, Int.reduceAdd, Int.reduceSub, Int.reduceEq, Int.reduceNeg, Int.reduceToNat, Int.reduceGT, Int.reduceGE, wi]⟩
    · rintro env h' ⟨rfl, q1, q3, q6, q7, q8⟩
      have lt8 : ¬ Int.ofNat 8 < 8 := by decide
      have z1 : p.mine / 2 ^ (8 * (8 - 8)) = p.mine := Nat.div_one _
      have z2 : p.theirs / 2 ^ (8 * (8 - 8)) = p.theirs := Nat.div_one _
      rw [z1] at q6
      rw [z2] at q7
      simp only [go_sem, Nat.reduceLT, Nat.reduceLeDiff, Nat.reduceEqDiff, Nat.reduceAdd, Nat.reduceSub, Nat.reduceMul, reduceCtorEq, Int.reduceBEq, Int.reduceLT, Int.reduceLE, Int.reduceAdd, Int.reduceSub, Int.reduceEq, Int.reduceNeg, Int.reduceToNat, Int.reduceGT, Int.reduceGE, q1, q3, q6, q7, q8, lt8, Yp, g0, g1, g2, eq64, hkn]
      rw [hQ]; exact tru_fin _ _
  have dk2 : decide (p.kind = 2) = false := decide_eq_false k2
  have pn : (pack p).length = 23 := by rw [pack_len]; simp [ackK, dataK, k2, k3]
  have bl' : ∀ h', builtinT Tryd.prog h' .len [24] [v] = some (.val (.int .i64 23)) := fun h' => by rw [bl h', pn]; rfl
  simp only [go_sem, Nat.reduceLT, Nat.reduceLeDiff, Nat.reduceEqDiff, Nat.reduceAdd, Nat.reduceSub, Nat.reduceMul, reduceCtorEq, Int.reduceBEq, Int.reduceLT, Int.reduceLE, Int.reduceAdd, Int.reduceSub, Int.reduceEq, Int.reduceNeg, Int.reduceToNat, Int.reduceGT, Int.reduceGE, pb', ← hX, Xp, ov, oc, g0, g1, g2, g3, g4, g5, e1', ← hY, Yp, nr0, pl, w41, a0, c0, d0, a1, c1, d1, a2, c2, d2, ck2, dk3, dk2, bl']
  refine cnd_go (Q := Q) (by kernel_rfl) ?_
  simp only [go_sem, Nat.reduceLT, Nat.reduceLeDiff, Nat.reduceEqDiff, Nat.reduceAdd, Nat.reduceSub, Nat.reduceMul, reduceCtorEq, Int.reduceBEq, Int.reduceLT, Int.reduceLE, Int.reduceAdd, Int.reduceSub, Int.reduceEq, Int.reduceNeg, Int.reduceToNat, Int.reduceGT, Int.reduceGE, pb', ← hX, Xp, ov, oc, g0, g1, g2, g3, g4, g5, e1', ← hY, Yp, nr0, pl, w41, a0, c0, d0, a1, c1, d1, a2, c2, d2, ck2, dk3, dk2, bl']
  refine loop_ind (Q := Q) (fun i env h' => h' = Y ∧ evT env 1 = .ptr h.nx 0 ∧ evT env 3 = v ∧ evT env 6 = u64 (p.mine / 2 ^ (8 * (8 - i))) ∧ evT env 7 = u64 (p.theirs / 2 ^ (8 * (8 - i))) ∧ evT env 8 = .int .i64 (Int.ofNat i)) 8 0 ?_ (by decide) ?_ ?_
  · exact ⟨by rw [hY, hX, hpb]; rfl, by simp only [go_sem, Nat.reduceLT, Nat.reduceLeDiff, Nat.reduceEqDiff, Nat.reduceAdd, Nat.reduceSub, Nat.reduceMul, reduceCtorEq, Int.reduceBEq, Int.reduceLT, Int.reduceLE, Int.reduceAdd, Int.reduceSub, Int.reduceEq, Int.reduceNeg, Int.reduceToNat, Int.reduceGT, Int.reduceGE], by simp only [go_sem, Nat.reduceLT, Nat.reduceLeDiff, Nat.reduceEqDiff, Nat.reduceAdd, Nat.reduceSub, Nat.reduceMul, reduceCtorEq, Int.reduceBEq, Int.reduceLT, Int.reduceLE, Int.reduceAdd, Int.reduceSub, Int.reduceEq, Int.reduceNeg, Int.reduceToNat, Int.reduceGT, Int.reduceGE], by simp only [go_sem, Nat.reduceLT, Nat.reduceLeDiff, Nat.reduceEqDiff, Nat.reduceAdd, Nat.reduceSub, Nat.reduceMul, reduceCtorEq, Int.reduceBEq, Int.reduceLT, Int.reduceLE, Int.reduceAdd, Int.reduceSub, Int.reduceEq, Int.reduceNeg, Int.reduceToNat, Int.reduceGT, Int.reduceGE, l0]; rw [Nat.div_eq_of_lt (by exact ok.m)], by simp only [go_sem, Nat.reduceLT, Nat.reduceLeDiff, Nat.reduceEqDiff, Nat.reduceAdd, Nat.reduceSub, Nat.reduceMul, reduceCtorEq, Int.reduceBEq, Int.reduceLT, Int.reduceLE, Int.reduceAdd, Int.reduceSub, Int.reduceEq, Int.reduceNeg, Int.reduceToNat, Int.reduceGT, Int.reduceGE, l0]; rw [Nat.div_eq_of_lt (by exact ok.t)], by simp only [go_sem, Nat.reduceLT, Nat.reduceLeDiff, Nat.reduceEqDiff, Nat.reduceAdd, Nat.reduceSub, Nat.reduceMul, reduceCtorEq, Int.reduceBEq, Int.reduceLT, Int.reduceLE, Int.reduceAdd, Int.reduceSub, Int.reduceEq, Int.reduceNeg, Int.reduceToNat, Int.reduceGT, Int.reduceGE]; rfl⟩
  · rintro i env h' ⟨rfl, q1, q3, q6, q7, q8⟩ hi next
    have lt8 : Int.ofNat i < 8 := by simp; omega
    have wi := wrap_succ (i := i) (by omega)
    have w3 : IntKind.wrap .i64 (3 + Int.ofNat i) = Int.ofNat (3 + i) := by rw [wrap_i64 (by simp; omega) (by simp; omega)]; simp
    have w11 : IntKind.wrap .i64 (11 + Int.ofNat i) = Int.ofNat (11 + i) := by rw [wrap_i64 (by simp; omega) (by simp; omega)]; simp
    obtain ⟨i5, o5, b5, a5, c5, d5⟩ := bsl_at B1 (pack_mine p hi)
    obtain ⟨i6, o6, b6, a6, c6, d6⟩ := bsl_at B1 (pack_theirs p hi)
    have cm := fun W => cB W _ (dlt p.mine i)
    have ct := fun W => cB W _ (dlt p.theirs i)
    have dm := dig_step p.mine i ok.m hi
    have dt := dig_step p.theirs i ok.t hi
    simp only [go_sem, Nat.reduceLT, Nat.reduceLeDiff, Nat.reduceEqDiff, Nat.reduceAdd, Nat.reduceSub, Nat.reduceMul, reduceCtorEq, Int.reduceBEq, Int.reduceLT, Int.reduceLE, Int.reduceAdd, Int.reduceSub, Int.reduceEq, Int.reduceNeg, Int.reduceToNat, Int.reduceGT, Int.reduceGE, q1, q3, q6, q7, q8, lt8, l256, mul64, add64]
    refine cnd_go (Q := Q) (by kernel_rfl) ?_
    simp only [go_sem, Nat.reduceLT, Nat.reduceLeDiff, Nat.reduceEqDiff, Nat.reduceAdd, Nat.reduceSub, Nat.reduceMul, reduceCtorEq, Int.reduceBEq, Int.reduceLT, Int.reduceLE, Int.reduceAdd, Int.reduceSub, Int.reduceEq, Int.reduceNeg, Int.reduceToNat, Int.reduceGT, Int.reduceGE, q1, q3, q6, q7, q8, lt8, l256, mul64, add64, w3, w11, a5, c5, d5, a6, c6, d6, cm, ct, dm, dt, wi]
    exact next _ _ ⟨rfl, by simp only [go_sem, Nat.reduceLT, Nat.reduceLeDiff, Nat.reduceEqDiff, Nat.reduceAdd, Nat.reduceSub, Nat.reduceMul, reduceCtorEq, Int.reduceBEq, Int.reduceLT, Int.reduceLE, Int.reduceAdd, Int.reduceSub, Int.reduceEq, Int.reduceNeg, Int.reduceToNat, Int.reduceGT, Int.reduceGE, q1], by simp only [go_sem, Nat.reduceLT, Nat.reduceLeDiff, Nat.reduceEqDiff, Nat.reduceAdd, Nat.reduceSub, Nat.reduceMul, reduceCtorEq, Int.reduceBEq, Int.reduceLT, Int.reduceLE, Int.reduceAdd, Int.reduceSub, Int.reduceEq, Int.reduceNeg, Int.reduceToNat, Int.reduceGT, Int.reduceGE, q3], by simp only [go_sem, Nat.reduceLT, Nat.reduceLeDiff, Nat.reduceEqDiff, Nat.reduceAdd, Nat.reduceSub, Nat.reduceMul, reduceCtorEq, Int.reduceBEq, Int.reduceLT, Int.reduceLE, Int.reduceAdd, Int.reduceSub, Int.reduceEq, Int.reduceNeg, Int.reduceToNat, Int.reduceGT, Int.reduceGE], by simp only [go_sem, Nat.reduceLT, Nat.reduceLeDiff, Nat.reduceEqDiff, Nat.reduceAdd, Nat.reduceSub, Nat.reduceMul, reduceCtorEq, Int.reduceBEq, Int.reduceLT, Int.reduceLE, Int.reduceAdd, Int.reduceSub, Int.reduceEq, Int.reduceNeg, Int.reduceToNat, Int.reduceGT, Int.reduceGE], by simp only [go_sem, Nat.reduceLT, Nat.reduceLeDiff, Nat.reduceEqDiff, Nat.reduceAdd, Nat.reduceSub, Nat.reduceMul, reduceCtorEq, Int.reduceBEq, Int.reduceLT, Int.reduceLE, Int.reduceAdd, Int.reduceSub, Int.reduceEq, Int.reduceNeg, Int.reduceToNat, Int.reduceGT, Int.reduceGE, wi]⟩
  · rintro env h' ⟨rfl, q1, q3, q6, q7, q8⟩
    have lt8 : ¬ Int.ofNat 8 < 8 := by decide
    have z1 : p.mine / 2 ^ (8 * (8 - 8)) = p.mine := Nat.div_one _
    have z2 : p.theirs / 2 ^ (8 * (8 - 8)) = p.theirs := Nat.div_one _
    rw [z1] at q6
    rw [z2] at q7
    simp only [go_sem, Nat.reduceLT, Nat.reduceLeDiff, Nat.reduceEqDiff, Nat.reduceAdd, Nat.reduceSub, Nat.reduceMul, reduceCtorEq, Int.reduceBEq, Int.reduceLT, Int.reduceLE, Int.reduceAdd, Int.reduceSub, Int.reduceEq, Int.reduceNeg, Int.reduceToNat, Int.reduceGT, Int.reduceGE, q1, q3, q6, q7, q8, lt8, Yp, g0, g1, g2, eq64, hkn]
    rw [hQ]; exact tru_fin _ _
end Go.Cl.Sh.W

namespace Go.Cl.Sh.W

theorem cellsOf_u8 : Tryd.prog.cellsOf 5 = 1 := by kernel_rfl
theorem cellsOf_u64 : Tryd.prog.cellsOf 23 = 1 := by kernel_rfl
theorem cellsOf_kind : Tryd.prog.cellsOf 22 = 1 := by kernel_rfl
theorem cellsOf_bs : Tryd.prog.cellsOf 24 = 1 := by kernel_rfl
theorem cellsOf_pk : Tryd.prog.cellsOf 26 = 6 := by kernel_rfl
theorem nltW {α : Type} {l : List α} {i : Nat} {v : α} (h : nth l i = some v) : i < l.length := by
  rw [nth_eq] at h; exact (List.getElem?_eq_some_iff.1 h).1
theorem bsl_of {h : H} {v : CV} (r : Rd Tryd.prog h 24 [v]) : ∃ bs : List Nat, BSl h v (bc bs) ∧ (∀ b ∈ bs, b < 256) ∧ v.one = true := by
  generalize hcs : [v] = cs at r
  cases r with
  | nils ht => simp at hcs; subst hcs; exact ⟨[], .inl ⟨rfl, rfl⟩, by simp, rfl⟩
  | sl0 id ht hid => simp at hcs; subst hcs; exact ⟨[], .inr (.inl ⟨rfl, id, 0, 0, 0, rfl⟩), by simp, rfl⟩
  | sl id len cap b xs ht hid hl hcap hb hro hxl hxg hx =>
    simp at hcs; subst hcs
    rw [Tryd.underlying24] at ht; cases ht
    rw [cellsOf_u8] at hxl hxg
    obtain ⟨l, hll, hq⟩ := list_of (Q := fun i (m : Nat) => xs i = [.int .u8 (Int.ofNat m)] ∧ m < 256) len fun i hi => by
      obtain ⟨m, e, h1, h2⟩ := (hx i hi).int_inv Tryd.underlying5
      have h1 : 0 ≤ m := h1
      have h2 : m ≤ 255 := h2
      exact ⟨m.toNat, by rw [e]; congr 2; simp; omega, by omega⟩
    refine ⟨l, .inr (.inr ⟨id, 0, _, b, by rw [bc_len, hll], hid, hb, loadN_of _ _ _ rfl fun i v hv => ?_⟩), fun b hb => ?_, rfl⟩
    · have hi := nltW hv
      rw [bc_len, hll] at hi
      obtain ⟨m, hm⟩ : ∃ m, l[i]? = some m := ⟨_, List.getElem?_eq_getElem (by omega)⟩
      have e := (hq i m hm).1
      have := hxg i 0 (.int .u8 (Int.ofNat m)) hi (by rw [e]; rfl)
      rw [Nat.zero_add]
      rw [nth_eq] at hv
      simp [bc, hm] at hv
      rw [← hv]
      simpa using this
    · obtain ⟨i, hi, rfl⟩ := List.getElem_of_mem hb
      exact (hq i _ (List.getElem?_eq_getElem hi)).2
  | _ => simp_all

set_option maxRecDepth 100000 in
theorem pk_of {h : H} {c : CV} (a : Arg Tryd.prog h 26 c) : ∃ p : Pk, c = .agg p.cs ∧ PkOk p ∧ BSl h p.v (bc p.xs) := by
  obtain ⟨hl, hf⟩ := a.rd.struct_inv Tryd.underlying26
  rw [cellsOf_pk] at hl
  obtain ⟨az, rfl⟩ := agg_of (c := c) (by omega)
  simp only [cells_agg] at hl hf
  have h0 := hf _ (List.mem_cons_self)
  have h1 := hf _ (List.mem_cons_of_mem _ List.mem_cons_self)
  have h2 := hf _ (List.mem_cons_of_mem _ (List.mem_cons_of_mem _ List.mem_cons_self))
  have h3 := hf _ (List.mem_cons_of_mem _ (List.mem_cons_of_mem _ (List.mem_cons_of_mem _ List.mem_cons_self)))
  have h4 := hf _ (List.mem_cons_of_mem _ (List.mem_cons_of_mem _ (List.mem_cons_of_mem _ (List.mem_cons_of_mem _ List.mem_cons_self))))
  have h5 := hf _ (List.mem_cons_of_mem _ (List.mem_cons_of_mem _ (List.mem_cons_of_mem _ (List.mem_cons_of_mem _ (List.mem_cons_of_mem _ List.mem_cons_self)))))
  simp only [cellsOf_u64, cellsOf_kind, cellsOf_bs] at h0 h1 h2 h3 h4 h5
  obtain ⟨k, e0, _⟩ := h0.int_inv Tryd.underlying22
  obtain ⟨n1, e1, m1, M1⟩ := h1.int_inv Tryd.underlying23
  obtain ⟨n2, e2, m2, M2⟩ := h2.int_inv Tryd.underlying23
  obtain ⟨n3, e3, m3, M3⟩ := h3.int_inv Tryd.underlying23
  obtain ⟨n4, e4, m4, M4⟩ := h4.int_inv Tryd.underlying23
  have m1 : 0 ≤ n1 := m1
  have m2 : 0 ≤ n2 := m2
  have m3 : 0 ≤ n3 := m3
  have m4 : 0 ≤ n4 := m4
  have M1 : n1 ≤ 18446744073709551615 := M1
  have M2 : n2 ≤ 18446744073709551615 := M2
  have M3 : n3 ≤ 18446744073709551615 := M3
  have M4 : n4 ≤ 18446744073709551615 := M4
  match az, hl with
  | [x0, x1, x2, x3, x4, x5], _ =>
    simp at e0 e1 e2 e3 e4
    subst e0 e1 e2 e3 e4
    have h5' : Rd Tryd.prog h 24 [x5] := h5
    obtain ⟨bs, q1, q2, q3⟩ := bsl_of h5'
    have t1 : n1 = Int.ofNat n1.toNat := by simp; omega
    have t2 : n2 = Int.ofNat n2.toNat := by simp; omega
    have t3 : n3 = Int.ofNat n3.toNat := by simp; omega
    have t4 : n4 = Int.ofNat n4.toNat := by simp; omega
    refine ⟨⟨k, n1.toNat, n2.toNat, n3.toNat, n4.toNat, x5, bs⟩, ?_, ⟨?_, ?_, ?_, ?_⟩, q1⟩
    · show CV.agg [.int .i64 k, .int .u64 n1, .int .u64 n2, .int .u64 n3, .int .u64 n4, x5] = CV.agg [.int .i64 k, .int .u64 (Int.ofNat n1.toNat), .int .u64 (Int.ofNat n2.toNat), .int .u64 (Int.ofNat n3.toNat), .int .u64 (Int.ofNat n4.toNat), x5]
      rw [← t1, ← t2, ← t3, ← t4]
    · show n1.toNat < 2 ^ 64; omega
    · show n2.toNat < 2 ^ 64; omega
    · show n3.toNat < 2 ^ 64; omega
    · show n4.toNat < 2 ^ 64; omega
end Go.Cl.Sh.W
