/- The program's functions, run by the rewriting evaluator: what each answers and leaves (PkD). -/
import Derived.Test.YtadmgnlmoodjeaaDoorPkC
set_option linter.all false
open Go Go.Cl Go.Proofs
namespace Go.Cl.Sh.W
variable {σ : Sums}
set_option maxRecDepth 1000000

/-! ### what it reads -/
def dnx (d : List Nat × Bool) (n : Nat) : List Nat × Bool := (cutR d.1 d.2 n, cutB d.1 d.2 n)
def dnm (d : List Nat × Bool) (n : Nat) : Nat := valB (cutV d.1 d.2 n)
def d1D (bs : List Nat) : List Nat × Bool := ((bs.drop 2).take (bs.length - 6), false)
def d2D (bs : List Nat) := dnx (d1D bs) 1
def d3D (bs : List Nat) := dnx (d2D bs) 8
def d4D (bs : List Nat) := dnx (d3D bs) 8
def kD (bs : List Nat) : Int := Int.ofNat (dnm (d1D bs) 1)
def d5D (bs : List Nat) := if ackK (kD bs) then dnx (d4D bs) 8 else d4D bs
def d6D (bs : List Nat) := if dataK (kD bs) then dnx (d5D bs) 8 else d5D bs
def d7D (bs : List Nat) : List Nat × Bool := if dataK (kD bs) then (rblobR (d6D bs).1 (d6D bs).2, rblobB (d6D bs).1 (d6D bs).2) else d6D bs
def pD (bs : List Nat) (v : CV) : Pk := ⟨kD bs, dnm (d2D bs) 8, dnm (d3D bs) 8, if ackK (kD bs) then dnm (d4D bs) 8 else 0, if dataK (kD bs) then dnm (d5D bs) 8 else 0, v, if dataK (kD bs) then rblobV (d6D bs).1 (d6D bs).2 else []⟩
def preD (bs : List Nat) : Bool := decide (23 ≤ bs.length) && decide (bs[0]? = some 71) && decide (bs[1]? = some 80)
def endD (d : List Nat × Bool) : Bool := !d.2 && decide (d.1.length = 0)
def okD (bs : List Nat) : Bool := preD bs && endD (d7D bs) && mayV (pD bs .nils) && decide (pack (pD bs .nils) = bs)
def OfDR (h : H) (id : Nat) (bs : List Nat) (o : Option (CV × Option H)) : Prop :=
  (okD bs = false ∧ ∃ x, o = some (.tup [.agg z6, .bool false], x) ∧ Ext h (x.getD h)) ∨
  (okD bs = true ∧ ∃ v x, o = some (.tup [.agg (pD bs v).cs, .bool true], x) ∧ Ext h (x.getD h) ∧ BSl (x.getD h) v (bc (pD bs .nils).xs) ∧ ∀ i off l c, v = .sl i off l c → i = id)
theorem rof_bad {h Y : H} {id : Nat} {bs : List Nat} (E : Ext h Y) (hok : okD bs = false) : OfDR h id bs (some (fin h Y (.tup [.agg z6, .bool false]))) := by
  obtain ⟨y, hy, Ey⟩ := fin_ext E (.tup [.agg z6, .bool false])
  exact .inl ⟨hok, y, congrArg some hy, Ey⟩
theorem rof_good {h Y : H} {id : Nat} {bs : List Nat} {v : CV} (E : Ext h Y) (hok : okD bs = true) (B : BSl Y v (bc (pD bs .nils).xs)) (hnew : ∀ i off l c, v = .sl i off l c → i = id) (hid : id < h.nx) : OfDR h id bs (some (fin h Y (.tup [.agg (pD bs v).cs, .bool true]))) := by
  refine .inr ⟨hok, v, ?_⟩
  obtain ⟨x, e, Ex⟩ := fin_ext E (.tup [.agg (pD bs v).cs, .bool true])
  refine ⟨x, congrArg some e, Ex, ?_, hnew⟩
  rcases B with h1 | h1 | ⟨i, off, c, b, rfl, h2, h3, h4⟩
  · exact .inl h1
  · exact .inr (.inl h1)
  · have hi := hnew _ _ _ _ rfl
    subst hi
    exact .inr (.inr ⟨i, off, c, b, rfl, Nat.lt_of_lt_of_le hid Ex.nx, (Ex.blk hid).trans ((E.blk hid).symm.trans h3), h4⟩)
structure Dt (h Z : H) (r id pid : Nat) (d : List Nat × Bool) (pb zb : Blk) : Prop where
  R : RrAt Z r id d.1 d.2
  E : Ext h Z
  p : Z.blk pid = some pb
  z : Z.blk h.nx = some zb
  pr : pid ≠ r
  pl : pid ≠ id
  hp : h.nx < pid
  hr : h.nx < r
  pn : pid < Z.nx
theorem RrAt.put {h : H} {r id pid : Nat} {rest : List Nat} {bad : Bool} (R : RrAt h r id rest bad) (h1 : pid ≠ r) (h2 : pid ≠ id) (o : CObj) : RrAt (h.put pid o) r id rest bad := by
  obtain ⟨b, v, q1, q2, q3, q4, q5, q6⟩ := R.blk
  exact ⟨R.lt, R.ne, b, v, by rw [put_blk_ne _ _ _ _ (by omega)]; exact q1, q2, q3, q4, q5, q6.mono (Nat.le_refl _) (put_blk_ne _ _ _ _ (by omega))⟩
theorem Dt.call {h Z Y : H} {r id pid : Nat} {d d' : List Nat × Bool} {pb zb : Blk} (S : Dt h Z r id pid d pb zb) (R' : RrAt Y r id d'.1 d'.2) (F : RFr Z Y r) : Dt h Y r id pid d' pb zb :=
  ⟨R', F.ext S.E (Nat.le_of_lt S.hr), (blk_eq (F.old pid S.pn S.pr)).trans S.p, (blk_eq (F.old h.nx (Nat.lt_trans S.hp S.pn) (Nat.ne_of_lt S.hr))).trans S.z, S.pr, S.pl, S.hp, S.hr, Nat.lt_of_lt_of_le S.pn F.nx⟩
theorem Dt.put {h Z : H} {r id pid : Nat} {d : List Nat × Bool} {pb zb : Blk} (S : Dt h Z r id pid d pb zb) (pb' : Blk) : Dt h (Z.put pid (.cells pb')) r id pid d pb' zb :=
  ⟨S.R.put S.pr S.pl _, S.E.put _ (Nat.le_of_lt S.hp), put_blk_same _ _ _, (put_blk_ne _ _ _ _ (Nat.ne_of_lt S.hp)).trans S.z, S.pr, S.pl, S.hp, S.hr, S.pn⟩
def dby (d : List Nat × Bool) : Prop := ∀ b ∈ d.1, b < 256
theorem dby.nx {d : List Nat × Bool} (B : dby d) (n : Nat) : dby (dnx d n) := cutR_byte B d.2 n
theorem dnm_lt {d : List Nat × Bool} (B : dby d) (n : Nat) : dnm d n < 256 ^ n := by
  have h1 := valB_lt (cutV d.1 d.2 n).length (cutV d.1 d.2 n) rfl (cutV_byte B _ _)
  exact Nat.lt_of_lt_of_le h1 (Nat.pow_le_pow_right (n := 256) (by decide) (cutV_len d.1 d.2 n))
theorem pD_xs {bs : List Nat} (hb : ∀ b ∈ bs, b < 256) (v : CV) : ∀ b ∈ (pD bs v).xs, b < 256 := fun b hm => by
  have B1 : dby (d1D bs) := fun b hm => hb b (List.mem_of_mem_drop (List.mem_of_mem_take hm))
  have B4 : dby (d4D bs) := ((B1.nx 1).nx 8).nx 8
  have B5 : dby (d5D bs) := by unfold d5D; split; exact B4.nx 8; exact B4
  have B6 : dby (d6D bs) := by unfold d6D; split; exact B5.nx 8; exact B5
  unfold pD at hm
  simp only at hm
  split at hm
  · exact cutV_byte (cutR_byte B6 _ _) _ _ b hm
  · cases hm
theorem RB.cut2 {h : H} {id : Nat} {v : CV} {bs : List Nat} (R : RB h id v bs) (hn : 23 ≤ bs.length) (X : H) :
    ∃ a, sliceT Tryd.prog X 24 v (some (.int .i64 2)) (some (.int .i64 (Int.ofNat (bs.length - 4)))) none = some a ∧ RB h id a (d1D bs).1 := by
  obtain ⟨off, c, b, rfl, h2, h3, h4, h5⟩ := R
  have l2 : ((bs.drop 2).take (bs.length - 6)).length = bs.length - 6 := by rw [List.length_take, List.length_drop]; omega
  refine ⟨.sl id (off + 2) (bs.length - 6) (.exact (c - 2)), ?_, ⟨off + 2, c - 2, b, by unfold d1D; rw [l2], by unfold d1D; rw [l2]; omega, h3, h4, ?_⟩⟩
  · simp only [sliceT, Tryd.underlying24, Option.bind_some, sz_5, sliceExact, bnd, toN, Int.ofNat_eq_natCast, Nat.mul_one]
    simp [ble_eq', beq_eq', show bs.length ≤ c + 4 by omega, show 2 ≤ bs.length - 4 by omega, show bs.length - 4 - 2 = bs.length - 6 by omega, show ¬ c = 2 by omega]
  · unfold d1D
    rw [l2]
    obtain ⟨d1, d2⟩ := drop_load h5 (n := 2) (by omega)
    have h6 : b.loadN (off + 2) (bs.drop 2).length = some (bc (bs.drop 2)) := by rw [List.length_drop]; exact d2
    obtain ⟨d3, _⟩ := drop_load h6 (n := bs.length - 6) (by rw [List.length_drop]; omega)
    exact d3
theorem wnewBlk2_n (v : CV) : (newBlk [v, .bool false]).n = 2 := by rw [wnewBlk_n]; rfl
theorem rof_run (hσ : ∀ f a h, σ f a h = none) {h : H} {id : Nat} {v0 : CV} {bs : List Nat} (B : BSl h v0 (bc bs)) (hRB : 23 ≤ bs.length → RB h id v0 bs) (hid : id < h.nx) (hb : ∀ b ∈ bs, b < 256) (hlen : bs.length ≤ 9000) : OfDR h id bs ((lim Tryd.prog σ).call 11 [v0] h) := by
  have hσ' : ∀ f a h, told f = false → σ f a h = none := fun f a h _ => hσ f a h
  obtain ⟨Q, hQ⟩ : ∃ Q, Q = OfDR h id bs := ⟨_, rfl⟩
  rw [← hQ]
  rw [call_eq (hσ _ _ _) fn_11 rfl rfl, Tryd.ntmps11, Tryd.results11]
  obtain ⟨zb, hzb⟩ : ∃ zb, zb = newBlk z6 := ⟨_, rfl⟩
  have zn : zb.n = 6 := by rw [hzb, wnewBlk_n]; rfl
  have zr : zb.ro = false := by rw [hzb, newBlk_ro]
  have hzb' : newBlk [CV.int .i64 0, .int .u64 0, .int .u64 0, .int .u64 0, .int .u64 0, .nils] = zb := hzb.symm
  obtain ⟨W0, hW0⟩ : ∃ X, X = h.lo.alloc (.cells zb) := ⟨_, rfl⟩
  have W0nx : W0.nx = h.nx + 1 := by rw [hW0]; rfl
  have W0z : W0.blk h.nx = some zb := by rw [hW0]; simp only [go_sem]
  have W0E : Ext h W0 := by rw [hW0]; exact (Ext.lo h).alloc' _
  have bl := B.len
  rw [bc_len] at bl
  have endZ : ∀ (Z : H) (E : Ext h Z) (hok : okD bs = false) (b' : Blk), Q (some (fin h (Z.put h.nx (.cells b')) (.tup [.agg z6, .bool false]))) := fun Z E hok b' => by
    rw [hQ]; exact rof_bad (E.put _ (Nat.le_refl _)) hok
  simp only [go_sem, hzb', ← hW0, W0nx, bl]
  by_cases hsm : bs.length < 23
  · have c0 : Int.ofNat bs.length < 23 := by simp; omega
    have hok : okD bs = false := by unfold okD preD; rw [decide_eq_false (by omega)]; rfl
    simp only [go_sem, hzb', ← hW0, W0nx, bl, c0, W0z, zr, zn]
    refine store_step (Q := Q) (L := z6) (by rw [zn]; rfl) rfl fun b' hn' hr' hl' hg' => ?_
    rw [zn] at hl'
    simp only [go_sem, hl']
    exact endZ W0 W0E hok b'
  have c0 : ¬ Int.ofNat bs.length < 23 := by simp; omega
  have hl23 : 23 ≤ bs.length := by omega
  obtain ⟨b0, hb0⟩ : ∃ b0, bs[0]? = some b0 := ⟨_, List.getElem?_eq_getElem (by omega)⟩
  obtain ⟨b1, hb1⟩ : ∃ b1, bs[1]? = some b1 := ⟨_, List.getElem?_eq_getElem (by omega)⟩
  have n0 : nth (bc bs) 0 = some (.int .u8 (Int.ofNat b0)) := by rw [nth_eq]; unfold bc; rw [List.getElem?_map, hb0]; rfl
  have n1 : nth (bc bs) 1 = some (.int .u8 (Int.ofNat b1)) := by rw [nth_eq]; unfold bc; rw [List.getElem?_map, hb1]; rfl
  obtain ⟨i0, o0, k0, a0, kb0, g0⟩ := bsl_at (B.ext W0E) n0
  obtain ⟨i1, o1, k1, a1, kb1, g1⟩ := bsl_at (B.ext W0E) n1
  have a0 : ∀ kd, indexAddrT Tryd.prog 24 v0 (.int kd 0) = some (.ptr i0 (o0 + 0)) := a0
  rw [Nat.add_zero] at g0
  have a1 : ∀ kd, indexAddrT Tryd.prog 24 v0 (.int kd 1) = some (.ptr i1 (o1 + 1)) := a1
  have ne71 : (Int.ofNat b0 = 71) = (b0 = 71) := propext ⟨fun e => Int.ofNat.inj e, fun e => by rw [e]; rfl⟩
  have ne80 : (Int.ofNat b1 = 80) = (b1 = 80) := propext ⟨fun e => Int.ofNat.inj e, fun e => by rw [e]; rfl⟩
  by_cases e71 : b0 = 71
  case neg =>
    have hok : okD bs = false := by unfold okD preD; rw [hb0]; simp [e71]
    simp only [go_sem, hzb', ← hW0, W0nx, bl, c0, W0z, zr, zn, a0, kb0, g0, ne71, ne80, e71]
    refine store_step (Q := Q) (L := z6) (by rw [zn]; rfl) rfl fun b' hn' hr' hl' hg' => ?_
    rw [zn] at hl'
    simp only [go_sem, hl']
    exact endZ W0 W0E hok b'
  have t71 : (b0 = 71) = True := eq_true e71
  by_cases e80 : b1 = 80
  case neg =>
    have hok : okD bs = false := by unfold okD preD; rw [hb1]; simp [e80]
    simp only [go_sem, hzb', ← hW0, W0nx, bl, c0, W0z, zr, zn, a0, kb0, g0, ne71, ne80, t71, a1, kb1, g1, e80]
    refine store_step (Q := Q) (L := z6) (by rw [zn]; rfl) rfl fun b' hn' hr' hl' hg' => ?_
    rw [zn] at hl'
    simp only [go_sem, hl']
    exact endZ W0 W0E hok b'
  have t80 : (b1 = 80) = True := eq_true e80
  have hpre : preD bs = true := by unfold preD; rw [hb0, hb1, e71, e80, decide_eq_true hl23]; rfl
  have R0 := hRB hl23
  obtain ⟨va, qa, RA⟩ := R0.cut2 hl23 W0
  have w4 : IntKind.wrap .i64 (Int.ofNat bs.length - 4) = Int.ofNat (bs.length - 4) := by
    rw [wrap_i64 (by simp; omega) (by simp; omega)]; simp; omega
  have oa := RA.one.1
  have oac := RA.one.2
  obtain ⟨W1, hW1⟩ : ∃ X, X = W0.alloc (.cells (newBlk [va, .bool false])) := ⟨_, rfl⟩
  obtain ⟨W2, hW2⟩ : ∃ X, X = W1.alloc (.cells zb) := ⟨_, rfl⟩
  have W1nx : W1.nx = h.nx + 2 := by rw [hW1]; simp only [go_sem]; omega
  have W1E : Ext h W1 := by rw [hW1]; exact W0E.alloc' _
  have W2E : Ext h W2 := by rw [hW2]; exact W1E.alloc' _
  have W2nx : W2.nx = h.nx + 3 := by rw [hW2]; simp only [go_sem]; omega
  have W1r : W1.blk (h.nx + 1) = some (newBlk [va, .bool false]) := by rw [hW1]; exact alloc_blk_same _ _ _ W0nx.symm
  have W1z : W1.blk h.nx = some zb := by rw [hW1, alloc_blk_ne _ _ _ (by omega)]; exact W0z
  have W2r : W2.blk (h.nx + 1) = some (newBlk [va, .bool false]) := by rw [hW2, alloc_blk_ne _ _ _ (by omega)]; exact W1r
  have W2z : W2.blk h.nx = some zb := by rw [hW2, alloc_blk_ne _ _ _ (by omega)]; exact W1z
  have W2p : W2.blk (h.nx + 2) = some zb := by rw [hW2]; exact alloc_blk_same _ _ _ W1nx.symm
  simp only [go_sem, hzb', ← hW0, W0nx, bl, c0, W0z, zr, zn, a0, kb0, g0, ne71, ne80, t71, a1, kb1, g1, t80, w4, qa, oa, oac, ← hW1, W1nx, ← hW2, W2p]
  refine store_step (Q := Q) (L := z6) (by rw [zn]; rfl) rfl fun p1 pn1 pr1 pl1 pg1 => ?_
  rw [zn] at pn1
  rw [zr] at pr1
  obtain ⟨Z1, hZ1⟩ : ∃ Z, Z = W2.put (h.nx + 2) (.cells p1) := ⟨_, rfl⟩
  have RW2 : RrAt W2 (h.nx + 1) id (d1D bs).1 (d1D bs).2 := ⟨by omega, by omega, _, va, W2r, newBlk_ro _, wnewBlk2_n _, by rw [newBlk_get]; rfl, by rw [newBlk_get]; rfl, RA.mono W2E.nx (W2E.blk hid)⟩
  have T1 : Dt h Z1 (h.nx + 1) id (h.nx + 2) (d1D bs) p1 zb := by
    rw [hZ1]; exact (⟨RW2, W2E, W2p, W2z, by omega, by omega, by omega, by omega, by omega⟩ : Dt h W2 (h.nx + 1) id (h.nx + 2) (d1D bs) zb zb).put p1
  have zg3 : p1.get 3 = some (.int .u64 0) := pg1 3
  have zg4 : p1.get 4 = some (.int .u64 0) := pg1 4
  have zg5 : p1.get 5 = some .nils := pg1 5
  have B1 : dby (d1D bs) := fun b hm => hb b (List.mem_of_mem_drop (List.mem_of_mem_take hm))
  obtain ⟨Y2, q2, R2, F2, _⟩ := rnum_s hσ' T1.R B1 (n := 1) rfl
  have q2 : (lim Tryd.prog σ).call 46 [.ptr (h.nx + 1) 0, .int .i64 1] Z1 = some (u64 (dnm (d1D bs) 1), some Y2) := q2
  have R2 : RrAt Y2 (h.nx + 1) id (d2D bs).1 (d2D bs).2 := R2
  have S2 : Dt h Y2 (h.nx + 1) id (h.nx + 2) (d2D bs) p1 zb := T1.call R2 F2
  obtain ⟨p2, hp2⟩ : ∃ p, p = p1.st 0 (.int .i64 (kD bs)) := ⟨_, rfl⟩
  have pn2 : p2.n = 6 := by rw [hp2, st_n]; exact pn1
  have pr2 : p2.ro = false := by rw [hp2, st_ro]; exact pr1
  obtain ⟨Z2, hZ2⟩ : ∃ Z, Z = Y2.put (h.nx + 2) (.cells p2) := ⟨_, rfl⟩
  have T2 : Dt h Z2 (h.nx + 1) id (h.nx + 2) (d2D bs) p2 zb := by rw [hZ2]; exact S2.put p2
  have Yp2 := S2.p
  have Zp2 := T2.p
  have B2 : dby (d2D bs) := B1.nx 1
  obtain ⟨Y3, q3, R3, F3, _⟩ := rnum_s hσ' T2.R B2 (n := 8) rfl
  have q3 : (lim Tryd.prog σ).call 46 [.ptr (h.nx + 1) 0, .int .i64 8] Z2 = some (u64 (dnm (d2D bs) 8), some Y3) := q3
  have R3 : RrAt Y3 (h.nx + 1) id (d3D bs).1 (d3D bs).2 := R3
  have S3 : Dt h Y3 (h.nx + 1) id (h.nx + 2) (d3D bs) p2 zb := T2.call R3 F3
  obtain ⟨p3, hp3⟩ : ∃ p, p = p2.st 1 (u64 (dnm (d2D bs) 8)) := ⟨_, rfl⟩
  have pn3 : p3.n = 6 := by rw [hp3, st_n]; exact pn2
  have pr3 : p3.ro = false := by rw [hp3, st_ro]; exact pr2
  obtain ⟨Z3, hZ3⟩ : ∃ Z, Z = Y3.put (h.nx + 2) (.cells p3) := ⟨_, rfl⟩
  have T3 : Dt h Z3 (h.nx + 1) id (h.nx + 2) (d3D bs) p3 zb := by rw [hZ3]; exact S3.put p3
  have Yp3 := S3.p
  have Zp3 := T3.p
  have B3 : dby (d3D bs) := B2.nx 8
  obtain ⟨Y4, q4, R4, F4, _⟩ := rnum_s hσ' T3.R B3 (n := 8) rfl
  have q4 : (lim Tryd.prog σ).call 46 [.ptr (h.nx + 1) 0, .int .i64 8] Z3 = some (u64 (dnm (d3D bs) 8), some Y4) := q4
  have R4 : RrAt Y4 (h.nx + 1) id (d4D bs).1 (d4D bs).2 := R4
  have S4 : Dt h Y4 (h.nx + 1) id (h.nx + 2) (d4D bs) p3 zb := T3.call R4 F4
  obtain ⟨p4, hp4⟩ : ∃ p, p = p3.st 2 (u64 (dnm (d3D bs) 8)) := ⟨_, rfl⟩
  have pn4 : p4.n = 6 := by rw [hp4, st_n]; exact pn3
  have pr4 : p4.ro = false := by rw [hp4, st_ro]; exact pr3
  obtain ⟨Z4, hZ4⟩ : ∃ Z, Z = Y4.put (h.nx + 2) (.cells p4) := ⟨_, rfl⟩
  have T4 : Dt h Z4 (h.nx + 1) id (h.nx + 2) (d4D bs) p4 zb := by rw [hZ4]; exact S4.put p4
  have Yp4 := S4.p
  have Zp4 := T4.p
  have B4 : dby (d4D bs) := B3.nx 8
  have klt : dnm (d1D bs) 1 < 256 := dnm_lt B1 1
  have k0D : 0 ≤ kD bs := Int.natCast_nonneg _
  have ck : ∀ W, convT Tryd.prog W 23 22 (u64 (dnm (d1D bs) 1)) = some (.val (.int .i64 (kD bs))) := fun W => by
    have e := cv_23_22 W .u64 (Int.ofNat (dnm (d1D bs) 1))
    rw [wrap_i64 (by simp) (by simp; omega)] at e
    exact e
  have p2g : p2.get 0 = some (.int .i64 (kD bs)) := by rw [hp2, st_get_same _ _ _ (by rw [pn1]; decide)]
  have p4g : p4.get 0 = some (.int .i64 (kD bs)) := by rw [hp4, st_get_ne _ _ _ _ (by decide), hp3, st_get_ne _ _ _ _ (by decide), p2g]
  by_cases k2 : kD bs = 2
  case neg =>
   by_cases k3 : kD bs = 3
   case neg =>
    have ea : ackK (kD bs) = false := by unfold ackK; simp [k2, k3]
    have ed : dataK (kD bs) = false := by unfold dataK; simp [k2]
    have s7e : d4D bs = d7D bs := by unfold d7D d6D d5D; simp [ea, ed]
    have T4 : Dt h Z4 (h.nx + 1) id (h.nx + 2) (d7D bs) p4 zb := s7e ▸ T4
    have B5 : dby (d5D bs) := by unfold d5D; simp only [ea]; exact B4
    have c0g : p4.get 0 = some (.int .i64 (kD bs)) := p4g
    have c1g : p4.get 1 = some (u64 (dnm (d2D bs) 8)) := by rw [hp4, st_get_ne _ _ _ _ (by decide), hp3, st_get_same _ _ _ (by rw [pn2]; decide)]
    have c2g : p4.get 2 = some (u64 (dnm (d3D bs) 8)) := by rw [hp4, st_get_same _ _ _ (by rw [pn3]; decide)]
    have c3g : p4.get 3 = some (u64 0) := by rw [hp4, st_get_ne _ _ _ _ (by decide), hp3, st_get_ne _ _ _ _ (by decide), hp2, st_get_ne _ _ _ _ (by decide)]; exact zg3
    have c4g : p4.get 4 = some (u64 0) := by rw [hp4, st_get_ne _ _ _ _ (by decide), hp3, st_get_ne _ _ _ _ (by decide), hp2, st_get_ne _ _ _ _ (by decide)]; exact zg4
    have c5g : p4.get 5 = some .nils := by rw [hp4, st_get_ne _ _ _ _ (by decide), hp3, st_get_ne _ _ _ _ (by decide), hp2, st_get_ne _ _ _ _ (by decide)]; exact zg5
    have dn : (lim Tryd.prog σ).call 48 [.ptr (h.nx + 1) 0] Z4 = some (.bool (endD (d7D bs)), none) := done_run hσ' T4.R
    have Zz := T4.z
    have BV9 : BSl Z4 (.nils) (bc (pD bs .nils).xs) := .inl ⟨by unfold pD; simp [ed, bc], rfl⟩
    cases ee : endD (d7D bs)
    · rw [ee] at dn
      have hok : okD bs = false := by unfold okD; simp [ee]
      simp only [go_sem, hzb', ← hZ1, zr, zn, pn1, pr1, q2, ck, ← hp2, ← hZ2, q3, ← hp3, ← hZ3, q4, ← hp4, ← hZ4, Yp2, Zp2, Yp3, Zp3, Yp4, Zp4, pn2, pr2, pn3, pr3, pn4, pr4, p4g, k2, k3, c0g, c1g, c2g, c3g, c4g, c5g]
      refine cnd_go (Q := Q) (by kernel_rfl) ?_
      simp only [go_sem, hzb', ← hZ1, zr, zn, pn1, pr1, q2, ck, ← hp2, ← hZ2, q3, ← hp3, ← hZ3, q4, ← hp4, ← hZ4, Yp2, Zp2, Yp3, Zp3, Yp4, Zp4, pn2, pr2, pn3, pr3, pn4, pr4, p4g, k2, k3, c0g, c1g, c2g, c3g, c4g, c5g, dn, Zz]
      refine store_step (Q := Q) (L := z6) (by rw [zn]; rfl) rfl fun b' hn' hr' hl' hg' => ?_
      rw [zn] at hl'
      simp only [go_sem, hl']
      exact endZ Z4 T4.E hok b'
    rw [ee] at dn
    have csq : (pD bs (.nils)).cs = [.int .i64 (kD bs), u64 (dnm (d2D bs) 8), u64 (dnm (d3D bs) 8), u64 (0), u64 (0), .nils] := by unfold pD Pk.cs; simp only [ea, ed]; rfl
    have pok : PkOk (pD bs (.nils)) := by
      have k8 : (256 : Nat) ^ 8 = 2 ^ 64 := by decide
      have h2 := dnm_lt B2 8
      have h3 := dnm_lt B3 8
      have h4 := dnm_lt B4 8
      have h5 := dnm_lt B5 8
      rw [k8] at h2 h3 h4 h5
      have hif : ∀ (c : Bool) (n : Nat), n < 2 ^ 64 → (if c = true then n else 0) < 2 ^ 64 := fun c n hn => by
        cases c
        · exact (by decide : 0 < 2 ^ 64)
        · exact hn
      exact ⟨h2, h3, hif _ _ h4, hif _ _ h5⟩
    have my : (lim Tryd.prog σ).call 49 [.agg (pD bs (.nils)).cs] Z4 = some (.bool (mayV (pD bs .nils)), none) := rmay_run hσ' (pD bs (.nils)) k0D BV9
    rw [csq] at my
    cases hm : mayV (pD bs .nils)
    · rw [hm] at my
      have hok : okD bs = false := by unfold okD; simp [hm]
      simp only [go_sem, hzb', ← hZ1, zr, zn, pn1, pr1, q2, ck, ← hp2, ← hZ2, q3, ← hp3, ← hZ3, q4, ← hp4, ← hZ4, Yp2, Zp2, Yp3, Zp3, Yp4, Zp4, pn2, pr2, pn3, pr3, pn4, pr4, p4g, k2, k3, c0g, c1g, c2g, c3g, c4g, c5g]
      refine cnd_go (Q := Q) (by kernel_rfl) ?_
      simp only [go_sem, hzb', ← hZ1, zr, zn, pn1, pr1, q2, ck, ← hp2, ← hZ2, q3, ← hp3, ← hZ3, q4, ← hp4, ← hZ4, Yp2, Zp2, Yp3, Zp3, Yp4, Zp4, pn2, pr2, pn3, pr3, pn4, pr4, p4g, k2, k3, c0g, c1g, c2g, c3g, c4g, c5g, dn, Zz, my]
      refine store_step (Q := Q) (L := z6) (by rw [zn]; rfl) rfl fun b' hn' hr' hl' hg' => ?_
      rw [zn] at hl'
      simp only [go_sem, hl']
      exact endZ Z4 T4.E hok b'
    rw [hm] at my
    obtain ⟨v10, Y10, e1, E10, B10⟩ := pack_run hσ' hσ (pD bs (.nils)) hm pok BV9 (pD_xs hb _)
    rw [csq] at e1
    have E9 : Ext h Y10 := T4.E.trans E10
    have Y10p : Y10.blk (h.nx + 2) = some p4 := (E10.blk T4.pn).trans T4.p
    have Y10z : Y10.blk h.nx = some zb := (E10.blk (by have := T4.pn; omega)).trans T4.z
    have st1 := B10.str (pack_byte' (pD bs (.nils)) (pD_xs hb _))
    have st2 := (B.ext E9).str hb
    have st0 := (B.ext T4.E).str hb
    have Zp := T4.p
    have bq0 := bsl_bq B
    have ce : ∀ t xo yo, binT Tryd.prog .neq t xo yo (.str (pack (pD bs (.nils)))) (.str bs) = some (.bool (!(pack (pD bs (.nils)) == bs))) := fun t xo yo => rfl
    have sb : (pack (pD bs (.nils)) == bs) = decide (pack (pD bs .nils) = bs) := by
      show (pack (pD bs .nils) == bs) = _
      rw [Bool.eq_iff_iff]; simp
    rw [sb] at ce
    simp only [go_sem, hzb', ← hZ1, zr, zn, pn1, pr1, q2, ck, ← hp2, ← hZ2, q3, ← hp3, ← hZ3, q4, ← hp4, ← hZ4, Yp2, Zp2, Yp3, Zp3, Yp4, Zp4, pn2, pr2, pn3, pr3, pn4, pr4, p4g, k2, k3, c0g, c1g, c2g, c3g, c4g, c5g]
    refine cnd_go (Q := Q) (by kernel_rfl) ?_
    by_cases hq : pack (pD bs .nils) = bs
    · have hok : okD bs = true := by unfold okD; simp [hpre, ee, hm, hq]
      simp only [go_sem, hzb', ← hZ1, zr, zn, pn1, pr1, q2, ck, ← hp2, ← hZ2, q3, ← hp3, ← hZ3, q4, ← hp4, ← hZ4, Yp2, Zp2, Yp3, Zp3, Yp4, Zp4, pn2, pr2, pn3, pr3, pn4, pr4, p4g, k2, k3, c0g, c1g, c2g, c3g, c4g, c5g, dn, Zz, my, e1, st1, st2, ce, hq, Y10p, Y10z]
      refine cnd_go (Q := Q) (by kernel_rfl) ?_
      simp only [go_sem, hzb', ← hZ1, zr, zn, pn1, pr1, q2, ck, ← hp2, ← hZ2, q3, ← hp3, ← hZ3, q4, ← hp4, ← hZ4, Yp2, Zp2, Yp3, Zp3, Yp4, Zp4, pn2, pr2, pn3, pr3, pn4, pr4, p4g, k2, k3, c0g, c1g, c2g, c3g, c4g, c5g, dn, Zz, my, e1, bq0, Bool.cond_self, st0, st1, st2, ce, hq, Y10p, Y10z]
      rw [cond_al (i := 11) (d := [])]
      rotate_left
      · kernel_rfl
      simp only [go_sem, hzb', ← hZ1, zr, zn, pn1, pr1, q2, ck, ← hp2, ← hZ2, q3, ← hp3, ← hZ3, q4, ← hp4, ← hZ4, Yp2, Zp2, Yp3, Zp3, Yp4, Zp4, pn2, pr2, pn3, pr3, pn4, pr4, p4g, k2, k3, c0g, c1g, c2g, c3g, c4g, c5g, dn, Zz, my, e1, bq0, Bool.cond_self, st0, st1, st2, ce, hq, Y10p, Y10z]
      rw [cond_al (i := 1) (d := [10])]
      rotate_left
      · kernel_rfl
      simp only [go_sem, hzb', ← hZ1, zr, zn, pn1, pr1, q2, ck, ← hp2, ← hZ2, q3, ← hp3, ← hZ3, q4, ← hp4, ← hZ4, Yp2, Zp2, Yp3, Zp3, Yp4, Zp4, pn2, pr2, pn3, pr3, pn4, pr4, p4g, k2, k3, c0g, c1g, c2g, c3g, c4g, c5g, dn, Zz, my, e1, bq0, Bool.cond_self, st0, st1, st2, ce, hq, Y10p, Y10z]
      rw [cond_al (i := 5) (d := [10])]
      rotate_left
      · kernel_rfl
      rw [cond_al (i := 9) (d := [10])]
      rotate_left
      · kernel_rfl
      rw [cond_al (i := 4) (d := [10])]
      rotate_left
      · kernel_rfl
      simp only [go_sem, hzb', ← hZ1, zr, zn, pn1, pr1, q2, ck, ← hp2, ← hZ2, q3, ← hp3, ← hZ3, q4, ← hp4, ← hZ4, Yp2, Zp2, Yp3, Zp3, Yp4, Zp4, pn2, pr2, pn3, pr3, pn4, pr4, p4g, k2, k3, c0g, c1g, c2g, c3g, c4g, c5g, dn, Zz, my, e1, bq0, Bool.cond_self, st0, st1, st2, ce, hq, Y10p, Y10z]
      refine store_step (Q := Q) (L := [.int .i64 (kD bs), u64 (dnm (d2D bs) 8), u64 (dnm (d3D bs) 8), u64 (0), u64 (0), .nils]) (by rw [zn]; rfl) (rfl) fun b' hn' hr' hl' hg' => ?_
      rw [zn] at hl'
      simp only [go_sem, hl']
      rw [hQ]
      have fz := rof_good (id := id) (v := .nils) (E9.put (.cells b') (Nat.le_refl h.nx)) hok (bsl_put (BV9.ext E10) (by intro i off l c e; first | (cases e; done) | (have := fr7 i off l c e; omega)) _) (by intro i off l c e; first | (cases e; done) | (exact fr7 i off l c e)) hid
      rw [csq] at fz
      exact fz
    · have hok : okD bs = false := by unfold okD; simp [hq]
      simp only [go_sem, hzb', ← hZ1, zr, zn, pn1, pr1, q2, ck, ← hp2, ← hZ2, q3, ← hp3, ← hZ3, q4, ← hp4, ← hZ4, Yp2, Zp2, Yp3, Zp3, Yp4, Zp4, pn2, pr2, pn3, pr3, pn4, pr4, p4g, k2, k3, c0g, c1g, c2g, c3g, c4g, c5g, dn, Zz, my, e1, st1, st2, ce, hq, Y10p, Y10z]
      refine cnd_go (Q := Q) (by kernel_rfl) ?_
      simp only [go_sem, hzb', ← hZ1, zr, zn, pn1, pr1, q2, ck, ← hp2, ← hZ2, q3, ← hp3, ← hZ3, q4, ← hp4, ← hZ4, Yp2, Zp2, Yp3, Zp3, Yp4, Zp4, pn2, pr2, pn3, pr3, pn4, pr4, p4g, k2, k3, c0g, c1g, c2g, c3g, c4g, c5g, dn, Zz, my, e1, bq0, Bool.cond_self, st0, st1, st2, ce, hq, Y10p, Y10z]
      rw [cond_al (i := 11) (d := [])]
      rotate_left
      · kernel_rfl
      simp only [go_sem, hzb', ← hZ1, zr, zn, pn1, pr1, q2, ck, ← hp2, ← hZ2, q3, ← hp3, ← hZ3, q4, ← hp4, ← hZ4, Yp2, Zp2, Yp3, Zp3, Yp4, Zp4, pn2, pr2, pn3, pr3, pn4, pr4, p4g, k2, k3, c0g, c1g, c2g, c3g, c4g, c5g, dn, Zz, my, e1, bq0, Bool.cond_self, st0, st1, st2, ce, hq, Y10p, Y10z]
      rw [cond_al (i := 1) (d := [10])]
      rotate_left
      · kernel_rfl
      simp only [go_sem, hzb', ← hZ1, zr, zn, pn1, pr1, q2, ck, ← hp2, ← hZ2, q3, ← hp3, ← hZ3, q4, ← hp4, ← hZ4, Yp2, Zp2, Yp3, Zp3, Yp4, Zp4, pn2, pr2, pn3, pr3, pn4, pr4, p4g, k2, k3, c0g, c1g, c2g, c3g, c4g, c5g, dn, Zz, my, e1, bq0, Bool.cond_self, st0, st1, st2, ce, hq, Y10p, Y10z]
      rw [cond_al (i := 5) (d := [10])]
      rotate_left
      · kernel_rfl
      rw [cond_al (i := 9) (d := [10])]
      rotate_left
      · kernel_rfl
      rw [cond_al (i := 4) (d := [10])]
      rotate_left
      · kernel_rfl
      simp only [go_sem, hzb', ← hZ1, zr, zn, pn1, pr1, q2, ck, ← hp2, ← hZ2, q3, ← hp3, ← hZ3, q4, ← hp4, ← hZ4, Yp2, Zp2, Yp3, Zp3, Yp4, Zp4, pn2, pr2, pn3, pr3, pn4, pr4, p4g, k2, k3, c0g, c1g, c2g, c3g, c4g, c5g, dn, Zz, my, e1, bq0, Bool.cond_self, st0, st1, st2, ce, hq, Y10p, Y10z]
      refine store_step (Q := Q) (L := z6) (by rw [zn]; rfl) rfl fun b' hn' hr' hl' hg' => ?_
      rw [zn] at hl'
      simp only [go_sem, hl']
      exact endZ Y10 E9 hok b'
   have k3t : (kD bs = 3) = True := eq_true k3
   have k3f : 0 = 0 := rfl
   have ea : ackK (kD bs) = true := by unfold ackK; simp [k3]
   have ed : dataK (kD bs) = false := by unfold dataK; simp [k2]
   obtain ⟨Y5, q5, R5, F5, _⟩ := rnum_s hσ' T4.R B4 (n := 8) rfl
   have q5 : (lim Tryd.prog σ).call 46 [.ptr (h.nx + 1) 0, .int .i64 8] Z4 = some (u64 (dnm (d4D bs) 8), some Y5) := q5
   have s5e : dnx (d4D bs) 8 = d5D bs := by unfold d5D; simp [ea]
   have R5 : RrAt Y5 (h.nx + 1) id (d5D bs).1 (d5D bs).2 := by rw [← s5e]; exact R5
   have S5 : Dt h Y5 (h.nx + 1) id (h.nx + 2) (d5D bs) p4 zb := T4.call R5 F5
   obtain ⟨p5, hp5⟩ : ∃ p, p = p4.st 3 (u64 (dnm (d4D bs) 8)) := ⟨_, rfl⟩
   have pn5 : p5.n = 6 := by rw [hp5, st_n]; exact pn4
   have pr5 : p5.ro = false := by rw [hp5, st_ro]; exact pr4
   obtain ⟨Z5, hZ5⟩ : ∃ Z, Z = Y5.put (h.nx + 2) (.cells p5) := ⟨_, rfl⟩
   have T5 : Dt h Z5 (h.nx + 1) id (h.nx + 2) (d5D bs) p5 zb := by rw [hZ5]; exact S5.put p5
   have Yp5 := S5.p
   have Zp5 := T5.p
   have B5 : dby (d5D bs) := by unfold d5D; simp only [ea]; exact B4.nx 8
   have s7e : d5D bs = d7D bs := by unfold d7D d6D; simp [ed]
   have T5 : Dt h Z5 (h.nx + 1) id (h.nx + 2) (d7D bs) p5 zb := s7e ▸ T5
   have c0g : p5.get 0 = some (.int .i64 (kD bs)) := by rw [hp5, st_get_ne _ _ _ _ (by decide)]; exact p4g
   have c1g : p5.get 1 = some (u64 (dnm (d2D bs) 8)) := by rw [hp5, st_get_ne _ _ _ _ (by decide), hp4, st_get_ne _ _ _ _ (by decide), hp3, st_get_same _ _ _ (by rw [pn2]; decide)]
   have c2g : p5.get 2 = some (u64 (dnm (d3D bs) 8)) := by rw [hp5, st_get_ne _ _ _ _ (by decide), hp4, st_get_same _ _ _ (by rw [pn3]; decide)]
   have c3g : p5.get 3 = some (u64 (dnm (d4D bs) 8)) := by rw [hp5, st_get_same _ _ _ (by rw [pn4]; decide)]
   have c4g : p5.get 4 = some (u64 0) := by rw [hp5, st_get_ne _ _ _ _ (by decide), hp4, st_get_ne _ _ _ _ (by decide), hp3, st_get_ne _ _ _ _ (by decide), hp2, st_get_ne _ _ _ _ (by decide)]; exact zg4
   have c5g : p5.get 5 = some .nils := by rw [hp5, st_get_ne _ _ _ _ (by decide), hp4, st_get_ne _ _ _ _ (by decide), hp3, st_get_ne _ _ _ _ (by decide), hp2, st_get_ne _ _ _ _ (by decide)]; exact zg5
   have dn : (lim Tryd.prog σ).call 48 [.ptr (h.nx + 1) 0] Z5 = some (.bool (endD (d7D bs)), none) := done_run hσ' T5.R
   have Zz := T5.z
   have BV9 : BSl Z5 (.nils) (bc (pD bs .nils).xs) := .inl ⟨by unfold pD; simp [ed, bc], rfl⟩
   cases ee : endD (d7D bs)
   · rw [ee] at dn
     have hok : okD bs = false := by unfold okD; simp [ee]
     simp only [go_sem, hzb', ← hZ1, zr, zn, pn1, pr1, q2, ck, ← hp2, ← hZ2, q3, ← hp3, ← hZ3, q4, ← hp4, ← hZ4, Yp2, Zp2, Yp3, Zp3, Yp4, Zp4, pn2, pr2, pn3, pr3, pn4, pr4, p4g, q5, ← hp5, ← hZ5, Yp5, Zp5, pn5, pr5, k2, k3t, c0g, c1g, c2g, c3g, c4g, c5g]
     refine cnd_go (Q := Q) (by kernel_rfl) ?_
     simp only [go_sem, hzb', ← hZ1, zr, zn, pn1, pr1, q2, ck, ← hp2, ← hZ2, q3, ← hp3, ← hZ3, q4, ← hp4, ← hZ4, Yp2, Zp2, Yp3, Zp3, Yp4, Zp4, pn2, pr2, pn3, pr3, pn4, pr4, p4g, q5, ← hp5, ← hZ5, Yp5, Zp5, pn5, pr5, k2, k3t, c0g, c1g, c2g, c3g, c4g, c5g, dn, Zz]
     refine store_step (Q := Q) (L := z6) (by rw [zn]; rfl) rfl fun b' hn' hr' hl' hg' => ?_
     rw [zn] at hl'
     simp only [go_sem, hl']
     exact endZ Z5 T5.E hok b'
   rw [ee] at dn
   have csq : (pD bs (.nils)).cs = [.int .i64 (kD bs), u64 (dnm (d2D bs) 8), u64 (dnm (d3D bs) 8), u64 (dnm (d4D bs) 8), u64 (0), .nils] := by unfold pD Pk.cs; simp only [ea, ed]; rfl
   have pok : PkOk (pD bs (.nils)) := by
     have k8 : (256 : Nat) ^ 8 = 2 ^ 64 := by decide
     have h2 := dnm_lt B2 8
     have h3 := dnm_lt B3 8
     have h4 := dnm_lt B4 8
     have h5 := dnm_lt B5 8
     rw [k8] at h2 h3 h4 h5
     have hif : ∀ (c : Bool) (n : Nat), n < 2 ^ 64 → (if c = true then n else 0) < 2 ^ 64 := fun c n hn => by
       cases c
       · exact (by decide : 0 < 2 ^ 64)
       · exact hn
     exact ⟨h2, h3, hif _ _ h4, hif _ _ h5⟩
   have my : (lim Tryd.prog σ).call 49 [.agg (pD bs (.nils)).cs] Z5 = some (.bool (mayV (pD bs .nils)), none) := rmay_run hσ' (pD bs (.nils)) k0D BV9
   rw [csq] at my
   cases hm : mayV (pD bs .nils)
   · rw [hm] at my
     have hok : okD bs = false := by unfold okD; simp [hm]
     simp only [go_sem, hzb', ← hZ1, zr, zn, pn1, pr1, q2, ck, ← hp2, ← hZ2, q3, ← hp3, ← hZ3, q4, ← hp4, ← hZ4, Yp2, Zp2, Yp3, Zp3, Yp4, Zp4, pn2, pr2, pn3, pr3, pn4, pr4, p4g, q5, ← hp5, ← hZ5, Yp5, Zp5, pn5, pr5, k2, k3t, c0g, c1g, c2g, c3g, c4g, c5g]
     refine cnd_go (Q := Q) (by kernel_rfl) ?_
     simp only [go_sem, hzb', ← hZ1, zr, zn, pn1, pr1, q2, ck, ← hp2, ← hZ2, q3, ← hp3, ← hZ3, q4, ← hp4, ← hZ4, Yp2, Zp2, Yp3, Zp3, Yp4, Zp4, pn2, pr2, pn3, pr3, pn4, pr4, p4g, q5, ← hp5, ← hZ5, Yp5, Zp5, pn5, pr5, k2, k3t, c0g, c1g, c2g, c3g, c4g, c5g, dn, Zz, my]
     refine store_step (Q := Q) (L := z6) (by rw [zn]; rfl) rfl fun b' hn' hr' hl' hg' => ?_
     rw [zn] at hl'
     simp only [go_sem, hl']
     exact endZ Z5 T5.E hok b'
   rw [hm] at my
   obtain ⟨v10, Y10, e1, E10, B10⟩ := pack_run hσ' hσ (pD bs (.nils)) hm pok BV9 (pD_xs hb _)
   rw [csq] at e1
   have E9 : Ext h Y10 := T5.E.trans E10
   have Y10p : Y10.blk (h.nx + 2) = some p5 := (E10.blk T5.pn).trans T5.p
   have Y10z : Y10.blk h.nx = some zb := (E10.blk (by have := T5.pn; omega)).trans T5.z
   have st1 := B10.str (pack_byte' (pD bs (.nils)) (pD_xs hb _))
   have st2 := (B.ext E9).str hb
   have st0 := (B.ext T5.E).str hb
   have Zp := T5.p
   have bq0 := bsl_bq B
   have ce : ∀ t xo yo, binT Tryd.prog .neq t xo yo (.str (pack (pD bs (.nils)))) (.str bs) = some (.bool (!(pack (pD bs (.nils)) == bs))) := fun t xo yo => rfl
   have sb : (pack (pD bs (.nils)) == bs) = decide (pack (pD bs .nils) = bs) := by
     show (pack (pD bs .nils) == bs) = _
     rw [Bool.eq_iff_iff]; simp
   rw [sb] at ce
   simp only [go_sem, hzb', ← hZ1, zr, zn, pn1, pr1, q2, ck, ← hp2, ← hZ2, q3, ← hp3, ← hZ3, q4, ← hp4, ← hZ4, Yp2, Zp2, Yp3, Zp3, Yp4, Zp4, pn2, pr2, pn3, pr3, pn4, pr4, p4g, q5, ← hp5, ← hZ5, Yp5, Zp5, pn5, pr5, k2, k3t, c0g, c1g, c2g, c3g, c4g, c5g]
   refine cnd_go (Q := Q) (by kernel_rfl) ?_
   by_cases hq : pack (pD bs .nils) = bs
   · have hok : okD bs = true := by unfold okD; simp [hpre, ee, hm, hq]
     simp only [go_sem, hzb', ← hZ1, zr, zn, pn1, pr1, q2, ck, ← hp2, ← hZ2, q3, ← hp3, ← hZ3, q4, ← hp4, ← hZ4, Yp2, Zp2, Yp3, Zp3, Yp4, Zp4, pn2, pr2, pn3, pr3, pn4, pr4, p4g, q5, ← hp5, ← hZ5, Yp5, Zp5, pn5, pr5, k2, k3t, c0g, c1g, c2g, c3g, c4g, c5g, dn, Zz, my, e1, st1, st2, ce, hq, Y10p, Y10z]
     refine cnd_go (Q := Q) (by kernel_rfl) ?_
     simp only [go_sem, hzb', ← hZ1, zr, zn, pn1, pr1, q2, ck, ← hp2, ← hZ2, q3, ← hp3, ← hZ3, q4, ← hp4, ← hZ4, Yp2, Zp2, Yp3, Zp3, Yp4, Zp4, pn2, pr2, pn3, pr3, pn4, pr4, p4g, q5, ← hp5, ← hZ5, Yp5, Zp5, pn5, pr5, k2, k3t, c0g, c1g, c2g, c3g, c4g, c5g, dn, Zz, my, e1, bq0, Bool.cond_self, st0, st1, st2, ce, hq, Y10p, Y10z]
     rw [cond_al (i := 11) (d := [])]
     rotate_left
     · kernel_rfl
     simp only [go_sem, hzb', ← hZ1, zr, zn, pn1, pr1, q2, ck, ← hp2, ← hZ2, q3, ← hp3, ← hZ3, q4, ← hp4, ← hZ4, Yp2, Zp2, Yp3, Zp3, Yp4, Zp4, pn2, pr2, pn3, pr3, pn4, pr4, p4g, q5, ← hp5, ← hZ5, Yp5, Zp5, pn5, pr5, k2, k3t, c0g, c1g, c2g, c3g, c4g, c5g, dn, Zz, my, e1, bq0, Bool.cond_self, st0, st1, st2, ce, hq, Y10p, Y10z]
     rw [cond_al (i := 1) (d := [10])]
     rotate_left
     · kernel_rfl
     simp only [go_sem, hzb', ← hZ1, zr, zn, pn1, pr1, q2, ck, ← hp2, ← hZ2, q3, ← hp3, ← hZ3, q4, ← hp4, ← hZ4, Yp2, Zp2, Yp3, Zp3, Yp4, Zp4, pn2, pr2, pn3, pr3, pn4, pr4, p4g, q5, ← hp5, ← hZ5, Yp5, Zp5, pn5, pr5, k2, k3t, c0g, c1g, c2g, c3g, c4g, c5g, dn, Zz, my, e1, bq0, Bool.cond_self, st0, st1, st2, ce, hq, Y10p, Y10z]
     rw [cond_al (i := 5) (d := [10])]
     rotate_left
     · kernel_rfl
     rw [cond_al (i := 9) (d := [10])]
     rotate_left
     · kernel_rfl
     rw [cond_al (i := 4) (d := [10])]
     rotate_left
     · kernel_rfl
     simp only [go_sem, hzb', ← hZ1, zr, zn, pn1, pr1, q2, ck, ← hp2, ← hZ2, q3, ← hp3, ← hZ3, q4, ← hp4, ← hZ4, Yp2, Zp2, Yp3, Zp3, Yp4, Zp4, pn2, pr2, pn3, pr3, pn4, pr4, p4g, q5, ← hp5, ← hZ5, Yp5, Zp5, pn5, pr5, k2, k3t, c0g, c1g, c2g, c3g, c4g, c5g, dn, Zz, my, e1, bq0, Bool.cond_self, st0, st1, st2, ce, hq, Y10p, Y10z]
     refine store_step (Q := Q) (L := [.int .i64 (kD bs), u64 (dnm (d2D bs) 8), u64 (dnm (d3D bs) 8), u64 (dnm (d4D bs) 8), u64 (0), .nils]) (by rw [zn]; rfl) (rfl) fun b' hn' hr' hl' hg' => ?_
     rw [zn] at hl'
     simp only [go_sem, hl']
     rw [hQ]
     have fz := rof_good (id := id) (v := .nils) (E9.put (.cells b') (Nat.le_refl h.nx)) hok (bsl_put (BV9.ext E10) (by intro i off l c e; first | (cases e; done) | (have := fr7 i off l c e; omega)) _) (by intro i off l c e; first | (cases e; done) | (exact fr7 i off l c e)) hid
     rw [csq] at fz
     exact fz
   · have hok : okD bs = false := by unfold okD; simp [hq]
     simp only [go_sem, hzb', ← hZ1, zr, zn, pn1, pr1, q2, ck, ← hp2, ← hZ2, q3, ← hp3, ← hZ3, q4, ← hp4, ← hZ4, Yp2, Zp2, Yp3, Zp3, Yp4, Zp4, pn2, pr2, pn3, pr3, pn4, pr4, p4g, q5, ← hp5, ← hZ5, Yp5, Zp5, pn5, pr5, k2, k3t, c0g, c1g, c2g, c3g, c4g, c5g, dn, Zz, my, e1, st1, st2, ce, hq, Y10p, Y10z]
     refine cnd_go (Q := Q) (by kernel_rfl) ?_
     simp only [go_sem, hzb', ← hZ1, zr, zn, pn1, pr1, q2, ck, ← hp2, ← hZ2, q3, ← hp3, ← hZ3, q4, ← hp4, ← hZ4, Yp2, Zp2, Yp3, Zp3, Yp4, Zp4, pn2, pr2, pn3, pr3, pn4, pr4, p4g, q5, ← hp5, ← hZ5, Yp5, Zp5, pn5, pr5, k2, k3t, c0g, c1g, c2g, c3g, c4g, c5g, dn, Zz, my, e1, bq0, Bool.cond_self, st0, st1, st2, ce, hq, Y10p, Y10z]
     rw [cond_al (i := 11) (d := [])]
     rotate_left
     · kernel_rfl
     simp only [go_sem, hzb', ← hZ1, zr, zn, pn1, pr1, q2, ck, ← hp2, ← hZ2, q3, ← hp3, ← hZ3, q4, ← hp4, ← hZ4, Yp2, Zp2, Yp3, Zp3, Yp4, Zp4, pn2, pr2, pn3, pr3, pn4, pr4, p4g, q5, ← hp5, ← hZ5, Yp5, Zp5, pn5, pr5, k2, k3t, c0g, c1g, c2g, c3g, c4g, c5g, dn, Zz, my, e1, bq0, Bool.cond_self, st0, st1, st2, ce, hq, Y10p, Y10z]
     rw [cond_al (i := 1) (d := [10])]
     rotate_left
     · kernel_rfl
     simp only [go_sem, hzb', ← hZ1, zr, zn, pn1, pr1, q2, ck, ← hp2, ← hZ2, q3, ← hp3, ← hZ3, q4, ← hp4, ← hZ4, Yp2, Zp2, Yp3, Zp3, Yp4, Zp4, pn2, pr2, pn3, pr3, pn4, pr4, p4g, q5, ← hp5, ← hZ5, Yp5, Zp5, pn5, pr5, k2, k3t, c0g, c1g, c2g, c3g, c4g, c5g, dn, Zz, my, e1, bq0, Bool.cond_self, st0, st1, st2, ce, hq, Y10p, Y10z]
     rw [cond_al (i := 5) (d := [10])]
     rotate_left
     · kernel_rfl
     rw [cond_al (i := 9) (d := [10])]
     rotate_left
     · kernel_rfl
     rw [cond_al (i := 4) (d := [10])]
     rotate_left
     · kernel_rfl
     simp only [go_sem, hzb', ← hZ1, zr, zn, pn1, pr1, q2, ck, ← hp2, ← hZ2, q3, ← hp3, ← hZ3, q4, ← hp4, ← hZ4, Yp2, Zp2, Yp3, Zp3, Yp4, Zp4, pn2, pr2, pn3, pr3, pn4, pr4, p4g, q5, ← hp5, ← hZ5, Yp5, Zp5, pn5, pr5, k2, k3t, c0g, c1g, c2g, c3g, c4g, c5g, dn, Zz, my, e1, bq0, Bool.cond_self, st0, st1, st2, ce, hq, Y10p, Y10z]
     refine store_step (Q := Q) (L := z6) (by rw [zn]; rfl) rfl fun b' hn' hr' hl' hg' => ?_
     rw [zn] at hl'
     simp only [go_sem, hl']
     exact endZ Y10 E9 hok b'
  have k2t : (kD bs = 2) = True := eq_true k2
  have ea : ackK (kD bs) = true := by unfold ackK; simp [k2]
  have ed : dataK (kD bs) = true := by unfold dataK; simp [k2]
  obtain ⟨Y5, q5, R5, F5, _⟩ := rnum_s hσ' T4.R B4 (n := 8) rfl
  have q5 : (lim Tryd.prog σ).call 46 [.ptr (h.nx + 1) 0, .int .i64 8] Z4 = some (u64 (dnm (d4D bs) 8), some Y5) := q5
  have s5e : dnx (d4D bs) 8 = d5D bs := by unfold d5D; simp [ea]
  have R5 : RrAt Y5 (h.nx + 1) id (d5D bs).1 (d5D bs).2 := by rw [← s5e]; exact R5
  have S5 : Dt h Y5 (h.nx + 1) id (h.nx + 2) (d5D bs) p4 zb := T4.call R5 F5
  obtain ⟨p5, hp5⟩ : ∃ p, p = p4.st 3 (u64 (dnm (d4D bs) 8)) := ⟨_, rfl⟩
  have pn5 : p5.n = 6 := by rw [hp5, st_n]; exact pn4
  have pr5 : p5.ro = false := by rw [hp5, st_ro]; exact pr4
  obtain ⟨Z5, hZ5⟩ : ∃ Z, Z = Y5.put (h.nx + 2) (.cells p5) := ⟨_, rfl⟩
  have T5 : Dt h Z5 (h.nx + 1) id (h.nx + 2) (d5D bs) p5 zb := by rw [hZ5]; exact S5.put p5
  have Yp5 := S5.p
  have Zp5 := T5.p
  have B5 : dby (d5D bs) := by unfold d5D; simp only [ea]; exact B4.nx 8
  obtain ⟨Y6, q6, R6, F6, _⟩ := rnum_s hσ' T5.R B5 (n := 8) rfl
  have q6 : (lim Tryd.prog σ).call 46 [.ptr (h.nx + 1) 0, .int .i64 8] Z5 = some (u64 (dnm (d5D bs) 8), some Y6) := q6
  have s6e : dnx (d5D bs) 8 = d6D bs := by unfold d6D; simp [ed]
  have R6 : RrAt Y6 (h.nx + 1) id (d6D bs).1 (d6D bs).2 := by rw [← s6e]; exact R6
  have S6 : Dt h Y6 (h.nx + 1) id (h.nx + 2) (d6D bs) p5 zb := T5.call R6 F6
  obtain ⟨p6, hp6⟩ : ∃ p, p = p5.st 4 (u64 (dnm (d5D bs) 8)) := ⟨_, rfl⟩
  have pn6 : p6.n = 6 := by rw [hp6, st_n]; exact pn5
  have pr6 : p6.ro = false := by rw [hp6, st_ro]; exact pr5
  obtain ⟨Z6, hZ6⟩ : ∃ Z, Z = Y6.put (h.nx + 2) (.cells p6) := ⟨_, rfl⟩
  have T6 : Dt h Z6 (h.nx + 1) id (h.nx + 2) (d6D bs) p6 zb := by rw [hZ6]; exact S6.put p6
  have Yp6 := S6.p
  have Zp6 := T6.p
  have B6 : dby (d6D bs) := by unfold d6D; simp only [ed]; exact B5.nx 8
  obtain ⟨v7, Y7, q7, BV7, R7, F7, fr7⟩ := rblob_s hσ' T6.R B6
  have s7e : (rblobR (d6D bs).1 (d6D bs).2, rblobB (d6D bs).1 (d6D bs).2) = d7D bs := by unfold d7D; simp [ed]
  have R7 : RrAt Y7 (h.nx + 1) id (d7D bs).1 (d7D bs).2 := by rw [← s7e]; exact R7
  have S7 : Dt h Y7 (h.nx + 1) id (h.nx + 2) (d7D bs) p6 zb := T6.call R7 F7
  obtain ⟨p7, hp7⟩ : ∃ p, p = p6.st 5 v7 := ⟨_, rfl⟩
  have pn7 : p7.n = 6 := by rw [hp7, st_n]; exact pn6
  have pr7 : p7.ro = false := by rw [hp7, st_ro]; exact pr6
  obtain ⟨Z7, hZ7⟩ : ∃ Z, Z = Y7.put (h.nx + 2) (.cells p7) := ⟨_, rfl⟩
  have T7 : Dt h Z7 (h.nx + 1) id (h.nx + 2) (d7D bs) p7 zb := by rw [hZ7]; exact S7.put p7
  have Yp7 := S7.p
  have Zp7 := T7.p
  have ov := BV7.one.1
  have oc := BV7.one.2
  have BZ7 : BSl Z7 v7 (bc (rblobV (d6D bs).1 (d6D bs).2)) := by rw [hZ7]; exact bsl_put BV7 (fun i off l c e => by have := fr7 i off l c e; omega) _
  have xse : (pD bs .nils).xs = rblobV (d6D bs).1 (d6D bs).2 := by unfold pD; simp [ed]
  have c0g : p7.get 0 = some (.int .i64 (kD bs)) := by rw [hp7, st_get_ne _ _ _ _ (by decide), hp6, st_get_ne _ _ _ _ (by decide), hp5, st_get_ne _ _ _ _ (by decide)]; exact p4g
  have c05 : p5.get 0 = some (.int .i64 (kD bs)) := by rw [hp5, st_get_ne _ _ _ _ (by decide)]; exact p4g
  have c1g : p7.get 1 = some (u64 (dnm (d2D bs) 8)) := by rw [hp7, st_get_ne _ _ _ _ (by decide), hp6, st_get_ne _ _ _ _ (by decide), hp5, st_get_ne _ _ _ _ (by decide), hp4, st_get_ne _ _ _ _ (by decide), hp3, st_get_same _ _ _ (by rw [pn2]; decide)]
  have c2g : p7.get 2 = some (u64 (dnm (d3D bs) 8)) := by rw [hp7, st_get_ne _ _ _ _ (by decide), hp6, st_get_ne _ _ _ _ (by decide), hp5, st_get_ne _ _ _ _ (by decide), hp4, st_get_same _ _ _ (by rw [pn3]; decide)]
  have c3g : p7.get 3 = some (u64 (dnm (d4D bs) 8)) := by rw [hp7, st_get_ne _ _ _ _ (by decide), hp6, st_get_ne _ _ _ _ (by decide), hp5, st_get_same _ _ _ (by rw [pn4]; decide)]
  have c4g : p7.get 4 = some (u64 (dnm (d5D bs) 8)) := by rw [hp7, st_get_ne _ _ _ _ (by decide), hp6, st_get_same _ _ _ (by rw [pn5]; decide)]
  have c5g : p7.get 5 = some v7 := by rw [hp7, st_get_same _ _ _ (by rw [pn6]; decide)]
  have dn : (lim Tryd.prog σ).call 48 [.ptr (h.nx + 1) 0] Z7 = some (.bool (endD (d7D bs)), none) := done_run hσ' T7.R
  have Zz := T7.z
  have BV9 : BSl Z7 (v7) (bc (pD bs .nils).xs) := by rw [xse]; exact BZ7
  cases ee : endD (d7D bs)
  · rw [ee] at dn
    have hok : okD bs = false := by unfold okD; simp [ee]
    simp only [go_sem, hzb', ← hZ1, zr, zn, pn1, pr1, q2, ck, ← hp2, ← hZ2, q3, ← hp3, ← hZ3, q4, ← hp4, ← hZ4, Yp2, Zp2, Yp3, Zp3, Yp4, Zp4, pn2, pr2, pn3, pr3, pn4, pr4, p4g, q5, ← hp5, ← hZ5, Yp5, Zp5, pn5, pr5, k2t, q6, ← hp6, ← hZ6, Yp6, Zp6, pn6, pr6, q7, ← hp7, ← hZ7, Yp7, Zp7, pn7, pr7, ov, oc, c05, c0g, c1g, c2g, c3g, c4g, c5g]
    refine cnd_go (Q := Q) (by kernel_rfl) ?_
    simp only [go_sem, hzb', ← hZ1, zr, zn, pn1, pr1, q2, ck, ← hp2, ← hZ2, q3, ← hp3, ← hZ3, q4, ← hp4, ← hZ4, Yp2, Zp2, Yp3, Zp3, Yp4, Zp4, pn2, pr2, pn3, pr3, pn4, pr4, p4g, q5, ← hp5, ← hZ5, Yp5, Zp5, pn5, pr5, k2t, q6, ← hp6, ← hZ6, Yp6, Zp6, pn6, pr6, q7, ← hp7, ← hZ7, Yp7, Zp7, pn7, pr7, ov, oc, c05, c0g, c1g, c2g, c3g, c4g, c5g, dn, Zz]
    refine store_step (Q := Q) (L := z6) (by rw [zn]; rfl) rfl fun b' hn' hr' hl' hg' => ?_
    rw [zn] at hl'
    simp only [go_sem, hl']
    exact endZ Z7 T7.E hok b'
  rw [ee] at dn
  have csq : (pD bs (v7)).cs = [.int .i64 (kD bs), u64 (dnm (d2D bs) 8), u64 (dnm (d3D bs) 8), u64 (dnm (d4D bs) 8), u64 (dnm (d5D bs) 8), v7] := by unfold pD Pk.cs; simp only [ea, ed]; rfl
  have pok : PkOk (pD bs (v7)) := by
    have k8 : (256 : Nat) ^ 8 = 2 ^ 64 := by decide
    have h2 := dnm_lt B2 8
    have h3 := dnm_lt B3 8
    have h4 := dnm_lt B4 8
    have h5 := dnm_lt B5 8
    rw [k8] at h2 h3 h4 h5
    have hif : ∀ (c : Bool) (n : Nat), n < 2 ^ 64 → (if c = true then n else 0) < 2 ^ 64 := fun c n hn => by
      cases c
      · exact (by decide : 0 < 2 ^ 64)
      · exact hn
    exact ⟨h2, h3, hif _ _ h4, hif _ _ h5⟩
  have my : (lim Tryd.prog σ).call 49 [.agg (pD bs (v7)).cs] Z7 = some (.bool (mayV (pD bs .nils)), none) := rmay_run hσ' (pD bs (v7)) k0D BV9
  rw [csq] at my
  cases hm : mayV (pD bs .nils)
  · rw [hm] at my
    have hok : okD bs = false := by unfold okD; simp [hm]
    simp only [go_sem, hzb', ← hZ1, zr, zn, pn1, pr1, q2, ck, ← hp2, ← hZ2, q3, ← hp3, ← hZ3, q4, ← hp4, ← hZ4, Yp2, Zp2, Yp3, Zp3, Yp4, Zp4, pn2, pr2, pn3, pr3, pn4, pr4, p4g, q5, ← hp5, ← hZ5, Yp5, Zp5, pn5, pr5, k2t, q6, ← hp6, ← hZ6, Yp6, Zp6, pn6, pr6, q7, ← hp7, ← hZ7, Yp7, Zp7, pn7, pr7, ov, oc, c05, c0g, c1g, c2g, c3g, c4g, c5g]
    refine cnd_go (Q := Q) (by kernel_rfl) ?_
    simp only [go_sem, hzb', ← hZ1, zr, zn, pn1, pr1, q2, ck, ← hp2, ← hZ2, q3, ← hp3, ← hZ3, q4, ← hp4, ← hZ4, Yp2, Zp2, Yp3, Zp3, Yp4, Zp4, pn2, pr2, pn3, pr3, pn4, pr4, p4g, q5, ← hp5, ← hZ5, Yp5, Zp5, pn5, pr5, k2t, q6, ← hp6, ← hZ6, Yp6, Zp6, pn6, pr6, q7, ← hp7, ← hZ7, Yp7, Zp7, pn7, pr7, ov, oc, c05, c0g, c1g, c2g, c3g, c4g, c5g, dn, Zz, my]
    refine store_step (Q := Q) (L := z6) (by rw [zn]; rfl) rfl fun b' hn' hr' hl' hg' => ?_
    rw [zn] at hl'
    simp only [go_sem, hl']
    exact endZ Z7 T7.E hok b'
  rw [hm] at my
  obtain ⟨v10, Y10, e1, E10, B10⟩ := pack_run hσ' hσ (pD bs (v7)) hm pok BV9 (pD_xs hb _)
  rw [csq] at e1
  have E9 : Ext h Y10 := T7.E.trans E10
  have Y10p : Y10.blk (h.nx + 2) = some p7 := (E10.blk T7.pn).trans T7.p
  have Y10z : Y10.blk h.nx = some zb := (E10.blk (by have := T7.pn; omega)).trans T7.z
  have st1 := B10.str (pack_byte' (pD bs (v7)) (pD_xs hb _))
  have st2 := (B.ext E9).str hb
  have st0 := (B.ext T7.E).str hb
  have Zp := T7.p
  have bq0 := bsl_bq B
  have ce : ∀ t xo yo, binT Tryd.prog .neq t xo yo (.str (pack (pD bs (v7)))) (.str bs) = some (.bool (!(pack (pD bs (v7)) == bs))) := fun t xo yo => rfl
  have sb : (pack (pD bs (v7)) == bs) = decide (pack (pD bs .nils) = bs) := by
    show (pack (pD bs .nils) == bs) = _
    rw [Bool.eq_iff_iff]; simp
  rw [sb] at ce
  simp only [go_sem, hzb', ← hZ1, zr, zn, pn1, pr1, q2, ck, ← hp2, ← hZ2, q3, ← hp3, ← hZ3, q4, ← hp4, ← hZ4, Yp2, Zp2, Yp3, Zp3, Yp4, Zp4, pn2, pr2, pn3, pr3, pn4, pr4, p4g, q5, ← hp5, ← hZ5, Yp5, Zp5, pn5, pr5, k2t, q6, ← hp6, ← hZ6, Yp6, Zp6, pn6, pr6, q7, ← hp7, ← hZ7, Yp7, Zp7, pn7, pr7, ov, oc, c05, c0g, c1g, c2g, c3g, c4g, c5g]
  refine cnd_go (Q := Q) (by kernel_rfl) ?_
  by_cases hq : pack (pD bs .nils) = bs
  · have hok : okD bs = true := by unfold okD; simp [hpre, ee, hm, hq]
    simp only [go_sem, hzb', ← hZ1, zr, zn, pn1, pr1, q2, ck, ← hp2, ← hZ2, q3, ← hp3, ← hZ3, q4, ← hp4, ← hZ4, Yp2, Zp2, Yp3, Zp3, Yp4, Zp4, pn2, pr2, pn3, pr3, pn4, pr4, p4g, q5, ← hp5, ← hZ5, Yp5, Zp5, pn5, pr5, k2t, q6, ← hp6, ← hZ6, Yp6, Zp6, pn6, pr6, q7, ← hp7, ← hZ7, Yp7, Zp7, pn7, pr7, ov, oc, c05, c0g, c1g, c2g, c3g, c4g, c5g, dn, Zz, my, e1, st1, st2, ce, hq, Y10p, Y10z]
    refine cnd_go (Q := Q) (by kernel_rfl) ?_
    simp only [go_sem, hzb', ← hZ1, zr, zn, pn1, pr1, q2, ck, ← hp2, ← hZ2, q3, ← hp3, ← hZ3, q4, ← hp4, ← hZ4, Yp2, Zp2, Yp3, Zp3, Yp4, Zp4, pn2, pr2, pn3, pr3, pn4, pr4, p4g, q5, ← hp5, ← hZ5, Yp5, Zp5, pn5, pr5, k2t, q6, ← hp6, ← hZ6, Yp6, Zp6, pn6, pr6, q7, ← hp7, ← hZ7, Yp7, Zp7, pn7, pr7, ov, oc, c05, c0g, c1g, c2g, c3g, c4g, c5g, dn, Zz, my, e1, bq0, Bool.cond_self, st0, st1, st2, ce, hq, Y10p, Y10z]
    rw [cond_al (i := 11) (d := [])]
    rotate_left
    · kernel_rfl
    simp only [go_sem, hzb', ← hZ1, zr, zn, pn1, pr1, q2, ck, ← hp2, ← hZ2, q3, ← hp3, ← hZ3, q4, ← hp4, ← hZ4, Yp2, Zp2, Yp3, Zp3, Yp4, Zp4, pn2, pr2, pn3, pr3, pn4, pr4, p4g, q5, ← hp5, ← hZ5, Yp5, Zp5, pn5, pr5, k2t, q6, ← hp6, ← hZ6, Yp6, Zp6, pn6, pr6, q7, ← hp7, ← hZ7, Yp7, Zp7, pn7, pr7, ov, oc, c05, c0g, c1g, c2g, c3g, c4g, c5g, dn, Zz, my, e1, bq0, Bool.cond_self, st0, st1, st2, ce, hq, Y10p, Y10z]
    rw [cond_al (i := 1) (d := [10])]
    rotate_left
    · kernel_rfl
    simp only [go_sem, hzb', ← hZ1, zr, zn, pn1, pr1, q2, ck, ← hp2, ← hZ2, q3, ← hp3, ← hZ3, q4, ← hp4, ← hZ4, Yp2, Zp2, Yp3, Zp3, Yp4, Zp4, pn2, pr2, pn3, pr3, pn4, pr4, p4g, q5, ← hp5, ← hZ5, Yp5, Zp5, pn5, pr5, k2t, q6, ← hp6, ← hZ6, Yp6, Zp6, pn6, pr6, q7, ← hp7, ← hZ7, Yp7, Zp7, pn7, pr7, ov, oc, c05, c0g, c1g, c2g, c3g, c4g, c5g, dn, Zz, my, e1, bq0, Bool.cond_self, st0, st1, st2, ce, hq, Y10p, Y10z]
    rw [cond_al (i := 5) (d := [10])]
    rotate_left
    · kernel_rfl
    rw [cond_al (i := 9) (d := [10])]
    rotate_left
    · kernel_rfl
    rw [cond_al (i := 4) (d := [10])]
    rotate_left
    · kernel_rfl
    simp only [go_sem, hzb', ← hZ1, zr, zn, pn1, pr1, q2, ck, ← hp2, ← hZ2, q3, ← hp3, ← hZ3, q4, ← hp4, ← hZ4, Yp2, Zp2, Yp3, Zp3, Yp4, Zp4, pn2, pr2, pn3, pr3, pn4, pr4, p4g, q5, ← hp5, ← hZ5, Yp5, Zp5, pn5, pr5, k2t, q6, ← hp6, ← hZ6, Yp6, Zp6, pn6, pr6, q7, ← hp7, ← hZ7, Yp7, Zp7, pn7, pr7, ov, oc, c05, c0g, c1g, c2g, c3g, c4g, c5g, dn, Zz, my, e1, bq0, Bool.cond_self, st0, st1, st2, ce, hq, Y10p, Y10z]
    refine store_step (Q := Q) (L := [.int .i64 (kD bs), u64 (dnm (d2D bs) 8), u64 (dnm (d3D bs) 8), u64 (dnm (d4D bs) 8), u64 (dnm (d5D bs) 8), v7]) (by rw [zn]; rfl) (by show (true && (true && (true && (true && (true && (CV.one v7 && true)))))) = true; rw [ov]; rfl) fun b' hn' hr' hl' hg' => ?_
    rw [zn] at hl'
    simp only [go_sem, hl']
    rw [hQ]
    have fz := rof_good (id := id) (v := v7) (E9.put (.cells b') (Nat.le_refl h.nx)) hok (bsl_put (BV9.ext E10) (by intro i off l c e; first | (cases e; done) | (have := fr7 i off l c e; omega)) _) (by intro i off l c e; first | (cases e; done) | (exact fr7 i off l c e)) hid
    rw [csq] at fz
    exact fz
  · have hok : okD bs = false := by unfold okD; simp [hq]
    simp only [go_sem, hzb', ← hZ1, zr, zn, pn1, pr1, q2, ck, ← hp2, ← hZ2, q3, ← hp3, ← hZ3, q4, ← hp4, ← hZ4, Yp2, Zp2, Yp3, Zp3, Yp4, Zp4, pn2, pr2, pn3, pr3, pn4, pr4, p4g, q5, ← hp5, ← hZ5, Yp5, Zp5, pn5, pr5, k2t, q6, ← hp6, ← hZ6, Yp6, Zp6, pn6, pr6, q7, ← hp7, ← hZ7, Yp7, Zp7, pn7, pr7, ov, oc, c05, c0g, c1g, c2g, c3g, c4g, c5g, dn, Zz, my, e1, st1, st2, ce, hq, Y10p, Y10z]
    refine cnd_go (Q := Q) (by kernel_rfl) ?_
    simp only [go_sem, hzb', ← hZ1, zr, zn, pn1, pr1, q2, ck, ← hp2, ← hZ2, q3, ← hp3, ← hZ3, q4, ← hp4, ← hZ4, Yp2, Zp2, Yp3, Zp3, Yp4, Zp4, pn2, pr2, pn3, pr3, pn4, pr4, p4g, q5, ← hp5, ← hZ5, Yp5, Zp5, pn5, pr5, k2t, q6, ← hp6, ← hZ6, Yp6, Zp6, pn6, pr6, q7, ← hp7, ← hZ7, Yp7, Zp7, pn7, pr7, ov, oc, c05, c0g, c1g, c2g, c3g, c4g, c5g, dn, Zz, my, e1, bq0, Bool.cond_self, st0, st1, st2, ce, hq, Y10p, Y10z]
    rw [cond_al (i := 11) (d := [])]
    rotate_left
    · kernel_rfl
    simp only [go_sem, hzb', ← hZ1, zr, zn, pn1, pr1, q2, ck, ← hp2, ← hZ2, q3, ← hp3, ← hZ3, q4, ← hp4, ← hZ4, Yp2, Zp2, Yp3, Zp3, Yp4, Zp4, pn2, pr2, pn3, pr3, pn4, pr4, p4g, q5, ← hp5, ← hZ5, Yp5, Zp5, pn5, pr5, k2t, q6, ← hp6, ← hZ6, Yp6, Zp6, pn6, pr6, q7, ← hp7, ← hZ7, Yp7, Zp7, pn7, pr7, ov, oc, c05, c0g, c1g, c2g, c3g, c4g, c5g, dn, Zz, my, e1, bq0, Bool.cond_self, st0, st1, st2, ce, hq, Y10p, Y10z]
    rw [cond_al (i := 1) (d := [10])]
    rotate_left
    · kernel_rfl
    simp only [go_sem, hzb', ← hZ1, zr, zn, pn1, pr1, q2, ck, ← hp2, ← hZ2, q3, ← hp3, ← hZ3, q4, ← hp4, ← hZ4, Yp2, Zp2, Yp3, Zp3, Yp4, Zp4, pn2, pr2, pn3, pr3, pn4, pr4, p4g, q5, ← hp5, ← hZ5, Yp5, Zp5, pn5, pr5, k2t, q6, ← hp6, ← hZ6, Yp6, Zp6, pn6, pr6, q7, ← hp7, ← hZ7, Yp7, Zp7, pn7, pr7, ov, oc, c05, c0g, c1g, c2g, c3g, c4g, c5g, dn, Zz, my, e1, bq0, Bool.cond_self, st0, st1, st2, ce, hq, Y10p, Y10z]
    rw [cond_al (i := 5) (d := [10])]
    rotate_left
    · kernel_rfl
    rw [cond_al (i := 9) (d := [10])]
    rotate_left
    · kernel_rfl
    rw [cond_al (i := 4) (d := [10])]
    rotate_left
    · kernel_rfl
    simp only [go_sem, hzb', ← hZ1, zr, zn, pn1, pr1, q2, ck, ← hp2, ← hZ2, q3, ← hp3, ← hZ3, q4, ← hp4, ← hZ4, Yp2, Zp2, Yp3, Zp3, Yp4, Zp4, pn2, pr2, pn3, pr3, pn4, pr4, p4g, q5, ← hp5, ← hZ5, Yp5, Zp5, pn5, pr5, k2t, q6, ← hp6, ← hZ6, Yp6, Zp6, pn6, pr6, q7, ← hp7, ← hZ7, Yp7, Zp7, pn7, pr7, ov, oc, c05, c0g, c1g, c2g, c3g, c4g, c5g, dn, Zz, my, e1, bq0, Bool.cond_self, st0, st1, st2, ce, hq, Y10p, Y10z]
    refine store_step (Q := Q) (L := z6) (by rw [zn]; rfl) rfl fun b' hn' hr' hl' hg' => ?_
    rw [zn] at hl'
    simp only [go_sem, hl']
    exact endZ Y10 E9 hok b'
end Go.Cl.Sh.W

namespace Go.Cl.Sh.W
set_option maxRecDepth 1000000

theorem foldl_scale : ∀ (ys : List Nat) (a : Nat), ys.foldl (fun a b => a * 256 + b) a = a * 256 ^ ys.length + ys.foldl (fun a b => a * 256 + b) 0
  | [], a => by simp
  | y :: ys, a => by
    rw [List.foldl_cons, List.foldl_cons, foldl_scale ys (a * 256 + y), foldl_scale ys (0 * 256 + y), List.length_cons, Nat.pow_succ]
    rw [Nat.zero_mul, Nat.zero_add, Nat.add_mul, Nat.mul_assoc, Nat.mul_comm 256]
    omega
theorem be_succ (n k : Nat) : be n (k + 1) = be (n / 256) k ++ [n % 256] := by
  unfold be
  rw [List.range_succ, List.map_append]
  congr 1
  · apply List.map_congr_left
    intro j hj
    have hj := List.mem_range.1 hj
    unfold dig
    rw [Nat.div_div_eq_div_mul, show k + 1 - 1 - j = (k - 1 - j) + 1 by omega, Nat.mul_succ, Nat.pow_add, Nat.mul_comm]
  · simp [dig]
theorem val_be : ∀ (k n : Nat), n < 256 ^ k → valB (be n k) = n
  | 0, n, h => by simp at h; subst h; rfl
  | k + 1, n, h => by
    rw [be_succ, valB_app, val_be k (n / 256) (by rw [Nat.div_lt_iff_lt_mul (by decide)]; rwa [Nat.pow_succ] at h)]
    omega
theorem nxt_app {a r : List Nat} {k : Nat} (h : a.length = k) : nxt (some (a ++ r)) k = some r := by
  subst h; unfold nxt; simp
theorem byt_app {a r : List Nat} {k : Nat} (h : a.length = k) : bytV (some (a ++ r)) k = a := by
  subst h; unfold bytV; simp
theorem num_app {a r : List Nat} {k : Nat} (h : a.length = k) : numV (some (a ++ r)) k = valB a := by
  unfold numV; rw [byt_app h]
theorem dnx_app {a r : List Nat} {k : Nat} (h : a.length = k) : dnx (a ++ r, false) k = (r, false) := by
  subst h; unfold dnx cutR cutB; simp
theorem cut_app {a r : List Nat} {k : Nat} (h : a.length = k) : cutV (a ++ r) false k = a := by
  subst h; unfold cutV; simp
theorem dnm_app {a r : List Nat} {k : Nat} (h : a.length = k) : dnm (a ++ r, false) k = valB a := by
  unfold dnm; rw [cut_app h]
/-- what stands between the mark and the sum -/
def mid (p : Pk) : List Nat := be p.kind.toNat 1 ++ (be p.mine 8 ++ (be p.theirs 8 ++ ((if ackK p.kind then be p.ack 8 else []) ++ (if dataK p.kind then be p.seq 8 ++ (be p.xs.length 2 ++ p.xs) else []))))
def sum4 (p : Pk) : List Nat := (digest (hdr p)).take 4
theorem sum4_len (p : Pk) : (sum4 p).length = 4 := by unfold sum4; rw [List.length_take, digest_len]; rfl
theorem pack_eq (p : Pk) : pack p = [71, 80] ++ (mid p ++ sum4 p) := by unfold pack mid sum4 hdr; simp [List.append_assoc]
theorem pack_v (p : Pk) (v : CV) : pack { p with v := v } = pack p := rfl
theorem mayV_v (p : Pk) (v : CV) : mayV { p with v := v } = mayV p := rfl
structure MayF (p : Pk) : Prop where
  k : p.kind = 1 ∨ p.kind = 2 ∨ p.kind = 3 ∨ p.kind = 4
  a : ackK p.kind = false → p.ack = 0
  s : dataK p.kind = false → p.seq = 0
  x : dataK p.kind = false → p.xs = []
  l : p.xs.length ≤ 4000
theorem mayF {p : Pk} (h : mayV p = true) : MayF p := by
  have hk : isK p.kind = true := by
    cases e1 : isK p.kind with
    | true => rfl
    | false => unfold mayV at h; simp [e1] at h
  have hk4 : p.kind = 1 ∨ p.kind = 2 ∨ p.kind = 3 ∨ p.kind = 4 := by unfold isK at hk; simpa using hk
  unfold mayV at h
  split at h
  · cases h
  split at h
  · cases h
  rename_i h2
  have ha : ackK p.kind = false → p.ack = 0 := fun e => by
    by_cases q : p.ack = 0
    · exact q
    · exact absurd ⟨e, q⟩ h2
  split at h
  · have h := of_decide_eq_true h
    exact ⟨hk4, ha, fun _ => h.1, fun _ => List.length_eq_zero_iff.1 h.2, by omega⟩
  · rename_i h3
    have h := of_decide_eq_true h
    exact ⟨hk4, ha, fun e => absurd e h3, fun e => absurd e h3, h.2.2⟩
theorem pk_ext {p : Pk} {k : Int} {m t a s : Nat} {xs : List Nat} {v : CV} (h1 : k = p.kind) (h2 : m = p.mine) (h3 : t = p.theirs) (h4 : a = p.ack) (h5 : s = p.seq) (h6 : xs = p.xs) : (⟨k, m, t, a, s, v, xs⟩ : Pk) = { p with v := v } := by
  subst h1 h2 h3 h4 h5 h6; rfl
theorem pow8 : (256 : Nat) ^ 8 = 2 ^ 64 := by decide
theorem pP_pack {p : Pk} (ok : PkOk p) (hm : mayV p = true) (v : CV) : pP (pack p) v = { p with v := v } ∧ endV (s8P (pack p)) = true := by
  have M := mayF hm
  have e1 : s1P (pack p) = some (mid p ++ sum4 p) := by unfold s1P; rw [pack_eq]; exact nxt_app rfl
  have l4 := sum4_len p
  have b8 : ∀ n, (be n 8).length = 8 := fun n => be_len n 8
  have kk : numV (s1P (pack p)) 1 = p.kind.toNat := by
    rw [e1]; unfold mid; rw [List.append_assoc, num_app (be_len _ 1)]
    exact val_be 1 _ (by rcases M.k with e | e | e | e <;> rw [e] <;> decide)
  have hk : kP (pack p) = p.kind := by
    unfold kP; rw [kk]; rcases M.k with e | e | e | e <;> rw [e] <;> rfl
  have e2 : s2P (pack p) = some (be p.mine 8 ++ (be p.theirs 8 ++ ((if ackK p.kind then be p.ack 8 else []) ++ ((if dataK p.kind then be p.seq 8 ++ (be p.xs.length 2 ++ p.xs) else []) ++ sum4 p)))) := by
    unfold s2P; rw [e1]; unfold mid; rw [List.append_assoc, nxt_app (be_len _ 1)]; simp only [List.append_assoc]
  have e3 : s3P (pack p) = some (be p.theirs 8 ++ ((if ackK p.kind then be p.ack 8 else []) ++ ((if dataK p.kind then be p.seq 8 ++ (be p.xs.length 2 ++ p.xs) else []) ++ sum4 p))) := by
    unfold s3P; rw [e2, nxt_app (b8 _)]
  have e4 : s4P (pack p) = some ((if ackK p.kind then be p.ack 8 else []) ++ ((if dataK p.kind then be p.seq 8 ++ (be p.xs.length 2 ++ p.xs) else []) ++ sum4 p)) := by
    unfold s4P; rw [e3, nxt_app (b8 _)]
  have n2 : numV (s2P (pack p)) 8 = p.mine := by rw [e2, num_app (b8 _)]; exact val_be 8 _ (by rw [pow8]; exact ok.m)
  have n3 : numV (s3P (pack p)) 8 = p.theirs := by rw [e3, num_app (b8 _)]; exact val_be 8 _ (by rw [pow8]; exact ok.t)
  cases ea : ackK p.kind
  · have ed : dataK p.kind = false := by unfold dataK; unfold ackK at ea; simp at ea ⊢; omega
    rw [ea, ed] at e4
    have e7 : s7P (pack p) = some (sum4 p) := by unfold s7P s6P s5P; rw [hk, ea, ed]; simpa using e4
    refine ⟨?_, ?_⟩
    · unfold pP; rw [hk, ea, ed, n2, n3]
      exact pk_ext rfl rfl rfl (M.a ea).symm (M.s ed).symm (M.x ed).symm
    · unfold s8P; rw [e7, show sum4 p = sum4 p ++ [] by simp, nxt_app l4]; rfl
  · rw [ea] at e4
    simp only [if_true] at e4
    have n4 : numV (s4P (pack p)) 8 = p.ack := by rw [e4, num_app (b8 _)]; exact val_be 8 _ (by rw [pow8]; exact ok.a)
    have e5 : s5P (pack p) = some ((if dataK p.kind then be p.seq 8 ++ (be p.xs.length 2 ++ p.xs) else []) ++ sum4 p) := by
      unfold s5P; rw [hk, ea, if_pos rfl, e4, nxt_app (b8 _)]
    cases ed : dataK p.kind
    · rw [ed] at e5
      have e7 : s7P (pack p) = some (sum4 p) := by unfold s7P s6P; rw [hk, ed]; simpa using e5
      refine ⟨?_, ?_⟩
      · unfold pP; rw [hk, ea, ed, n2, n3, n4]
        exact pk_ext rfl rfl rfl rfl (M.s ed).symm (M.x ed).symm
      · unfold s8P; rw [e7, show sum4 p = sum4 p ++ [] by simp, nxt_app l4]; rfl
    · rw [ed] at e5
      simp only [if_true, List.append_assoc] at e5
      have n5 : numV (s5P (pack p)) 8 = p.seq := by rw [e5, num_app (b8 _)]; exact val_be 8 _ (by rw [pow8]; exact ok.s)
      have e6 : s6P (pack p) = some (be p.xs.length 2 ++ (p.xs ++ sum4 p)) := by
        unfold s6P; rw [hk, ed, if_pos rfl, e5, nxt_app (b8 _)]
      have nl : numV (s6P (pack p)) 2 = p.xs.length := by rw [e6, num_app (be_len _ 2)]; exact val_be 2 _ (by have := M.l; omega)
      have e7 : s7P (pack p) = some (sum4 p) := by
        unfold s7P nxtB; rw [hk, ed, if_pos rfl, nl, e6, nxt_app (be_len _ 2), nxt_app rfl]
      have bv : blobV (s6P (pack p)) = p.xs := by
        unfold blobV; rw [nl, e6, nxt_app (be_len _ 2), byt_app rfl]
      refine ⟨?_, ?_⟩
      · unfold pP; rw [hk, ea, ed, n2, n3, n4, n5, bv]
        exact pk_ext rfl rfl rfl rfl rfl rfl
      · unfold s8P; rw [e7, show sum4 p = sum4 p ++ [] by simp, nxt_app l4]; rfl
theorem pD_pack {p : Pk} (ok : PkOk p) (hm : mayV p = true) (v : CV) : pD (pack p) v = { p with v := v } ∧ endD (d7D (pack p)) = true ∧ preD (pack p) = true := by
  have M := mayF hm
  have l4 := sum4_len p
  have b8 : ∀ n, (be n 8).length = 8 := fun n => be_len n 8
  have pl := pack_len p
  have e1 : d1D (pack p) = (mid p, false) := by
    have hl : (pack p).length = 2 + ((mid p).length + 4) := by rw [pack_eq, List.length_append, List.length_append, l4]; rfl
    unfold d1D
    rw [show (pack p).length - 6 = (mid p).length by omega, pack_eq]
    show (List.take (mid p).length (mid p ++ sum4 p), false) = _
    rw [List.take_left' rfl]
  have hpre : preD (pack p) = true := by
    unfold preD
    rw [decide_eq_true (by rw [pl]; omega), pack_eq]; rfl
  have kk : dnm (d1D (pack p)) 1 = p.kind.toNat := by
    rw [e1]; unfold mid; rw [dnm_app (be_len _ 1)]
    exact val_be 1 _ (by rcases M.k with e | e | e | e <;> rw [e] <;> decide)
  have hk : kD (pack p) = p.kind := by
    unfold kD; rw [kk]; rcases M.k with e | e | e | e <;> rw [e] <;> rfl
  have e2 : d2D (pack p) = (be p.mine 8 ++ (be p.theirs 8 ++ ((if ackK p.kind then be p.ack 8 else []) ++ (if dataK p.kind then be p.seq 8 ++ (be p.xs.length 2 ++ p.xs) else []))), false) := by
    unfold d2D; rw [e1]; unfold mid; rw [dnx_app (be_len _ 1)]
  have e3 : d3D (pack p) = (be p.theirs 8 ++ ((if ackK p.kind then be p.ack 8 else []) ++ (if dataK p.kind then be p.seq 8 ++ (be p.xs.length 2 ++ p.xs) else [])), false) := by
    unfold d3D; rw [e2, dnx_app (b8 _)]
  have e4 : d4D (pack p) = ((if ackK p.kind then be p.ack 8 else []) ++ (if dataK p.kind then be p.seq 8 ++ (be p.xs.length 2 ++ p.xs) else []), false) := by
    unfold d4D; rw [e3, dnx_app (b8 _)]
  have n2 : dnm (d2D (pack p)) 8 = p.mine := by rw [e2, dnm_app (b8 _)]; exact val_be 8 _ (by rw [pow8]; exact ok.m)
  have n3 : dnm (d3D (pack p)) 8 = p.theirs := by rw [e3, dnm_app (b8 _)]; exact val_be 8 _ (by rw [pow8]; exact ok.t)
  cases ea : ackK p.kind
  · have ed : dataK p.kind = false := by unfold dataK; unfold ackK at ea; simp at ea ⊢; omega
    rw [ea, ed] at e4
    have e7 : d7D (pack p) = ([], false) := by unfold d7D d6D d5D; rw [hk, ea, ed]; simpa using e4
    refine ⟨?_, by rw [e7]; rfl, hpre⟩
    unfold pD; rw [hk, ea, ed, n2, n3]
    exact pk_ext rfl rfl rfl (M.a ea).symm (M.s ed).symm (M.x ed).symm
  · rw [ea] at e4
    simp only [if_true] at e4
    have n4 : dnm (d4D (pack p)) 8 = p.ack := by rw [e4, dnm_app (b8 _)]; exact val_be 8 _ (by rw [pow8]; exact ok.a)
    have e5 : d5D (pack p) = ((if dataK p.kind then be p.seq 8 ++ (be p.xs.length 2 ++ p.xs) else []), false) := by
      unfold d5D; rw [hk, ea, if_pos rfl, e4, dnx_app (b8 _)]
    cases ed : dataK p.kind
    · rw [ed] at e5
      have e7 : d7D (pack p) = ([], false) := by unfold d7D d6D; rw [hk, ed]; simpa using e5
      refine ⟨?_, by rw [e7]; rfl, hpre⟩
      unfold pD; rw [hk, ea, ed, n2, n3, n4]
      exact pk_ext rfl rfl rfl rfl (M.s ed).symm (M.x ed).symm
    · rw [ed] at e5
      simp only [if_true] at e5
      have n5 : dnm (d5D (pack p)) 8 = p.seq := by rw [e5, dnm_app (b8 _)]; exact val_be 8 _ (by rw [pow8]; exact ok.s)
      have e6 : d6D (pack p) = (be p.xs.length 2 ++ p.xs, false) := by
        unfold d6D; rw [hk, ed, if_pos rfl, e5, dnx_app (b8 _)]
      have c1 : cutV (be p.xs.length 2 ++ p.xs) false 2 = be p.xs.length 2 := cut_app (be_len _ 2)
      have c2 : cutR (be p.xs.length 2 ++ p.xs) false 2 = p.xs := congrArg Prod.fst (dnx_app (be_len p.xs.length 2) (r := p.xs))
      have c3 : cutB (be p.xs.length 2 ++ p.xs) false 2 = false := congrArg Prod.snd (dnx_app (be_len p.xs.length 2) (r := p.xs))
      have c4 : valB (be p.xs.length 2) = p.xs.length := val_be 2 _ (by have := M.l; omega)
      have x0 : p.xs = p.xs ++ [] := by simp
      have e7 : d7D (pack p) = ([], false) := by
        unfold d7D rblobR rblobB; rw [hk, ed, if_pos rfl, e6]
        dsimp only
        rw [c1, c2, c3, c4]
        unfold cutR cutB; simp
      have bv : rblobV (d6D (pack p)).1 (d6D (pack p)).2 = p.xs := by
        rw [e6]; unfold rblobV
        dsimp only
        rw [c1, c2, c3, c4]
        unfold cutV; simp
      refine ⟨?_, by rw [e7]; rfl, hpre⟩
      unfold pD; rw [hk, ea, ed, n2, n3, n4, n5, bv]
      exact pk_ext rfl rfl rfl rfl rfl rfl
theorem pP_ok {bs : List Nat} (hb : ∀ b ∈ bs, b < 256) (v : CV) : PkOk (pP bs v) := by
  have B0 : Bts (some bs) := fun r e b hm => by cases e; exact hb b hm
  have B2 : Bts (s2P bs) := (B0.nxt 2).nxt 1
  have B3 : Bts (s3P bs) := B2.nxt 8
  have B4 : Bts (s4P bs) := B3.nxt 8
  have B5 : Bts (s5P bs) := by unfold s5P; split; exact B4.nxt 8; exact B4
  have h2 := num_lt B2 (k := 8)
  have h3 := num_lt B3 (k := 8)
  have h4 := num_lt B4 (k := 8)
  have h5 := num_lt B5 (k := 8)
  rw [pow8] at h2 h3 h4 h5
  have hif : ∀ (c : Bool) (n : Nat), n < 2 ^ 64 → (if c = true then n else 0) < 2 ^ 64 := fun c n hn => by
    cases c
    · exact (by decide : 0 < 2 ^ 64)
    · exact hn
  exact ⟨h2, h3, hif _ _ h4, hif _ _ h5⟩
theorem pD_ok {bs : List Nat} (hb : ∀ b ∈ bs, b < 256) (v : CV) : PkOk (pD bs v) := by
  have B1 : dby (d1D bs) := fun b hm => hb b (List.mem_of_mem_drop (List.mem_of_mem_take hm))
  have B2 : dby (d2D bs) := B1.nx 1
  have B3 : dby (d3D bs) := B2.nx 8
  have B4 : dby (d4D bs) := B3.nx 8
  have B5 : dby (d5D bs) := by unfold d5D; split; exact B4.nx 8; exact B4
  have h2 := dnm_lt B2 8
  have h3 := dnm_lt B3 8
  have h4 := dnm_lt B4 8
  have h5 := dnm_lt B5 8
  rw [pow8] at h2 h3 h4 h5
  have hif : ∀ (c : Bool) (n : Nat), n < 2 ^ 64 → (if c = true then n else 0) < 2 ^ 64 := fun c n hn => by
    cases c
    · exact (by decide : 0 < 2 ^ 64)
    · exact hn
  exact ⟨h2, h3, hif _ _ h4, hif _ _ h5⟩
/-- the plain law: both sides read the same -/
theorem same_read {bs : List Nat} (hb : ∀ b ∈ bs, b < 256) : okD bs = okP bs ∧ (okP bs = true → ∀ v w, pD bs w = { pP bs v with v := w }) := by
  have h1 : okP bs = true → okD bs = true ∧ ∀ v w, pD bs w = { pP bs v with v := w } := fun h => by
    unfold okP at h
    simp only [Bool.and_eq_true, decide_eq_true_eq] at h
    obtain ⟨⟨⟨_, _⟩, hm⟩, hp⟩ := h
    have D := fun v => pD_pack (pP_ok hb .nils) hm v
    rw [hp] at D
    refine ⟨?_, fun v w => by rw [(D w).1]; rfl⟩
    unfold okD
    rw [(D .nils).2.2, (D .nils).2.1, (D .nils).1, mayV_v, hm, pack_v, hp]
    simp
  have h2 : okD bs = true → okP bs = true := fun h => by
    unfold okD at h
    simp only [Bool.and_eq_true, decide_eq_true_eq] at h
    obtain ⟨⟨⟨_, _⟩, hm⟩, hp⟩ := h
    have D := fun v => pP_pack (pD_ok hb .nils) hm v
    have hl : bs.length ≤ 4041 := by
      rw [← hp, pack_len]
      have := (mayF hm).l
      cases ackK (pD bs .nils).kind <;> cases dataK (pD bs .nils).kind <;> simp <;> omega
    rw [hp] at D
    unfold okP
    rw [(D .nils).2, (D .nils).1, mayV_v, hm, pack_v, hp, decide_eq_true hl]
    simp
  refine ⟨?_, fun h => (h1 h).2⟩
  cases e : okP bs
  · cases e2 : okD bs
    · rfl
    · rw [h2 e2] at e; cases e
  · exact (h1 e).1
end Go.Cl.Sh.W

namespace Go.Cl.Sh.W
variable {σ : Sums}
set_option maxRecDepth 1000000

theorem same_run (hσ : ∀ f a h, told f = false → σ f a h = none) {h : H} (p : Pk) (w : CV) (B : BSl h p.v (bc p.xs)) (B' : BSl h w (bc p.xs)) (hb : ∀ b ∈ p.xs, b < 256) : Ret (.bool true) ((lim Tryd.prog σ).call 12 [.agg p.cs, .agg ({ p with v := w } : Pk).cs] h) := by
  obtain ⟨Q, hQ⟩ : ∃ Q, Q = Ret (.bool true) := ⟨_, rfl⟩
  rw [← hQ]
  rw [call_eq (hσ _ _ _ (by decide)) fn_12 rfl rfl, Tryd.ntmps12, Tryd.results12]
  obtain ⟨pb, hpb⟩ : ∃ pb, pb = newBlk p.cs := ⟨_, rfl⟩
  obtain ⟨qb, hqb⟩ : ∃ qb, qb = newBlk ({ p with v := w } : Pk).cs := ⟨_, rfl⟩
  have pb' : newBlk [.int .i64 p.kind, u64 p.mine, u64 p.theirs, u64 p.ack, u64 p.seq, p.v] = pb := hpb.symm
  have qb' : newBlk [.int .i64 p.kind, u64 p.mine, u64 p.theirs, u64 p.ack, u64 p.seq, w] = qb := hqb.symm
  obtain ⟨X, hX⟩ : ∃ X, X = h.lo.alloc (.cells pb) := ⟨_, rfl⟩
  obtain ⟨Y, hY⟩ : ∃ Y, Y = X.alloc (.cells qb) := ⟨_, rfl⟩
  have Xnx : X.nx = h.nx + 1 := by rw [hX]; rfl
  have XE : Ext h X := by rw [hX]; exact (Ext.lo h).alloc' _
  have YE : Ext h Y := by rw [hY]; exact XE.alloc' _
  have Ylow : Y.low = h.nx := by rw [hY, hX]; rfl
  have Yp : Y.blk h.nx = some pb := by rw [hY, alloc_blk_ne _ _ _ (by omega), hX]; simp only [go_sem]
  have Yq : Y.blk (h.nx + 1) = some qb := by rw [hY]; exact alloc_blk_same _ _ _ Xnx.symm
  have ov := B.one.1
  have oc := B.one.2
  have ow := B'.one.1
  have owc := B'.one.2
  have st1 := (B.ext YE).str hb
  have st2 := (B'.ext YE).str hb
  have g0 : pb.get 0 = some (.int .i64 p.kind) := by rw [hpb]; simp only [go_sem, Pk.cs]
  have g1 : pb.get 1 = some (u64 p.mine) := by rw [hpb]; simp only [go_sem, Pk.cs]
  have g2 : pb.get 2 = some (u64 p.theirs) := by rw [hpb]; simp only [go_sem, Pk.cs]
  have g3 : pb.get 3 = some (u64 p.ack) := by rw [hpb]; simp only [go_sem, Pk.cs]
  have g4 : pb.get 4 = some (u64 p.seq) := by rw [hpb]; simp only [go_sem, Pk.cs]
  have g5 : pb.get 5 = some p.v := by rw [hpb]; simp only [go_sem, Pk.cs]
  have r0 : qb.get 0 = some (.int .i64 p.kind) := by rw [hqb]; simp only [go_sem, Pk.cs]
  have r1 : qb.get 1 = some (u64 p.mine) := by rw [hqb]; simp only [go_sem, Pk.cs]
  have r2 : qb.get 2 = some (u64 p.theirs) := by rw [hqb]; simp only [go_sem, Pk.cs]
  have r3 : qb.get 3 = some (u64 p.ack) := by rw [hqb]; simp only [go_sem, Pk.cs]
  have r4 : qb.get 4 = some (u64 p.seq) := by rw [hqb]; simp only [go_sem, Pk.cs]
  have r5 : qb.get 5 = some w := by rw [hqb]; simp only [go_sem, Pk.cs]
  have ce : ∀ t xo yo, binT Tryd.prog .eql t xo yo (.str p.xs) (.str p.xs) = some (.bool true) := fun t xo yo => by
    show some (CV.bool (p.xs == p.xs)) = _
    simp
  unfold Pk.cs
  simp only [go_sem, pb', ← hX, Xnx, ov, oc, ow, owc, qb', ← hY, Yp, Yq, g0, g1, g2, g3, g4, g5, r0, r1, r2, r3, r4, r5, eq64, st1, st2, ce]
  rw [hQ, fin_q _ _ _ Ylow rfl]
  rfl
theorem RFr.put {h h' : H} {r : Nat} (F : RFr h h' r) (o : CObj) : RFr h (h'.put r o) r :=
  ⟨F.nx, F.gn, fun k hk hkr => (put_get_ne _ _ _ _ hkr).trans (F.old k hk hkr)⟩
theorem z6_cs : (⟨0, 0, 0, 0, 0, .nils, []⟩ : Pk).cs = z6 := rfl
theorem pk_one {p : Pk} {h : H} (B : BSl h p.v (bc p.xs)) : p.cs.all CV.one = true := by
  show (true && (true && (true && (true && (true && (CV.one p.v && true)))))) = true
  rw [B.one.1]; rfl
theorem reads_run (hσ : ∀ f a h, σ f a h = none) {h : H} (g : HG h) {id : Nat} {v0 : CV} {bs : List Nat} (B : BSl h v0 (bc bs)) (hRB : 23 ≤ bs.length → RB h id v0 bs) (hid : id < h.nx) (hb : ∀ b ∈ bs, b < 256) : Tru ((lim Tryd.prog σ).call 4 [v0] h) := by
  have hσ' : ∀ f a h, told f = false → σ f a h = none := fun f a h _ => hσ f a h
  obtain ⟨Q, hQ⟩ : ∃ Q : Option (CV × Option H) → Prop, Q = Tru := ⟨_, rfl⟩
  rw [← hQ]
  rw [call_eq (hσ _ _ _) fn_4 rfl rfl, Tryd.ntmps4, Tryd.results4]
  have bl := B.len
  rw [bc_len] at bl
  by_cases hbig : bs.length > 9000
  · have c0 : Int.ofNat bs.length > 9000 := by simp; omega
    obtain ⟨y, hk, _⟩ := known_run hσ (g.ext (Ext.lo h))
    simp only [go_sem, bl, c0, hk]
    rw [hQ]; exact tru_fin _ _
  have c0 : ¬ Int.ofNat bs.length > 9000 := by simp; omega
  obtain ⟨zb, hzb⟩ : ∃ zb, zb = newBlk z6 := ⟨_, rfl⟩
  have zn : zb.n = 6 := by rw [hzb, wnewBlk_n]; rfl
  have zr : zb.ro = false := by rw [hzb, newBlk_ro]
  have hzb' : newBlk [CV.int .i64 0, .int .u64 0, .int .u64 0, .int .u64 0, .int .u64 0, .nils] = zb := hzb.symm
  obtain ⟨s, lid, A, ea, L, F, hlow⟩ := app_any (Lst.nil h.lo 1 h.nx) (new := bc bs) (bc_one _) (by rw [bc_len]; omega)
  have ea : builtinT Tryd.prog h.lo .append [24, 24] [.nils, v0] = some (.upd s A) := by rw [(B.ext (Ext.lo h)).app, ea]; rfl
  rw [List.nil_append, bc_len, Nat.zero_add] at L
  have EA : Ext h A := ⟨F.nx, F.gn, fun k hk => F.old k hk fun q => absurd rfl q⟩
  have lg : h.nx ≤ lid := by rcases F.id with ⟨h1, _⟩ | h1; exact Nat.le_of_eq h1.symm; exact h1
  have sl : ∀ h', builtinT Tryd.prog h' .len [24] [s] = some (.val (.int .i64 (Int.ofNat bs.length))) := fun h' => by
    have := (lst_bsl L).len h'
    rwa [bc_len] at this
  -- the program's and the document's answers, alike
  obtain ⟨p, e, ok, hq, x1, e1, E1, BP, hpn, hpx, rest⟩ : ∃ (p : Pk) (e : Int) (ok : Bool), ((e = 0 ∧ ok = true) ∨ (e = 4 ∧ ok = false)) ∧ ∃ x1, (lim Tryd.prog σ).call 10 [s] A = some (.tup [.agg p.cs, .int .i64 e], x1) ∧ Ext A (x1.getD A) ∧ BSl (x1.getD A) p.v (bc p.xs) ∧ (∀ i off l c, p.v = .sl i off l c → A.nx ≤ i) ∧ (∀ b ∈ p.xs, b < 256) ∧
      ∀ Z, Ext h Z → ∃ w x2, (lim Tryd.prog σ).call 11 [v0] Z = some (.tup [.agg ({ p with v := w } : Pk).cs, .bool ok], x2) ∧ Ext Z (x2.getD Z) ∧ BSl (x2.getD Z) w (bc p.xs) ∧ (∀ i off l c, w = .sl i off l c → i = id) := by
    have S := same_read hb
    rcases of_run hσ (g.ext EA) (lst_bsl L) hb (by omega) with ⟨hp, x1, e1, E1⟩ | ⟨hp, v, x1, e1, E1, B1, hv⟩
    · refine ⟨⟨0, 0, 0, 0, 0, .nils, []⟩, 4, false, .inr ⟨rfl, rfl⟩, x1, e1, E1, .inl ⟨rfl, rfl⟩, (fun _ _ _ _ q => by cases q), by simp, fun Z EZ => ?_⟩
      rcases rof_run hσ (B.ext EZ) (fun q => (hRB q).mono EZ.nx (EZ.blk hid)) (Nat.lt_of_lt_of_le hid EZ.nx) hb (by omega) with ⟨_, x2, e2, E2⟩ | ⟨hd, _⟩
      · exact ⟨.nils, x2, e2, E2, .inl ⟨rfl, rfl⟩, fun _ _ _ _ q => by cases q⟩
      · rw [S.1, hp] at hd; cases hd
    · refine ⟨pP bs v, 0, true, .inl ⟨rfl, rfl⟩, x1, e1, E1, B1, hv, pP_xs hb v, fun Z EZ => ?_⟩
      rcases rof_run hσ (B.ext EZ) (fun q => (hRB q).mono EZ.nx (EZ.blk hid)) (Nat.lt_of_lt_of_le hid EZ.nx) hb (by omega) with ⟨hd, _⟩ | ⟨_, w, x2, e2, E2, B2, hw⟩
      · rw [S.1, hp] at hd; cases hd
      · have hD := fun w => S.2 hp v w
        rw [hD] at e2
        have B2 : BSl (x2.getD Z) w (bc (pP bs v).xs) := by
          have h9 : (pD bs .nils).xs = (pP bs v).xs := by rw [hD]
          rw [← h9]; exact B2
        exact ⟨w, x2, e2, E2, B2, hw⟩
  have op := pk_one BP
  obtain ⟨Y1, hY1⟩ : ∃ Y, Y = x1.getD A := ⟨_, rfl⟩
  rw [← hY1] at E1 BP
  have pl6 : p.cs.length = 6 := rfl
  simp only [go_sem, bl, c0, ea, e1, ← hY1, hzb', zr, zn, pl6]
  refine store_step (Q := Q) (L := p.cs) (by rw [zn, pl6]) op fun pb pn pr pl pg => ?_
  obtain ⟨P1, hP1⟩ : ∃ P, P = (Y1.alloc (.cells zb)).put Y1.nx (.cells pb) := ⟨_, rfl⟩
  have P1E : Ext Y1 P1 := by rw [hP1]; exact ((Ext.refl Y1).alloc' _).put _ (Nat.le_refl _)
  have P1nx : P1.nx = Y1.nx + 1 := by rw [hP1]; rfl
  have P1p : P1.blk Y1.nx = some pb := by rw [hP1]; exact put_blk_same _ _ _
  have EP1 : Ext h P1 := (EA.trans E1).trans P1E
  obtain ⟨w, x2, e2, E2, BW, hw⟩ := rest P1 EP1
  have ow := pk_one (p := { p with v := w }) BW
  obtain ⟨Y2, hY2⟩ : ∃ Y, Y = x2.getD P1 := ⟨_, rfl⟩
  rw [← hY2] at E2 BW
  have wl6 : ({ p with v := w } : Pk).cs.length = 6 := rfl
  simp only [go_sem, bl, c0, ea, e1, ← hY1, hzb', zr, zn, pl6, ← hP1, e2, ← hY2, wl6]
  refine store_step (Q := Q) (L := ({ p with v := w } : Pk).cs) (by rw [zn, wl6]) ow fun wb wn wr wl wg => ?_
  obtain ⟨W, hW⟩ : ∃ P, P = (Y2.alloc (.cells zb)).put Y2.nx (.cells wb) := ⟨_, rfl⟩
  have WE : Ext Y2 W := by rw [hW]; exact ((Ext.refl Y2).alloc' _).put _ (Nat.le_refl _)
  have Wnx : W.nx = Y2.nx + 1 := by rw [hW]; rfl
  have Ww : W.blk Y2.nx = some wb := by rw [hW]; exact put_blk_same _ _ _
  have e2n := E2.nx
  have e1n := E1.nx
  have ean := EA.nx
  have Wp : W.blk Y1.nx = some pb := (WE.blk (by omega)).trans ((E2.blk (by omega)).trans P1p)
  have EAW : Ext A W := ((E1.trans P1E).trans E2).trans WE
  have EW : Ext h W := EA.trans EAW
  rw [zn] at pl wl
  simp only [go_sem, bl, c0, ea, e1, ← hY1, hzb', zr, zn, pl6, ← hP1, e2, ← hY2, wl6, ← hW]
  obtain ⟨ld, hld, hla, hlh⟩ : ∃ ld, (0 < bs.length → ld = lid) ∧ (ld < A.nx ∨ W.nx ≤ ld) ∧ h.nx ≤ ld := by
    rcases L.val with ⟨h1, _⟩ | ⟨_, _, h1, _⟩
    · exact ⟨W.nx, fun q => by omega, .inr (Nat.le_refl _), by omega⟩
    · exact ⟨lid, fun _ => rfl, .inl h1, lg⟩
  refine loop_ind (Q := Q) (fun i env h' => evT env 3 = s ∧ evT env 4 = .ptr Y1.nx 0 ∧ evT env 5 = .int .i64 e ∧ evT env 6 = .ptr Y2.nx 0 ∧ evT env 7 = .bool ok ∧ evT env 8 = .int .i64 (Int.ofNat i) ∧ RFr W h' ld ∧ (0 < bs.length → ∃ b, h'.blk lid = some b ∧ b.ro = false ∧ b.n = bs.length ∧ ∀ j, j < bs.length → ∃ z, b.get j = some (.int .u8 z))) bs.length 0 ?_ (Nat.zero_le _) ?_ ?_
  · rw [← hW]
    refine ⟨by simp only [go_sem], by simp only [go_sem, ← hY1], by simp only [go_sem], by simp only [go_sem, ← hY2, ← hP1], by simp only [go_sem], by simp only [go_sem]; rfl, RFr.refl _ _, fun h0 => ?_⟩
    rcases L.val with ⟨h1, _⟩ | ⟨_, _, h1, b, h2, h3, h4, h5⟩
    · omega
    · refine ⟨b, (EAW.blk h1).trans h2, h3, by rw [h4, Nat.mul_one], fun j hj => ?_⟩
      rw [h5, nth_eq]; unfold bc; rw [List.getElem?_map, List.getElem?_eq_getElem hj]
      exact ⟨_, rfl⟩
  · rintro i env h' ⟨q3, q4, q5, q6, q7, q8, FR, hB⟩ hi next
    obtain ⟨b, hb1, hb2, hb3, hb4⟩ := hB (by omega)
    obtain ⟨z, hz⟩ := hb4 i hi
    have lt8 : Int.ofNat i < Int.ofNat bs.length := by simp; omega
    have wi := wrap_succ (i := i) (by omega)
    have hs : s = .sl lid 0 bs.length (.opn 1) := by
      rcases L.val with ⟨h1, _⟩ | ⟨_, h1, _⟩
      · omega
      · exact h1
    have sl' := sl
    rw [hs] at q3 sl'
    simp only [go_sem, q3, q4, q5, q6, q7, q8, sl', lt8, wi, hi, hb1, hb2, hb3, hz, Nat.mul_one, Nat.zero_add]
    refine next _ _ ⟨by simp only [go_sem, q3, hs], by simp only [go_sem, q4], by simp only [go_sem, q5], by simp only [go_sem, q6], by simp only [go_sem, q7], by simp only [go_sem], by rw [← hld (by omega)]; exact FR.put _, fun _ => ⟨_, put_blk_same _ _ _, by simp only [go_sem, hb2], by simp only [go_sem, hb3], fun j hj => ?_⟩⟩
    by_cases hji : j = i
    · subst hji; exact ⟨_, st_get_same _ _ _ (by omega)⟩
    · rw [st_get_ne _ _ _ _ hji]; exact hb4 j hj
  rintro env h' ⟨q3, q4, q5, q6, q7, q8, FR, hB⟩
  have lt9 : ¬ Int.ofNat bs.length < Int.ofNat bs.length := Int.lt_irrefl _
  have hp1 : h'.blk Y1.nx = some pb := (blk_eq (FR.old _ (by omega) (by omega))).trans Wp
  have hw1 : h'.blk Y2.nx = some wb := (blk_eq (FR.old _ (by omega) (by omega))).trans Ww
  have E' : Ext h h' := FR.ext EW hlh
  have BP' : BSl h' p.v (bc p.xs) := bsl_rfr (BP.ext ((P1E.trans E2).trans WE)) FR fun i off l c q => by
    have h2 := hpn i off l c q
    rcases BP with ⟨_, q2⟩ | ⟨_, _, _, _, _, q2⟩ | ⟨i', _, _, _, q2, q3, _⟩
    · rw [q2] at q; cases q
    · rw [q2] at q; cases q
    · rw [q2] at q; cases q; omega
  have BW' : BSl h' w (bc p.xs) := bsl_rfr (BW.ext WE) FR fun i off l c q => by
    have h2 := hw i off l c q
    omega
  have sm : (lim Tryd.prog σ).call 12 [.agg p.cs, .agg ({ p with v := w } : Pk).cs] h' = some (.bool true, none) := same_run hσ' p w BP' BW' hpx
  obtain ⟨yk, hkn, _⟩ := known_run hσ (g.ext E')
  have nr : (lim Tryd.prog σ).call 8 [.int .i64 e] h' = some (.int .i64 e, none) := num_run hσ h' e (by omega) (by omega)
  rcases hq with ⟨rfl, rfl⟩ | ⟨rfl, rfl⟩
  · simp only [go_sem, sl, lt9, q3, q4, q5, q6, q7, q8, hp1, hw1, pl, wl, sm, nr, hkn]
    rw [hQ]; exact tru_fin _ _
  · simp only [go_sem, sl, lt9, q3, q4, q5, q6, q7, q8, hp1, hw1, pl, wl, sm, nr, hkn]
    rw [hQ]; exact tru_fin _ _
end Go.Cl.Sh.W

namespace Go.Cl.Sh.W
theorem cellsOf_r8 : Tryd.prog.cellsOf 5 = 1 := by kernel_rfl
theorem nltR {α : Type} {l : List α} {i : Nat} {v : α} (h : nth l i = some v) : i < l.length := by
  rw [nth_eq] at h; exact (List.getElem?_eq_some_iff.1 h).1
theorem rb_of {h : H} (h0 : 0 < h.nx) {c : CV} (a : Arg Tryd.prog h 24 c) : ∃ (id : Nat) (bs : List Nat), BSl h c (bc bs) ∧ (23 ≤ bs.length → RB h id c bs) ∧ id < h.nx ∧ ∀ b ∈ bs, b < 256 := by
  have h1 : c.one = true := by rcases a.one with ⟨_, h⟩ | ⟨_, _, h⟩ | h; rw [Tryd.underlying24] at h; cases h; rw [Tryd.underlying24] at h; cases h; exact h
  have r := a.rd
  rw [cells_one h1] at r
  generalize hcs : [c] = cs at r
  cases r with
  | nils ht => simp at hcs; subst hcs; exact ⟨0, [], .inl ⟨rfl, rfl⟩, fun q => by simp at q, h0, by simp⟩
  | sl0 id ht hid => simp at hcs; subst hcs; exact ⟨0, [], .inr (.inl ⟨rfl, id, 0, 0, 0, rfl⟩), fun q => by simp at q, h0, by simp⟩
  | sl id len cap b xs ht hid hl hcap hb hro hxl hxg hx =>
    simp at hcs; subst hcs
    rw [Tryd.underlying24] at ht; cases ht
    rw [cellsOf_r8] at hxl hxg
    obtain ⟨l, hll, hq⟩ := list_of (Q := fun i (m : Nat) => xs i = [.int .u8 (Int.ofNat m)] ∧ m < 256) len fun i hi => by
      obtain ⟨m, e, h1, h2⟩ := (hx i hi).int_inv Tryd.underlying5
      have h1 : 0 ≤ m := h1
      have h2 : m ≤ 255 := h2
      exact ⟨m.toNat, by rw [e]; congr 2; simp; omega, by omega⟩
    have ld : b.loadN 0 len = some (bc l) := loadN_of _ _ _ (by rw [bc_len, hll]) fun i v hv => by
      have hi := nltR hv
      rw [bc_len, hll] at hi
      obtain ⟨m, hm⟩ : ∃ m, l[i]? = some m := ⟨_, List.getElem?_eq_getElem (by omega)⟩
      have e := (hq i m hm).1
      have := hxg i 0 (.int .u8 (Int.ofNat m)) hi (by rw [e]; rfl)
      rw [Nat.zero_add]
      rw [nth_eq] at hv
      simp [bc, hm] at hv
      rw [← hv]
      simpa using this
    refine ⟨id, l, .inr (.inr ⟨id, 0, _, b, by rw [bc_len, hll], hid, hb, by rw [bc_len, hll]; exact ld⟩), fun _ => ⟨0, cap, b, by rw [hll], by rw [hll]; omega, hid, hb, by rw [hll]; exact ld⟩, hid, fun b hb => ?_⟩
    obtain ⟨i, hi, rfl⟩ := List.getElem_of_mem hb
    exact (hq i _ (List.getElem?_eq_getElem hi)).2
  | _ => simp_all
end Go.Cl.Sh.W
