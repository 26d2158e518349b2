/- The program's functions, run by the rewriting evaluator: what each answers and leaves (MbB). -/
import Derived.Test.YtadmgnlmoodjeaaDoorMbA
set_option linter.all false
open Go Go.Cl Go.Proofs
namespace Go.Cl.Sh
variable {σ : Sums}
set_option maxRecDepth 1000000

theorem bc_app (a b : List Nat) : bc (a ++ b) = bc a ++ bc b := by simp [bc]
theorem bc_one (l : List Nat) : (bc l).all CV.one = true := List.all_eq_true.2 fun x hx => by
  obtain ⟨b, _, rfl⟩ := List.mem_map.1 hx; rfl
/-- bytes, of whomever -/
def BV (h : H) (v : CV) (xs : List Nat) : Prop :=
  (xs = [] ∧ (v = .nils ∨ (∃ a b c d, v = .sl0 a b c d) ∨ ∃ a b c d, v = .slend a b c d)) ∨
  ∃ id off c b, v = .sl id off xs.length c ∧ id < h.nx ∧ h.blk id = some b ∧ b.loadN off xs.length = some (bc xs) ∧ CapOk h id off xs.length c
theorem BV.ext {h h' : H} {v : CV} {xs : List Nat} (B : BV h v xs) (e : Ext h h') : BV h' v xs := by
  rcases B with h1 | ⟨id, off, c, b, h1, h2, h3, h4, h5⟩
  · exact .inl h1
  · refine .inr ⟨id, off, c, b, h1, Nat.lt_of_lt_of_le h2 e.nx, (e.blk h2).trans h3, h4, ?_⟩
    rcases h5 with h5 | ⟨h5, b', h6, h7⟩
    · exact .inl h5
    · exact .inr ⟨h5, b', (e.blk h2).trans h6, h7⟩
theorem BV.one {h : H} {v : CV} {xs : List Nat} (B : BV h v xs) : v.one = true ∧ v.cells = [v] := by
  rcases B with ⟨_, rfl | ⟨a, b, c, d, rfl⟩ | ⟨a, b, c, d, rfl⟩⟩ | ⟨id, off, c, b, rfl, _⟩ <;> exact ⟨rfl, rfl⟩
theorem BV.len {h : H} {v : CV} {xs : List Nat} (B : BV h v xs) (h' : H) (ts : List TypeId) (az : List CV) : builtinT Tryd.prog h' .len (24 :: ts) (v :: az) = some (.val (.int .i64 (Int.ofNat xs.length))) := by
  rcases B with ⟨rfl, rfl | ⟨a, b, c, d, rfl⟩ | ⟨a, b, c, d, rfl⟩⟩ | ⟨id, off, c, b, rfl, _⟩ <;> simp [builtinT, Tryd.underlying24, lenC]
theorem app_22e (h : H) (s : CV) (a b c d : Nat) : builtinT Tryd.prog h .append [24, 24] [s, .slend a b c d] = uv (appS h 1 1 1 s 0 (some [])) := by kernel_rfl
theorem app_22z (h : H) (s : CV) (a b c d : Nat) : builtinT Tryd.prog h .append [24, 24] [s, .sl0 a b c d] = uv (appS h 1 1 1 s 0 (some [])) := by kernel_rfl
theorem BV.app {h : H} {v : CV} {xs : List Nat} (B : BV h v xs) (s : CV) : builtinT Tryd.prog h .append [24, 24] [s, v] = uv (appS h 1 1 1 s xs.length (some (bc xs))) := by
  rcases B with ⟨rfl, rfl | ⟨a, b, c, d, rfl⟩ | ⟨a, b, c, d, rfl⟩⟩ | ⟨id, off, c, b, rfl, h1, h2, h3, _⟩
  · rw [app_24_n, ap_24_n]; rfl
  · exact app_22z _ _ _ _ _ _
  · exact app_22e _ _ _ _ _ _
  · rw [app_24, ap_24, firstC_sl, h2, bind_some', Nat.mul_one, h3]
theorem loadN_app {b : Blk} : ∀ (m n off : Nat), b.loadN off (m + n) = (b.loadN off m).bind fun x => (b.loadN (off + m) n).map fun y => x ++ y
  | 0, n, off => by simp [loadN_z, Nat.zero_add]
  | m + 1, n, off => by
    rw [show m + 1 + n = (m + n) + 1 by omega, loadN_s, loadN_s, loadN_app m n (off + 1)]
    cases b.get off with
    | none => rfl
    | some v =>
      simp only [bind_some']
      rw [show off + (m + 1) = off + 1 + m by omega]
      cases b.loadN (off + 1) m with
      | none => rfl
      | some x => simp only [bind_some']; cases b.loadN (off + 1 + m) n <;> rfl
theorem load_cut {b : Blk} {off : Nat} {xs : List Nat} (h : b.loadN off xs.length = some (bc xs)) {lo n : Nat} (hn : lo + n ≤ xs.length) : b.loadN (off + lo) n = some (bc ((xs.drop lo).take n)) := by
  obtain ⟨hl, hg⟩ := loadN_spec h
  refine loadN_of _ _ _ (by rw [bc_len, List.length_take, List.length_drop]; omega) fun i v hv => ?_
  have hi := nlt hv
  rw [bc_len, List.length_take, List.length_drop] at hi
  rw [Nat.add_assoc, hg (lo + i) (by omega), ← hv, nth_eq]
  simp [bc, show lo + i < xs.length by omega, show i < n by omega]
/-- what is left behind a place -/
theorem BV.drop {h : H} {v : CV} {xs : List Nat} (B : BV h v xs) {lo : Nat} (hl : lo ≤ xs.length) : ∃ v', sliceT Tryd.prog h 24 v (some (.int .i64 (Int.ofNat lo))) none none = some v' ∧ BV h v' (xs.drop lo) := by
  rcases B with ⟨rfl, hv⟩ | ⟨id, off, c, b, rfl, h1, h2, h3, h4⟩
  · have : lo = 0 := by simpa using hl
    subst this
    rcases hv with rfl | ⟨a, b, c, d, rfl⟩ | ⟨a, b, c, d, rfl⟩
    · exact ⟨.nils, by kernel_rfl, .inl ⟨rfl, .inl rfl⟩⟩
    · exact ⟨.sl0 a b c d, by kernel_rfl, .inl ⟨rfl, .inr (.inl ⟨_, _, _, _, rfl⟩)⟩⟩
    · exact ⟨.slend a b c d, by kernel_rfl, .inl ⟨rfl, .inr (.inr ⟨_, _, _, _, rfl⟩)⟩⟩
  · have hdl : (xs.drop lo).length = xs.length - lo := List.length_drop
    rcases h4 with ⟨n, rfl, hn⟩ | ⟨rfl, b', hb', hbn⟩
    · by_cases q : n = lo
      · refine ⟨.sl id off 0 (.exact 0), ?_, .inr ⟨id, off, .exact 0, b, by rw [hdl]; congr 1; omega, h1, h2, ?_, .inl ⟨0, rfl, by rw [hdl]; omega⟩⟩⟩
        · simp only [sliceT, Tryd.underlying24, Option.bind_some, sz_5, sliceExact, bnd, toN, Int.ofNat_eq_natCast, Nat.mul_one]
          simp [ble_eq', beq_eq', q, show xs.length ≤ lo by omega, show lo ≤ xs.length by omega, show xs.length - lo = 0 by omega]
        · rw [show (xs.drop lo) = [] from List.drop_eq_nil_of_le (by omega)]; rfl
      · refine ⟨.sl id (off + lo) (xs.length - lo) (.exact (n - lo)), ?_, .inr ⟨id, off + lo, .exact (n - lo), b, by rw [hdl], h1, h2, ?_, .inl ⟨_, rfl, by rw [hdl]; omega⟩⟩⟩
        · simp only [sliceT, Tryd.underlying24, Option.bind_some, sz_5, sliceExact, bnd, toN, Int.ofNat_eq_natCast, Nat.mul_one]
          simp [ble_eq', beq_eq', show xs.length ≤ n by omega, q, show lo ≤ xs.length by omega]
        · have := load_cut h3 (lo := lo) (n := xs.length - lo) (by omega)
          rw [hdl, this, List.take_of_length_le (by rw [hdl]; exact Nat.le_refl _)]
    · rw [h2] at hb'; cases hb'
      by_cases q : lo < b.n - off ∨ lo = 0
      · refine ⟨.sl id (off + lo) (xs.length - lo) (.opn 1), ?_, .inr ⟨id, off + lo, .opn 1, b, by rw [hdl], h1, h2, ?_, .inr ⟨rfl, b, h2, by rw [hdl]; omega⟩⟩⟩
        · simp only [sliceT, Tryd.underlying24, Option.bind_some, sz_5, capK, h2, bnd, toN, Int.ofNat_eq_natCast, Nat.mul_one]
          have hc : (decide (lo < b.n - off) || decide (lo = 0)) = true := by simpa using q
          simp [ble_eq', beq_eq', blt_eq', show xs.length ≤ b.n - off by omega, show lo ≤ xs.length by omega, hc]
        · have := load_cut h3 (lo := lo) (n := xs.length - lo) (by omega)
          rw [hdl, this, List.take_of_length_le (by rw [hdl]; exact Nat.le_refl _)]
      · refine ⟨.slend id off lo 1, ?_, .inl ⟨List.drop_eq_nil_of_le (by omega), .inr (.inr ⟨_, _, _, _, rfl⟩)⟩⟩
        simp only [sliceT, Tryd.underlying24, Option.bind_some, sz_5, capK, h2, bnd, toN, Int.ofNat_eq_natCast, Nat.mul_one]
        have hc : (decide (lo < b.n - off) || decide (lo = 0)) = false := by simpa using q
        simp [ble_eq', beq_eq', blt_eq', show xs.length ≤ b.n - off by omega, show lo ≤ xs.length by omega, hc]

theorem appS_nils {X : H} {m : Nat} {new : List CV} (hm : 0 < m) (hl : new.length = m) (ho : new.all CV.one = true) (hr : m ≤ 70368744177664) : appS X 1 1 1 .nils m (some new) = some (.sl X.nx 0 m (.opn 1), X.alloc (.cells (fillB m new))) := by
  unfold appS
  rw [lenC_nils, bind_some', bind_some']
  have hg : (Nat.blt 0 1 && Nat.ble ((0 + m) * 1) 70368744177664 && Nat.ble (0 + m) 70368744177664 && Nat.beq 1 1 && Nat.beq new.length (m * 1) && new.all CV.one) = true := by
    simp [ho, hl, blt_eq', ble_eq', beq_eq', hr]
  rw [hg, cond_true]
  dsimp only
  rw [beq_eq', decide_eq_false (by omega), cond_false]
  unfold grown
  rw [List.nil_append, Nat.mul_one]
/-- a copy of one's own -/
theorem copy_step {β : Type} {Q : Option β → Prop} {X : H} {xs : List Nat} {K : Out → Option β} (hr : xs.length ≤ 1000000)
    (k : ∀ v' h', Lst h' 1 v' X.nx xs.length (bc xs) → Ext X h' → h'.low = X.low → (h'.nx = X.nx ∨ h'.nx = X.nx + 1) → (xs ≠ [] → v' = .sl X.nx 0 xs.length (.opn 1) ∧ X.nx < h'.nx) → Q (K (.upd v' h'))) :
    Q (@thn _ β (uv (appS X 1 1 1 .nils xs.length (some (bc xs)))) ⟨K⟩) := by
  cases xs with
  | nil =>
    rw [show appS X 1 1 1 .nils ([] : List Nat).length (some (bc [])) = some (.nils, X) from appS_nils0 rfl (by decide)]
    exact k .nils X (Lst.nil _ _ _) (Ext.refl _) rfl (.inl rfl) fun h => absurd rfl h
  | cons x xs =>
    rw [appS_nils (by simp) (bc_len _) (bc_one _) (by omega)]
    refine k _ _ ⟨by rw [bc_len, Nat.mul_one], .inr ⟨by simp, rfl, by simp only [go_sem, Nat.reduceLT, Nat.reduceLeDiff, Nat.reduceEqDiff, Nat.reduceAdd, Nat.reduceSub, Nat.reduceMul, reduceCtorEq, Int.reduceBEq, Int.reduceLT, Int.reduceLE, Int.reduceAdd, Int.reduceSub, Int.reduceEq, Int.reduceNeg, Int.reduceToNat, Int.reduceGT, Int.reduceGE], fillB (x :: xs).length (bc (x :: xs)), alloc_blk_same _ _ _ rfl, wfillB_ro _ _, by rw [wfillB_n, Nat.mul_one], fun i => fillB_get _ _ _ (bc_len _).symm⟩⟩ (Ext.alloc _ _) rfl (.inr rfl) fun _ => ⟨rfl, by simp only [go_sem, Nat.reduceLT, Nat.reduceLeDiff, Nat.reduceEqDiff, Nat.reduceAdd, Nat.reduceSub, Nat.reduceMul, reduceCtorEq, Int.reduceBEq, Int.reduceLT, Int.reduceLE, Int.reduceAdd, Int.reduceSub, Int.reduceEq, Int.reduceNeg, Int.reduceToNat, Int.reduceGT, Int.reduceGE]⟩
theorem lst_bv {h : H} {v : CV} {id n : Nat} {xs : List Nat} (l : Lst h 1 v id n (bc xs)) : BV h v xs := by
  have hl := l.len
  rw [bc_len, Nat.mul_one] at hl
  rcases l.val with ⟨h0, rfl⟩ | ⟨h0, rfl, h1, b, h2, h3, h4, h5⟩
  · subst h0; exact .inl ⟨List.length_eq_zero_iff.1 hl, .inl rfl⟩
  · exact .inr ⟨id, 0, .opn 1, b, by rw [hl], h1, h2, loadN_of _ _ _ (bc_len _) fun i v hv => by rw [Nat.zero_add, h5, hv], .inr ⟨rfl, b, h2, by omega⟩⟩

/-- a slice of one's own that grew from nothing -/
structure G (h h' : H) (v : CV) (ys : List Nat) (lid : Nat) : Prop where
  ge : h.nx ≤ lid
  lst : Lst h' 1 v lid ys.length (bc ys)
  ext : Ext h h'
  low : h'.low = h.low
  bl : h.low ≤ h.nx
theorem G.alloc {h h' : H} {v : CV} {ys : List Nat} {lid : Nat} (g : G h h' v ys lid) (o : CObj) : G h (h'.alloc o) v ys lid := ⟨g.ge, g.lst.ext (Ext.alloc _ _), g.ext.alloc' _, g.low, g.bl⟩
theorem G.bv {h h' : H} {v : CV} {ys : List Nat} {lid : Nat} (g : G h h' v ys lid) : BV h' v ys := lst_bv g.lst
theorem grow_step {β : Type} {Q : Option β → Prop} {h X : H} {v : CV} {ys ns : List Nat} {lid : Nat} {K : Out → Option β} (g : G h X v ys lid) (hn : 0 < ns.length) (hr : ys.length + ns.length ≤ 1000000)
    (k : ∀ h' v', v' = .sl X.nx 0 (ys ++ ns).length (.opn 1) → G h h' v' (ys ++ ns) X.nx → X.nx < h'.nx → Q (K (.upd v' h'))) :
    Q (@thn _ β (uv (appS X 1 1 1 v ns.length (some (bc ns)))) ⟨K⟩) := by
  refine app_step (Q := Q) (by_ := 1) g.lst hn (by rw [bc_len, Nat.mul_one]) (bc_one _) rfl (by decide) (by omega) (by omega) fun h' L hnx hgn hold hlow hlow2 => ?_
  have hl : (ys ++ ns).length = ys.length + ns.length := List.length_append
  have := k h' _ rfl ⟨g.ext.nx, by rw [hl, bc_app]; exact L, ⟨by have := g.ext.nx; omega, hgn.trans g.ext.gn, fun i hi => (hold i (Nat.lt_of_lt_of_le hi g.ext.nx) fun _ => by have := g.ge; omega).trans (g.ext.old i hi)⟩, by have := g.low; have := g.ge; have := g.bl; omega, g.bl⟩ (by omega)
  rw [hl] at this
  exact this

/-! ### the end of a message -/
def zs (n : Nat) : List Nat := List.replicate n 0
def wbN (x : BitVec 32) : List Nat := [(x >>> 24).toNat % 256, (x >>> 16).toNat % 256, (x >>> 8).toNat % 256, x.toNat % 256]
theorem wb_bc (x : BitVec 32) : wb x = bc (wbN x) := rfl
/-- how many zeros stand behind a message of so many bytes -/
def zn (n : Nat) : Nat := (119 - n % 64) % 64
def cnt (len : Nat) : BitVec 64 := BitVec.ofNat 64 len * BitVec.ofNat 64 8
def padL (xs : List Nat) (len : Nat) : List Nat := xs ++ [128] ++ zs (zn xs.length) ++ wbN (BitVec.ofNat 32 (cnt len >>> 32).toNat) ++ wbN (BitVec.ofNat 32 (cnt len).toNat)

def PadOk (h : H) (ys : List Nat) (r : Option (CV × Option H)) : Prop := ∃ id h', r = some (.sl id 0 ys.length (.opn 1), some h') ∧ h.nx ≤ id ∧ id < h'.nx ∧ Ext h h' ∧ h'.low = min h.low h.nx ∧ BV h' (.sl id 0 ys.length (.opn 1)) ys

theorem app_i8 (h : H) (s : CV) : builtinT Tryd.prog h .append [24, 3] [s, .int .i64 8] = uv (appS h 1 1 1 s 8 (some (bc (zs 8)))) := by kernel_rfl
theorem rem64i {n : Nat} : ∀ t xo yo, binT Tryd.prog .rem t xo yo (.int .i64 (Int.ofNat n)) (.int .i64 64) = some (.int .i64 (Int.ofNat (n % 64))) := fun _ _ _ => rfl

theorem padded_run (hσ : ∀ f a h, W.told f = false → σ f a h = none) {h : H} {v : CV} {xs : List Nat} {len : Nat} (B : BV h v xs) (hx : xs.length ≤ 100000) (hlen : len ≤ 100000) :
    PadOk h (padL xs len) ((lim Tryd.prog σ).call 68 [v, .int .i64 (Int.ofNat len)] h) := by
  obtain ⟨Q, hQ⟩ : ∃ Q, Q = PadOk h (padL xs len) := ⟨_, rfl⟩
  rw [← hQ]
  rw [call_eq (hσ _ _ _ (by decide)) fn_68 rfl rfl, Tryd.ntmps68, Tryd.results68]
  simp only [go_sem, Nat.reduceLT, Nat.reduceLeDiff, Nat.reduceEqDiff, Nat.reduceAdd, Nat.reduceSub, Nat.reduceMul, reduceCtorEq, Int.reduceBEq, Int.reduceLT, Int.reduceLE, Int.reduceAdd, Int.reduceSub, Int.reduceEq, Int.reduceNeg, Int.reduceToNat, Int.reduceGT, Int.reduceGE, (B.ext (Ext.lo h)).app]
  refine copy_step (Q := Q) (xs := xs) (by omega) fun v1 h1 L1 E1 hlow1 hnx1 hval1 => ?_
  clear hval1
  have G1 : G h.lo h1 v1 xs h.nx := ⟨Nat.le_refl _, L1, E1, hlow1, Nat.le_refl _⟩
  clear L1 E1 hlow1 hnx1
  simp only [go_sem, Nat.reduceLT, Nat.reduceLeDiff, Nat.reduceEqDiff, Nat.reduceAdd, Nat.reduceSub, Nat.reduceMul, reduceCtorEq, Int.reduceBEq, Int.reduceLT, Int.reduceLE, Int.reduceAdd, Int.reduceSub, Int.reduceEq, Int.reduceNeg, Int.reduceToNat, Int.reduceGT, Int.reduceGE]
  have G2 := G1.alloc (.cells ({ n := 1, d := [CV.int IntKind.u8 0], t := T.nil, ro := false : Blk }.st 0 (CV.int IntKind.u8 128)))
  refine grow_step (Q := Q) (ns := [128]) G2 (by decide) (by simp; omega) fun h2 v2 hv2 G3 hlt => ?_
  simp only [go_sem, Nat.reduceLT, Nat.reduceLeDiff, Nat.reduceEqDiff, Nat.reduceAdd, Nat.reduceSub, Nat.reduceMul, reduceCtorEq, Int.reduceBEq, Int.reduceLT, Int.reduceLE, Int.reduceAdd, Int.reduceSub, Int.reduceEq, Int.reduceNeg, Int.reduceToNat, Int.reduceGT, Int.reduceGE]
  have hlen1 : (xs ++ [128]).length = xs.length + 1 := by simp
  have hz : ∀ i, (xs ++ [128] ++ zs i).length = xs.length + 1 + i := fun i => by simp [zs]; omega
  refine loop_ind (Q := Q) (fun i env h' => evT env 1 = .int .i64 (Int.ofNat len) ∧ ∃ lid, G h.lo h' (evT env 5) (xs ++ [128] ++ zs i) lid) (zn xs.length) 0 ?_ (Nat.zero_le _) ?_ ?_
  · have G3' : ∃ lid, G h.lo h2 v2 (xs ++ [128] ++ zs 0) lid := ⟨_, by rw [show zs 0 = [] from rfl, List.append_nil]; exact G3⟩
    obtain ⟨lid, G3'⟩ := G3'
    exact ⟨by simp only [go_sem, Nat.reduceLT, Nat.reduceLeDiff, Nat.reduceEqDiff, Nat.reduceAdd, Nat.reduceSub, Nat.reduceMul, reduceCtorEq, Int.reduceBEq, Int.reduceLT, Int.reduceLE, Int.reduceAdd, Int.reduceSub, Int.reduceEq, Int.reduceNeg, Int.reduceToNat, Int.reduceGT, Int.reduceGE], lid, by simp only [go_sem, Nat.reduceLT, Nat.reduceLeDiff, Nat.reduceEqDiff, Nat.reduceAdd, Nat.reduceSub, Nat.reduceMul, reduceCtorEq, Int.reduceBEq, Int.reduceLT, Int.reduceLE, Int.reduceAdd, Int.reduceSub, Int.reduceEq, Int.reduceNeg, Int.reduceToNat, Int.reduceGT, Int.reduceGE]; exact G3'⟩
  · rintro i env h' ⟨e1, lid, G4⟩ hi next
    have hzn : zn xs.length < 64 := Nat.mod_lt _ (by decide)
    have c1 : ¬ Int.ofNat ((xs.length + 1 + i) % 64) = 56 := by
      unfold zn at hi hzn
      intro q
      have : (xs.length + 1 + i) % 64 = 56 := Int.ofNat.inj q
      omega
    simp only [go_sem, Nat.reduceLT, Nat.reduceLeDiff, Nat.reduceEqDiff, Nat.reduceAdd, Nat.reduceSub, Nat.reduceMul, reduceCtorEq, Int.reduceBEq, Int.reduceLT, Int.reduceLE, Int.reduceAdd, Int.reduceSub, Int.reduceEq, Int.reduceNeg, Int.reduceToNat, Int.reduceGT, Int.reduceGE, e1, G4.bv.len, hz, rem64i, c1]
    have G5 := G4.alloc (.cells ({ n := 1, d := [CV.int IntKind.u8 0], t := T.nil, ro := false : Blk }.st 0 (CV.int IntKind.u8 0)))
    refine grow_step (Q := Q) (ns := [0]) G5 (by decide) (by rw [hz]; simp; omega) fun h2 v2 hv2 G6 hlt => ?_
    simp only [go_sem, Nat.reduceLT, Nat.reduceLeDiff, Nat.reduceEqDiff, Nat.reduceAdd, Nat.reduceSub, Nat.reduceMul, reduceCtorEq, Int.reduceBEq, Int.reduceLT, Int.reduceLE, Int.reduceAdd, Int.reduceSub, Int.reduceEq, Int.reduceNeg, Int.reduceToNat, Int.reduceGT, Int.reduceGE]
    rw [show xs ++ [128] ++ zs i ++ [0] = xs ++ [128] ++ zs (i + 1) by simp [zs, List.replicate_succ']] at G6
    exact next _ _ ⟨by simp only [go_sem, Nat.reduceLT, Nat.reduceLeDiff, Nat.reduceEqDiff, Nat.reduceAdd, Nat.reduceSub, Nat.reduceMul, reduceCtorEq, Int.reduceBEq, Int.reduceLT, Int.reduceLE, Int.reduceAdd, Int.reduceSub, Int.reduceEq, Int.reduceNeg, Int.reduceToNat, Int.reduceGT, Int.reduceGE, e1], _, by simp only [go_sem, Nat.reduceLT, Nat.reduceLeDiff, Nat.reduceEqDiff, Nat.reduceAdd, Nat.reduceSub, Nat.reduceMul, reduceCtorEq, Int.reduceBEq, Int.reduceLT, Int.reduceLE, Int.reduceAdd, Int.reduceSub, Int.reduceEq, Int.reduceNeg, Int.reduceToNat, Int.reduceGT, Int.reduceGE]; exact G6⟩
  clear G1 G2 G3 hlt hv2 v2 h2 h1 v1
  rintro env h' ⟨e1, lid, G4⟩
  have hzn : zn xs.length < 64 := Nat.mod_lt _ (by decide)
  have c1 : Int.ofNat ((xs.length + 1 + zn xs.length) % 64) = 56 := by
    have : (xs.length + 1 + zn xs.length) % 64 = 56 := by unfold zn; omega
    rw [this]; rfl
  have l8 : CV.int .u64 8 = w64 (BitVec.ofNat 64 8) := rfl
  simp only [go_sem, Nat.reduceLT, Nat.reduceLeDiff, Nat.reduceEqDiff, Nat.reduceAdd, Nat.reduceSub, Nat.reduceMul, reduceCtorEq, Int.reduceBEq, Int.reduceLT, Int.reduceLE, Int.reduceAdd, Int.reduceSub, Int.reduceEq, Int.reduceNeg, Int.reduceToNat, Int.reduceGT, Int.reduceGE, wadd32, wmul32, wadd64, wmul64, wand32, wor32, wxor32, wand64, wor64, wnot32, wsub32, wsub64, wshr32l, wshl32l, wshr64l, wshl64l, wshr32w, wshl32w, wshr64w, wlt64, wgt64, weq64, wne64, e1, G4.bv.len, hz, rem64i, c1, cv331, l8, app_i8]
  refine grow_step (Q := Q) (ns := zs 8) G4 (by decide) (by rw [hz]; simp [zs]; omega) fun h2 v2 hv2 G5 hlt => ?_
  obtain ⟨ys, hys⟩ : ∃ ys, ys = xs ++ [128] ++ zs (zn xs.length) := ⟨_, rfl⟩
  rw [← hys] at G5 hv2
  have hyl : ys.length = xs.length + 1 + zn xs.length := by rw [hys]; exact hz _
  have hyz : (ys ++ zs 8).length = ys.length + 8 := by simp [zs]
  rw [hyz] at hv2
  subst hv2
  have hid : h.nx ≤ h'.nx := G5.ge
  have E5 : Ext h h2 := (Ext.lo h).trans G5.ext
  have hlw : h2.low = h.nx := G5.low
  obtain ⟨_, hval⟩ := G5.lst
  rcases hval with ⟨h0, _⟩ | ⟨h0, _, hlt2, b, hb, hbr, hbn, hbg⟩
  · rw [hyz] at h0; omega
  rw [hyz, Nat.mul_one] at hbn
  clear G4 G5 c1
  generalize h'.nx = id at hid hlt hlt2 hb ⊢
  have tl : ∀ k (h : H) (b : Blk), k ≤ 8 → 0 < k → h.blk id = some b → b.n = ys.length + 8 → sliceT Tryd.prog h 24 (.sl id 0 (ys.length + 8) (.opn 1)) (some (.int .i64 (Int.ofNat (ys.length + 8 - k)))) none none = some (.sl id (ys.length + 8 - k) k (.opn 1)) := fun k h b hk hk0 hb hbn => by
    simp only [sliceT, Tryd.underlying24, Option.bind_some, sz_5, capK, hb, bnd, toN, Int.ofNat_eq_natCast, Nat.mul_one]
    simp [ble_eq', beq_eq', blt_eq', hbn, show ys.length + 8 - k < ys.length + 8 by omega, show ys.length + 8 - (ys.length + 8 - k) = k by omega]
  have w8 : IntKind.wrap .i64 (Int.ofNat (ys.length + 8) - 8) = Int.ofNat (ys.length + 8 - 8) := wrap_n (by simp) (by omega)
  have w4 : IntKind.wrap .i64 (Int.ofNat (ys.length + 8) - 4) = Int.ofNat (ys.length + 8 - 4) := wrap_n (by simp; omega) (by omega)
  have t8 := tl 8 h2 b (by decide) (by decide) hb hbn
  have lsl : ∀ (h : H) ts az, builtinT Tryd.prog h .len (24 :: ts) (.sl id 0 (ys.length + 8) (.opn 1) :: az) = some (.val (.int .i64 (Int.ofNat (ys.length + 8)))) := fun h ts az => len_24 _ _ _ _ _ _ _
  have ecnt : BitVec.ofNat 64 len * BitVec.ofNat 64 8 = cnt len := rfl
  obtain ⟨h3, e3, W3⟩ := put_run hσ hb hbr (off := ys.length + 8 - 8) (len := 8) (c := .opn 1) (by omega) (by decide) hlt2 (BitVec.ofNat 32 (cnt len >>> 32).toNat)
  obtain ⟨b3, hb3, hn3, hr3, hg3⟩ := W3.blk
  have t4 := tl 4 h3 b3 (by decide) (by decide) hb3 (by rw [hn3]; exact hbn)
  obtain ⟨h4, e4, W4⟩ := put_run hσ hb3 hr3 (off := ys.length + 8 - 4) (len := 4) (c := .opn 1) (by omega) (by decide) (Nat.lt_of_lt_of_le hlt2 W3.nx) (BitVec.ofNat 32 (cnt len).toNat)
  obtain ⟨b4, hb4, hn4, hr4, hg4⟩ := W4.blk
  simp only [go_sem, Nat.reduceLT, Nat.reduceLeDiff, Nat.reduceEqDiff, Nat.reduceAdd, Nat.reduceSub, Nat.reduceMul, reduceCtorEq, Int.reduceBEq, Int.reduceLT, Int.reduceLE, Int.reduceAdd, Int.reduceSub, Int.reduceEq, Int.reduceNeg, Int.reduceToNat, Int.reduceGT, Int.reduceGE, wadd32, wmul32, wadd64, wmul64, wand32, wor32, wxor32, wand64, wor64, wnot32, wsub32, wsub64, wshr32l, wshl32l, wshr64l, wshl64l, wshr32w, wshl32w, wshr64w, wlt64, wgt64, weq64, wne64, lsl, w8, w4, t8, ecnt, cv3126, e3, t4, e4]
  rw [fin_new _ _ _ (by rw [okB_sl, blt_eq']; exact decide_eq_false (by omega)), hQ]
  have hpl : padL xs len = ys ++ wbN (BitVec.ofNat 32 (cnt len >>> 32).toNat) ++ wbN (BitVec.ofNat 32 (cnt len).toNat) := by unfold padL; rw [hys]
  have hlen8 : (padL xs len).length = ys.length + 8 := by rw [hpl]; simp [wbN]
  have E : Ext h h4 := ⟨by have := E5.nx; have := W3.nx; have := W4.nx; omega, (W4.gn.trans W3.gn).trans E5.gn, fun k hk => by
    have h1 := E5.nx
    have h2 := W3.nx
    rw [W4.old k (by omega) (by omega), W3.old k (by omega) (by omega), E5.old k hk]⟩
  refine ⟨id, h4.up (min h.low h4.low), by rw [hlen8], hid, by simp only [go_sem, Nat.reduceLT, Nat.reduceLeDiff, Nat.reduceEqDiff, Nat.reduceAdd, Nat.reduceSub, Nat.reduceMul, reduceCtorEq, Int.reduceBEq, Int.reduceLT, Int.reduceLE, Int.reduceAdd, Int.reduceSub, Int.reduceEq, Int.reduceNeg, Int.reduceToNat, Int.reduceGT, Int.reduceGE]; have := W3.nx; have := W4.nx; omega, E.up' _, by simp only [go_sem, Nat.reduceLT, Nat.reduceLeDiff, Nat.reduceEqDiff, Nat.reduceAdd, Nat.reduceSub, Nat.reduceMul, reduceCtorEq, Int.reduceBEq, Int.reduceLT, Int.reduceLE, Int.reduceAdd, Int.reduceSub, Int.reduceEq, Int.reduceNeg, Int.reduceToNat, Int.reduceGT, Int.reduceGE]; rw [W4.low, W3.low, hlw]; omega, .inr ⟨id, 0, .opn 1, b4, rfl, by simp only [go_sem, Nat.reduceLT, Nat.reduceLeDiff, Nat.reduceEqDiff, Nat.reduceAdd, Nat.reduceSub, Nat.reduceMul, reduceCtorEq, Int.reduceBEq, Int.reduceLT, Int.reduceLE, Int.reduceAdd, Int.reduceSub, Int.reduceEq, Int.reduceNeg, Int.reduceToNat, Int.reduceGT, Int.reduceGE]; have := W3.nx; have := W4.nx; omega, hb4, loadN_of _ _ _ (bc_len _) fun i v hv => ?_, .inr ⟨rfl, b4, hb4, by rw [hlen8, hn4, hn3, hbn]; omega⟩⟩⟩
  have hi := nlt hv
  rw [bc_len, hlen8] at hi
  rw [Nat.zero_add, hg4, ← hv, hpl, bc_app, bc_app, nth_app, nth_app, bc_len, List.length_append, bc_len, bc_len]
  have hl4 : ∀ x, (wbN x).length = 4 := fun _ => rfl
  simp only [over, hl4, wb_bc, bc_len]
  by_cases q1 : i < ys.length
  · rw [if_neg (by omega), hg3, over, wb_bc, bc_len, hl4, if_neg (by omega), hbg, bc_app, nth_app, bc_len, if_pos q1, if_pos (by omega), if_pos q1]
  · by_cases q2 : i < ys.length + 4
    · rw [if_neg (by omega), hg3, over, wb_bc, bc_len, hl4, if_pos (by omega), if_pos q2, if_neg q1, show i - (ys.length + 8 - 8) = i - ys.length by omega]
    · rw [if_pos (by omega), if_neg q2, show i - (ys.length + 8 - 4) = i - (ys.length + 4) by omega]
end Go.Cl.Sh

namespace Go.Cl.Sh
variable {σ : Sums}
set_option maxRecDepth 1000000

def stA (ys : List Nat) (s : S8) : Nat → S8
  | 0 => s
  | k + 1 => pressS ((ys.drop (64 * k)).take 64) (stA ys s k)
def s0 : S8 := ⟨BitVec.ofNat 32 1779033703, BitVec.ofNat 32 3144134277, BitVec.ofNat 32 1013904242, BitVec.ofNat 32 2773480762, BitVec.ofNat 32 1359893119, BitVec.ofNat 32 2600822924, BitVec.ofNat 32 528734635, BitVec.ofNat 32 1541459225⟩
def tailL (xs : List Nat) : List Nat := padL (xs.drop (64 * (xs.length / 64))) xs.length
def endS (xs : List Nat) : S8 := stA (tailL xs) (stA xs s0 (xs.length / 64)) ((tailL xs).length / 64)
def digest (xs : List Nat) : List Nat := (endS xs).l.flatMap wbN

theorem tailL_len (xs : List Nat) : (tailL xs).length % 64 = 0 ∧ (tailL xs).length ≤ 128 := by
  unfold tailL padL zs zn
  simp only [List.length_append, List.length_drop, List.length_replicate, List.length_cons, List.length_nil, wbN]
  omega
/-- the package's own table -/
structure HG (h : H) : Prop where
  gn : 0 < h.gn
  nx : 0 < h.nx
  blk : ∃ b, h.blk 0 = some b ∧ b.loadN 0 8 = some (s0.l.map w32)
theorem HG.ext {h h' : H} (g : HG h) (e : Ext h h') : HG h' := ⟨by rw [e.gn]; exact g.gn, Nat.lt_of_lt_of_le g.nx e.nx, by
  obtain ⟨b, h1, h2⟩ := g.blk
  exact ⟨b, (e.blk g.nx).trans h1, h2⟩⟩
theorem ids_ws (q : Nat → Bool) : ∀ l : List (BitVec 32), idsIn q (.agg (l.map w32)) = true
  | [] => rfl
  | x :: l => ids_ws q l
theorem beqC_ws (l : List (BitVec 32)) : beqC (.agg (l.map w32)) (.agg (l.map w32)) = true := by
  have : ∀ l : List (BitVec 32), beqCL (l.map w32) (l.map w32) = true := fun l => by
    induction l with
    | nil => rfl
    | cons x l ih => simp only [List.map_cons, beqCL, beqC_w32, Bool.true_and]; exact ih
  simp only [beqC, this]
theorem quo64i {n : Nat} (h : n < 1000000000) : ∀ t xo yo, binT Tryd.prog .quo t xo yo (.int .i64 (Int.ofNat n)) (.int .i64 64) = some (.int .i64 (Int.ofNat (n / 64))) := fun t xo yo => by
  rw [bin_quo]
  show some (CV.int .i64 (IntKind.wrap .i64 (Int.ofNat (n / 64)))) = _
  rw [wrap_n rfl (by omega)]
def wsAll (l : List (BitVec 32)) : CV := .agg (l.map w32)

structure SI (h : H) (v : CV) (h' : H) (env : T CV) (st : S8) : Prop where
  e0 : evT env 0 = v
  e2 : evT env 2 = .ptr h.nx 0
  e3 : evT env 3 = .ptr (h.nx + 1) 0
  e4 : evT env 4 = .ptr (h.nx + 1 + 1) 0
  nx : h.nx + 3 ≤ h'.nx
  ext : Ext h h'
  low : h'.low = h.nx
  s : ∃ b, h'.blk (h.nx + 1) = some b ∧ b.n = 8 ∧ b.ro = false ∧ ∀ i, b.get i = nth (st.l.map w32) i
  k : ∃ b, h'.blk (h.nx + 1 + 1) = some b ∧ ∀ j, j < 64 → b.get j = some (w32 (kw j))
  o : ∃ b, h'.blk h.nx = some b ∧ b.n = 32 ∧ b.ro = false
theorem Wr.ext {h h1 h2 : H} {id n : Nat} {g : Nat → Option CV} (E : Ext h h1) (W : Wr h1 h2 id n g) (hid : h.nx ≤ id) : Ext h h2 :=
  ⟨Nat.le_trans E.nx W.nx, W.gn.trans E.gn, fun k hk => (W.old k (Nat.lt_of_lt_of_le hk E.nx) (by omega)).trans (E.old k hk)⟩
theorem SI.press {h h' h2 : H} {v : CV} {env env' : T CV} {st st' : S8} (I : SI h v h' env st) (W : Wr h' h2 (h.nx + 1) 8 (nth (st'.l.map w32))) (e0 : evT env' 0 = v) (e2 : evT env' 2 = .ptr h.nx 0) (e3 : evT env' 3 = .ptr (h.nx + 1) 0) (e4 : evT env' 4 = .ptr (h.nx + 1 + 1) 0) : SI h v h2 env' st' := by
  have hn := I.nx
  refine ⟨e0, e2, e3, e4, Nat.le_trans I.nx W.nx, W.ext I.ext (by omega), by rw [W.low, I.low]; omega, W.blk, ?_, ?_⟩
  · obtain ⟨b, hb, hg⟩ := I.k
    exact ⟨b, (blk_eq (W.old _ (by omega) (by omega))).trans hb, hg⟩
  · obtain ⟨b, hb, hg⟩ := I.o
    exact ⟨b, (blk_eq (W.old _ (by omega) (by omega))).trans hb, hg⟩
theorem SI.env {h h' : H} {v : CV} {env env' : T CV} {st : S8} (I : SI h v h' env st) (e0 : evT env' 0 = v) (e2 : evT env' 2 = .ptr h.nx 0) (e3 : evT env' 3 = .ptr (h.nx + 1) 0) (e4 : evT env' 4 = .ptr (h.nx + 1 + 1) 0) : SI h v h' env' st :=
  ⟨e0, e2, e3, e4, I.nx, I.ext, I.low, I.s, I.k, I.o⟩
theorem BV.cut {h : H} {v : CV} {xs : List Nat} (B : BV h v xs) {lo hi : Nat} (h1 : lo < hi) (h2 : hi ≤ xs.length) : ∃ id off c b, sliceT Tryd.prog h 24 v (some (.int .i64 (Int.ofNat lo))) (some (.int .i64 (Int.ofNat hi))) none = some (.sl id off (hi - lo) c) ∧
    id < h.nx ∧ h.blk id = some b ∧ b.loadN off (hi - lo) = some (bc ((xs.drop lo).take (hi - lo))) ∧ CapOk h id off (hi - lo) c := by
  rcases B with ⟨rfl, _⟩ | ⟨id, off, c, b, rfl, q1, q2, q3, q4⟩
  · simp at h2; omega
  · obtain ⟨c', e, C⟩ := slc q4 h1 h2
    exact ⟨id, off + lo, c', b, e, q1, q2, load_cut q3 (by omega), C⟩
theorem BV.wr {h h' : H} {id0 l : Nat} {c0 : Cap} {xs : List Nat} {s n : Nat} {g : Nat → Option CV} (B : BV h (.sl id0 0 l c0) xs) (W : Wr h h' s n g) (hne : id0 ≠ s) : BV h' (.sl id0 0 l c0) xs := by
  rcases B with ⟨h1, h2 | ⟨_, _, _, _, h2⟩ | ⟨_, _, _, _, h2⟩⟩ | ⟨id, off, c, b, h1, h2, h3, h4, h5⟩
  · cases h2
  · cases h2
  · cases h2
  · obtain ⟨rfl, rfl, rfl, rfl⟩ : id = id0 ∧ off = 0 ∧ xs.length = l ∧ c = c0 := by cases h1; exact ⟨rfl, rfl, rfl, rfl⟩
    have hb' := (blk_eq (W.old _ h2 hne)).trans h3
    refine .inr ⟨id, 0, c, b, rfl, Nat.lt_of_lt_of_le h2 W.nx, hb', h4, ?_⟩
    rcases h5 with h5 | ⟨h5, b', h6, h7⟩
    · exact .inl h5
    · rw [h3] at h6; cases h6
      exact .inr ⟨h5, b, hb', h7⟩
theorem dig_at (s : S8) {i r : Nat} (hi : i < 8) (hr : r < 4) : nth (bc (s.l.flatMap wbN)) (4 * i + r) = nth (wb (s.at i)) r := by
  have h1 : i = 0 ∨ i = 1 ∨ i = 2 ∨ i = 3 ∨ i = 4 ∨ i = 5 ∨ i = 6 ∨ i = 7 := by omega
  have h2 : r = 0 ∨ r = 1 ∨ r = 2 ∨ r = 3 := by omega
  rcases h1 with rfl | rfl | rfl | rfl | rfl | rfl | rfl | rfl <;> rcases h2 with rfl | rfl | rfl | rfl <;> rfl
theorem digest_len (xs : List Nat) : (digest xs).length = 32 := rfl

theorem sum_run (hσ : ∀ f a h, W.told f = false → σ f a h = none) {h : H} {v : CV} {xs : List Nat} (B : BV h v xs) (g : HG h) (hx : xs.length ≤ 100000) : RetQ h (.agg (bc (digest xs))) ((lim Tryd.prog σ).call 39 [v] h) := by
  obtain ⟨Q, hQ⟩ : ∃ Q, Q = RetQ h (.agg (bc (digest xs))) := ⟨_, rfl⟩
  rw [← hQ]
  rw [call_eq (hσ _ _ _ (by decide)) fn_39 rfl rfl, Tryd.ntmps39, Tryd.results39]
  obtain ⟨gb, hgb, hgl⟩ := g.blk
  have hK : ∀ h, (lim Tryd.prog σ).call 66 [] h = some (.agg (KL.map w32), none) := fun h => constants_run hσ h
  have g0 : 0 < h.gn := g.gn
  have n0 : ¬ 0 = h.nx := by have := g.nx; omega
  have n1 : ¬ 0 = h.nx + 1 := by omega
  have n2 : ¬ 0 = h.nx + 1 + 1 := by omega
  have n3 : 0 < h.nx + 1 := by omega
  have hlen : (KL.map w32).length = 64 := by rw [List.length_map, KL_len]
  have hlen8 : (s0.l.map w32).length = 8 := rfl
  simp only [go_sem, Nat.reduceLT, Nat.reduceLeDiff, Nat.reduceEqDiff, Nat.reduceAdd, Nat.reduceSub, Nat.reduceMul, reduceCtorEq, Int.reduceBEq, Int.reduceLT, Int.reduceLE, Int.reduceAdd, Int.reduceSub, Int.reduceEq, Int.reduceNeg, Int.reduceToNat, Int.reduceGT, Int.reduceGE, ev_global, g0, n0, hgb, hgl, hK]
  refine cnd_go (Q := Q) (by kernel_rfl) ?_
  simp only [go_sem, Nat.reduceLT, Nat.reduceLeDiff, Nat.reduceEqDiff, Nat.reduceAdd, Nat.reduceSub, Nat.reduceMul, reduceCtorEq, Int.reduceBEq, Int.reduceLT, Int.reduceLE, Int.reduceAdd, Int.reduceSub, Int.reduceEq, Int.reduceNeg, Int.reduceToNat, Int.reduceGT, Int.reduceGE, ev_global, g0, n0, n1, n2, hgb, hgl, hK, hlen, hlen8]
  refine store_step (Q := Q) (by rw [wnewBlk_n]; rfl) (one_ws _) fun b1 hn1 hr1 hl1 hg1 => ?_
  simp only [go_sem, Nat.reduceLT, Nat.reduceLeDiff, Nat.reduceEqDiff, Nat.reduceAdd, Nat.reduceSub, Nat.reduceMul, reduceCtorEq, Int.reduceBEq, Int.reduceLT, Int.reduceLE, Int.reduceAdd, Int.reduceSub, Int.reduceEq, Int.reduceNeg, Int.reduceToNat, Int.reduceGT, Int.reduceGE, ev_global, g0, n0, n1, n2, hgb, hgl, hK, hlen, hlen8]
  refine store_step (Q := Q) (by rw [wnewBlk_n, hlen]; rfl) (one_ws _) fun b2 hn2 hr2 hl2 hg2 => ?_
  simp only [go_sem, Nat.reduceLT, Nat.reduceLeDiff, Nat.reduceEqDiff, Nat.reduceAdd, Nat.reduceSub, Nat.reduceMul, reduceCtorEq, Int.reduceBEq, Int.reduceLT, Int.reduceLE, Int.reduceAdd, Int.reduceSub, Int.reduceEq, Int.reduceNeg, Int.reduceToNat, Int.reduceGT, Int.reduceGE, ev_global, g0, n0, n1, n2, hgb, hgl, hK, hlen, hlen8]
  refine cnd_goF (Q := Q) (by kernel_rfl) ?_
  refine cnd_go' (Q := Q) (by kernel_rfl) ?_
  refine cnd_go' (Q := Q) ?_ ?_
  · rw [show leadN _ _ = 2 from by kernel_rfl]
    simp only [go_sem, Nat.reduceLT, Nat.reduceLeDiff, Nat.reduceEqDiff, Nat.reduceAdd, Nat.reduceSub, Nat.reduceMul, reduceCtorEq, Int.reduceBEq, Int.reduceLT, Int.reduceLE, Int.reduceAdd, Int.reduceSub, Int.reduceEq, Int.reduceNeg, Int.reduceToNat, Int.reduceGT, Int.reduceGE, List.take_succ_cons, List.take_zero, leadH_blk, leadH_gn, leadH_nx, g.nx, n3, ev_global, g0, n0, n1, n2, hgb, hgl, hK, hlen, hlen8, ids_ws, beqC_ws]
  have hq := quo64i (n := xs.length) (by omega)
  have w0 : IntKind.wrap .i64 (Int.ofNat (xs.length / 64) * 64) = Int.ofNat (64 * (xs.length / 64)) := wrap_n (by simp; omega) (by omega)
  simp only [go_sem, Nat.reduceLT, Nat.reduceLeDiff, Nat.reduceEqDiff, Nat.reduceAdd, Nat.reduceSub, Nat.reduceMul, reduceCtorEq, Int.reduceBEq, Int.reduceLT, Int.reduceLE, Int.reduceAdd, Int.reduceSub, Int.reduceEq, Int.reduceNeg, Int.reduceToNat, Int.reduceGT, Int.reduceGE, ev_global, g0, n0, n1, n2, hgb, hgl, hK, hlen, hlen8, B.len, hq, w0]
  have hKk : ∀ j, j < 64 → b2.get j = some (w32 (kw j)) := fun j hj => by
    rw [hg2, nth_eq, List.getElem?_map]
    unfold kw
    rw [List.getElem?_eq_getElem (by rw [KL_len]; exact hj)]; rfl
  refine loop_ind (Q := Q) (fun i env h' => SI h v h' env (stA xs s0 i) ∧ evT env 5 = .int .i64 (Int.ofNat (64 * (xs.length / 64))) ∧ evT env 6 = .int .i64 (Int.ofNat (64 * i))) (xs.length / 64) 0 ?_ (Nat.zero_le _) ?_ ?_
  · refine ⟨⟨by simp only [go_sem, Nat.reduceLT, Nat.reduceLeDiff, Nat.reduceEqDiff, Nat.reduceAdd, Nat.reduceSub, Nat.reduceMul, reduceCtorEq, Int.reduceBEq, Int.reduceLT, Int.reduceLE, Int.reduceAdd, Int.reduceSub, Int.reduceEq, Int.reduceNeg, Int.reduceToNat, Int.reduceGT, Int.reduceGE], by simp only [go_sem, Nat.reduceLT, Nat.reduceLeDiff, Nat.reduceEqDiff, Nat.reduceAdd, Nat.reduceSub, Nat.reduceMul, reduceCtorEq, Int.reduceBEq, Int.reduceLT, Int.reduceLE, Int.reduceAdd, Int.reduceSub, Int.reduceEq, Int.reduceNeg, Int.reduceToNat, Int.reduceGT, Int.reduceGE], by simp only [go_sem, Nat.reduceLT, Nat.reduceLeDiff, Nat.reduceEqDiff, Nat.reduceAdd, Nat.reduceSub, Nat.reduceMul, reduceCtorEq, Int.reduceBEq, Int.reduceLT, Int.reduceLE, Int.reduceAdd, Int.reduceSub, Int.reduceEq, Int.reduceNeg, Int.reduceToNat, Int.reduceGT, Int.reduceGE], by simp only [go_sem, Nat.reduceLT, Nat.reduceLeDiff, Nat.reduceEqDiff, Nat.reduceAdd, Nat.reduceSub, Nat.reduceMul, reduceCtorEq, Int.reduceBEq, Int.reduceLT, Int.reduceLE, Int.reduceAdd, Int.reduceSub, Int.reduceEq, Int.reduceNeg, Int.reduceToNat, Int.reduceGT, Int.reduceGE], by simp only [go_sem, Nat.reduceLT, Nat.reduceLeDiff, Nat.reduceEqDiff, Nat.reduceAdd, Nat.reduceSub, Nat.reduceMul, reduceCtorEq, Int.reduceBEq, Int.reduceLT, Int.reduceLE, Int.reduceAdd, Int.reduceSub, Int.reduceEq, Int.reduceNeg, Int.reduceToNat, Int.reduceGT, Int.reduceGE]; omega, ((((((Ext.lo h).alloc' _).alloc' _).alloc' _).put _ (by omega)).put _ (by omega)), by simp only [go_sem, Nat.reduceLT, Nat.reduceLeDiff, Nat.reduceEqDiff, Nat.reduceAdd, Nat.reduceSub, Nat.reduceMul, reduceCtorEq, Int.reduceBEq, Int.reduceLT, Int.reduceLE, Int.reduceAdd, Int.reduceSub, Int.reduceEq, Int.reduceNeg, Int.reduceToNat, Int.reduceGT, Int.reduceGE]; omega, ⟨b1, by simp only [go_sem, Nat.reduceLT, Nat.reduceLeDiff, Nat.reduceEqDiff, Nat.reduceAdd, Nat.reduceSub, Nat.reduceMul, reduceCtorEq, Int.reduceBEq, Int.reduceLT, Int.reduceLE, Int.reduceAdd, Int.reduceSub, Int.reduceEq, Int.reduceNeg, Int.reduceToNat, Int.reduceGT, Int.reduceGE], by rw [hn1, wnewBlk_n]; rfl, by rw [hr1, newBlk_ro], hg1⟩, ⟨b2, by simp only [go_sem, Nat.reduceLT, Nat.reduceLeDiff, Nat.reduceEqDiff, Nat.reduceAdd, Nat.reduceSub, Nat.reduceMul, reduceCtorEq, Int.reduceBEq, Int.reduceLT, Int.reduceLE, Int.reduceAdd, Int.reduceSub, Int.reduceEq, Int.reduceNeg, Int.reduceToNat, Int.reduceGT, Int.reduceGE], hKk⟩, ⟨_, by simp only [go_sem, Nat.reduceLT, Nat.reduceLeDiff, Nat.reduceEqDiff, Nat.reduceAdd, Nat.reduceSub, Nat.reduceMul, reduceCtorEq, Int.reduceBEq, Int.reduceLT, Int.reduceLE, Int.reduceAdd, Int.reduceSub, Int.reduceEq, Int.reduceNeg, Int.reduceToNat, Int.reduceGT, Int.reduceGE]; rfl, wnewBlk_n _, newBlk_ro _⟩⟩, by simp only [go_sem, Nat.reduceLT, Nat.reduceLeDiff, Nat.reduceEqDiff, Nat.reduceAdd, Nat.reduceSub, Nat.reduceMul, reduceCtorEq, Int.reduceBEq, Int.reduceLT, Int.reduceLE, Int.reduceAdd, Int.reduceSub, Int.reduceEq, Int.reduceNeg, Int.reduceToNat, Int.reduceGT, Int.reduceGE], by simp only [go_sem, Nat.reduceLT, Nat.reduceLeDiff, Nat.reduceEqDiff, Nat.reduceAdd, Nat.reduceSub, Nat.reduceMul, reduceCtorEq, Int.reduceBEq, Int.reduceLT, Int.reduceLE, Int.reduceAdd, Int.reduceSub, Int.reduceEq, Int.reduceNeg, Int.reduceToNat, Int.reduceGT, Int.reduceGE]; rfl⟩
  · rintro i env h' ⟨I, e5, e6⟩ hi next
    have hm : 64 * (i + 1) ≤ xs.length := by omega
    have c1 : Int.ofNat (64 * i) < Int.ofNat (64 * (xs.length / 64)) := by simp; omega
    have w1 : IntKind.wrap .i64 (Int.ofNat (64 * i) + 64) = Int.ofNat (64 * i + 64) := wrap_n (by simp) (by omega)
    obtain ⟨id, off, c, b, e1, q1, q2, q3, q4⟩ := (B.ext I.ext).cut (lo := 64 * i) (hi := 64 * i + 64) (by omega) (by omega)
    rw [show 64 * i + 64 - 64 * i = 64 by omega] at e1 q3 q4
    obtain ⟨bs, hb1, hb2, hb3, hb4⟩ := I.s
    obtain ⟨bk, hk1, hk2⟩ := I.k
    have hl64 : ((xs.drop (64 * i)).take 64).length = 64 := by rw [List.length_take, List.length_drop]; omega
    have hin := I.nx
    obtain ⟨h2, e2, W2⟩ := press_run hσ hb1 hb2 hb3 hb4 hk1 hk2 q2 hl64 (by rw [hl64]; exact q3) q4 (by omega) (by omega) q1
    simp only [go_sem, Nat.reduceLT, Nat.reduceLeDiff, Nat.reduceEqDiff, Nat.reduceAdd, Nat.reduceSub, Nat.reduceMul, reduceCtorEq, Int.reduceBEq, Int.reduceLT, Int.reduceLE, Int.reduceAdd, Int.reduceSub, Int.reduceEq, Int.reduceNeg, Int.reduceToNat, Int.reduceGT, Int.reduceGE, I.e0, I.e3, I.e4, e5, e6, c1, w1, e1, e2]
    refine next _ _ ⟨I.press W2 (by simp only [go_sem, Nat.reduceLT, Nat.reduceLeDiff, Nat.reduceEqDiff, Nat.reduceAdd, Nat.reduceSub, Nat.reduceMul, reduceCtorEq, Int.reduceBEq, Int.reduceLT, Int.reduceLE, Int.reduceAdd, Int.reduceSub, Int.reduceEq, Int.reduceNeg, Int.reduceToNat, Int.reduceGT, Int.reduceGE, I.e0]) (by simp only [go_sem, Nat.reduceLT, Nat.reduceLeDiff, Nat.reduceEqDiff, Nat.reduceAdd, Nat.reduceSub, Nat.reduceMul, reduceCtorEq, Int.reduceBEq, Int.reduceLT, Int.reduceLE, Int.reduceAdd, Int.reduceSub, Int.reduceEq, Int.reduceNeg, Int.reduceToNat, Int.reduceGT, Int.reduceGE, I.e2]) (by simp only [go_sem, Nat.reduceLT, Nat.reduceLeDiff, Nat.reduceEqDiff, Nat.reduceAdd, Nat.reduceSub, Nat.reduceMul, reduceCtorEq, Int.reduceBEq, Int.reduceLT, Int.reduceLE, Int.reduceAdd, Int.reduceSub, Int.reduceEq, Int.reduceNeg, Int.reduceToNat, Int.reduceGT, Int.reduceGE, I.e3]) (by simp only [go_sem, Nat.reduceLT, Nat.reduceLeDiff, Nat.reduceEqDiff, Nat.reduceAdd, Nat.reduceSub, Nat.reduceMul, reduceCtorEq, Int.reduceBEq, Int.reduceLT, Int.reduceLE, Int.reduceAdd, Int.reduceSub, Int.reduceEq, Int.reduceNeg, Int.reduceToNat, Int.reduceGT, Int.reduceGE, I.e4]), by simp only [go_sem, Nat.reduceLT, Nat.reduceLeDiff, Nat.reduceEqDiff, Nat.reduceAdd, Nat.reduceSub, Nat.reduceMul, reduceCtorEq, Int.reduceBEq, Int.reduceLT, Int.reduceLE, Int.reduceAdd, Int.reduceSub, Int.reduceEq, Int.reduceNeg, Int.reduceToNat, Int.reduceGT, Int.reduceGE, e5], by simp only [go_sem, Nat.reduceLT, Nat.reduceLeDiff, Nat.reduceEqDiff, Nat.reduceAdd, Nat.reduceSub, Nat.reduceMul, reduceCtorEq, Int.reduceBEq, Int.reduceLT, Int.reduceLE, Int.reduceAdd, Int.reduceSub, Int.reduceEq, Int.reduceNeg, Int.reduceToNat, Int.reduceGT, Int.reduceGE]; rfl⟩
  rintro env h' ⟨I, e5, e6⟩
  have c1 : ¬ Int.ofNat (64 * (xs.length / 64)) < Int.ofNat (64 * (xs.length / 64)) := Int.lt_irrefl _
  have Bx := B.ext I.ext
  obtain ⟨v2, e1, B2⟩ := Bx.drop (lo := 64 * (xs.length / 64)) (by omega)
  obtain ⟨id, h2, e2, hid, hid2, E2, hlow2, BT⟩ := padded_run hσ B2 (len := xs.length) (by rw [List.length_drop]; omega) hx
  obtain ⟨hT1, hT2⟩ := tailL_len xs
  have hT : padL (xs.drop (64 * (xs.length / 64))) xs.length = tailL xs := rfl
  rw [hT] at e2 BT
  have hin := I.nx
  have I2 : SI h v h2 env (stA xs s0 (xs.length / 64)) := ⟨I.e0, I.e2, I.e3, I.e4, by have := E2.nx; omega, I.ext.trans E2, by rw [hlow2, I.low]; omega, by
      obtain ⟨b, q1, q2⟩ := I.s; exact ⟨b, (E2.blk (by omega)).trans q1, q2⟩, by
      obtain ⟨b, q1, q2⟩ := I.k; exact ⟨b, (E2.blk (by omega)).trans q1, q2⟩, by
      obtain ⟨b, q1, q2⟩ := I.o; exact ⟨b, (E2.blk (by omega)).trans q1, q2⟩⟩
  simp only [go_sem, Nat.reduceLT, Nat.reduceLeDiff, Nat.reduceEqDiff, Nat.reduceAdd, Nat.reduceSub, Nat.reduceMul, reduceCtorEq, Int.reduceBEq, Int.reduceLT, Int.reduceLE, Int.reduceAdd, Int.reduceSub, Int.reduceEq, Int.reduceNeg, Int.reduceToNat, Int.reduceGT, Int.reduceGE, I.e0, I.e3, I.e4, e5, e6, c1, e1, Bx.len, e2]
  clear B2 Bx E2 hlow2 e2 e1 hKk hg2 hl2 hg1 hl1
  refine loop_ind (Q := Q) (fun i env' h3 => SI h v h3 env' (stA (tailL xs) (stA xs s0 (xs.length / 64)) i) ∧ BV h3 (.sl id 0 (tailL xs).length (.opn 1)) (tailL xs) ∧ evT env' 7 = .sl id 0 (tailL xs).length (.opn 1) ∧ evT env' 8 = .int .i64 (Int.ofNat (64 * i))) ((tailL xs).length / 64) 0 ?_ (Nat.zero_le _) ?_ ?_
  · exact ⟨I2.env (by simp only [go_sem, Nat.reduceLT, Nat.reduceLeDiff, Nat.reduceEqDiff, Nat.reduceAdd, Nat.reduceSub, Nat.reduceMul, reduceCtorEq, Int.reduceBEq, Int.reduceLT, Int.reduceLE, Int.reduceAdd, Int.reduceSub, Int.reduceEq, Int.reduceNeg, Int.reduceToNat, Int.reduceGT, Int.reduceGE, I.e0]) (by simp only [go_sem, Nat.reduceLT, Nat.reduceLeDiff, Nat.reduceEqDiff, Nat.reduceAdd, Nat.reduceSub, Nat.reduceMul, reduceCtorEq, Int.reduceBEq, Int.reduceLT, Int.reduceLE, Int.reduceAdd, Int.reduceSub, Int.reduceEq, Int.reduceNeg, Int.reduceToNat, Int.reduceGT, Int.reduceGE, I.e2]) (by simp only [go_sem, Nat.reduceLT, Nat.reduceLeDiff, Nat.reduceEqDiff, Nat.reduceAdd, Nat.reduceSub, Nat.reduceMul, reduceCtorEq, Int.reduceBEq, Int.reduceLT, Int.reduceLE, Int.reduceAdd, Int.reduceSub, Int.reduceEq, Int.reduceNeg, Int.reduceToNat, Int.reduceGT, Int.reduceGE, I.e3]) (by simp only [go_sem, Nat.reduceLT, Nat.reduceLeDiff, Nat.reduceEqDiff, Nat.reduceAdd, Nat.reduceSub, Nat.reduceMul, reduceCtorEq, Int.reduceBEq, Int.reduceLT, Int.reduceLE, Int.reduceAdd, Int.reduceSub, Int.reduceEq, Int.reduceNeg, Int.reduceToNat, Int.reduceGT, Int.reduceGE, I.e4]), BT, by simp only [go_sem, Nat.reduceLT, Nat.reduceLeDiff, Nat.reduceEqDiff, Nat.reduceAdd, Nat.reduceSub, Nat.reduceMul, reduceCtorEq, Int.reduceBEq, Int.reduceLT, Int.reduceLE, Int.reduceAdd, Int.reduceSub, Int.reduceEq, Int.reduceNeg, Int.reduceToNat, Int.reduceGT, Int.reduceGE], by simp only [go_sem, Nat.reduceLT, Nat.reduceLeDiff, Nat.reduceEqDiff, Nat.reduceAdd, Nat.reduceSub, Nat.reduceMul, reduceCtorEq, Int.reduceBEq, Int.reduceLT, Int.reduceLE, Int.reduceAdd, Int.reduceSub, Int.reduceEq, Int.reduceNeg, Int.reduceToNat, Int.reduceGT, Int.reduceGE]; rfl⟩
  · clear I I2 e5 e6 c1 BT env
    rintro i env h3 ⟨I, BT, e7, e8⟩ hi next
    have c1 : Int.ofNat (64 * i) < Int.ofNat (tailL xs).length := by simp; omega
    have w1 : IntKind.wrap .i64 (Int.ofNat (64 * i) + 64) = Int.ofNat (64 * i + 64) := wrap_n (by simp) (by omega)
    obtain ⟨id', off, c, b, e1, q1, q2, q3, q4⟩ := BT.cut (lo := 64 * i) (hi := 64 * i + 64) (by omega) (by omega)
    rw [show 64 * i + 64 - 64 * i = 64 by omega] at e1 q3 q4
    obtain ⟨bs, hb1, hb2, hb3, hb4⟩ := I.s
    obtain ⟨bk, hk1, hk2⟩ := I.k
    have hl64 : (((tailL xs).drop (64 * i)).take 64).length = 64 := by rw [List.length_take, List.length_drop]; omega
    have hin3 := I.nx
    obtain ⟨h4, e2, W2⟩ := press_run hσ hb1 hb2 hb3 hb4 hk1 hk2 q2 hl64 (by rw [hl64]; exact q3) q4 (by omega) (by omega) q1
    simp only [go_sem, Nat.reduceLT, Nat.reduceLeDiff, Nat.reduceEqDiff, Nat.reduceAdd, Nat.reduceSub, Nat.reduceMul, reduceCtorEq, Int.reduceBEq, Int.reduceLT, Int.reduceLE, Int.reduceAdd, Int.reduceSub, Int.reduceEq, Int.reduceNeg, Int.reduceToNat, Int.reduceGT, Int.reduceGE, I.e0, I.e3, I.e4, e7, e8, BT.len, c1, w1, e1, e2]
    exact next _ _ ⟨I.press W2 (by simp only [go_sem, Nat.reduceLT, Nat.reduceLeDiff, Nat.reduceEqDiff, Nat.reduceAdd, Nat.reduceSub, Nat.reduceMul, reduceCtorEq, Int.reduceBEq, Int.reduceLT, Int.reduceLE, Int.reduceAdd, Int.reduceSub, Int.reduceEq, Int.reduceNeg, Int.reduceToNat, Int.reduceGT, Int.reduceGE, I.e0]) (by simp only [go_sem, Nat.reduceLT, Nat.reduceLeDiff, Nat.reduceEqDiff, Nat.reduceAdd, Nat.reduceSub, Nat.reduceMul, reduceCtorEq, Int.reduceBEq, Int.reduceLT, Int.reduceLE, Int.reduceAdd, Int.reduceSub, Int.reduceEq, Int.reduceNeg, Int.reduceToNat, Int.reduceGT, Int.reduceGE, I.e2]) (by simp only [go_sem, Nat.reduceLT, Nat.reduceLeDiff, Nat.reduceEqDiff, Nat.reduceAdd, Nat.reduceSub, Nat.reduceMul, reduceCtorEq, Int.reduceBEq, Int.reduceLT, Int.reduceLE, Int.reduceAdd, Int.reduceSub, Int.reduceEq, Int.reduceNeg, Int.reduceToNat, Int.reduceGT, Int.reduceGE, I.e3]) (by simp only [go_sem, Nat.reduceLT, Nat.reduceLeDiff, Nat.reduceEqDiff, Nat.reduceAdd, Nat.reduceSub, Nat.reduceMul, reduceCtorEq, Int.reduceBEq, Int.reduceLT, Int.reduceLE, Int.reduceAdd, Int.reduceSub, Int.reduceEq, Int.reduceNeg, Int.reduceToNat, Int.reduceGT, Int.reduceGE, I.e4]), BT.wr W2 (by omega), by simp only [go_sem, Nat.reduceLT, Nat.reduceLeDiff, Nat.reduceEqDiff, Nat.reduceAdd, Nat.reduceSub, Nat.reduceMul, reduceCtorEq, Int.reduceBEq, Int.reduceLT, Int.reduceLE, Int.reduceAdd, Int.reduceSub, Int.reduceEq, Int.reduceNeg, Int.reduceToNat, Int.reduceGT, Int.reduceGE, e7], by simp only [go_sem, Nat.reduceLT, Nat.reduceLeDiff, Nat.reduceEqDiff, Nat.reduceAdd, Nat.reduceSub, Nat.reduceMul, reduceCtorEq, Int.reduceBEq, Int.reduceLT, Int.reduceLE, Int.reduceAdd, Int.reduceSub, Int.reduceEq, Int.reduceNeg, Int.reduceToNat, Int.reduceGT, Int.reduceGE]; rfl⟩
  clear I I2 e5 e6 c1 BT env
  rintro env h3 ⟨I, BT, e7, e8⟩
  have c1 : ¬ Int.ofNat (64 * ((tailL xs).length / 64)) < Int.ofNat (tailL xs).length := by simp; omega
  have hE : stA (tailL xs) (stA xs s0 (xs.length / 64)) ((tailL xs).length / 64) = endS xs := rfl
  rw [hE] at I
  obtain ⟨bs, hb1, hb2, hb3, hb4⟩ := I.s
  have hld : bs.loadN 0 8 = some ((endS xs).l.map w32) := loadN_of _ _ _ rfl fun i v hv => by rw [Nat.zero_add, hb4, hv]
  have hin3 := I.nx
  have l1 : ¬ h.nx + 1 = h3.nx := by omega
  simp only [go_sem, Nat.reduceLT, Nat.reduceLeDiff, Nat.reduceEqDiff, Nat.reduceAdd, Nat.reduceSub, Nat.reduceMul, reduceCtorEq, Int.reduceBEq, Int.reduceLT, Int.reduceLE, Int.reduceAdd, Int.reduceSub, Int.reduceEq, Int.reduceNeg, Int.reduceToNat, Int.reduceGT, Int.reduceGE, I.e0, I.e2, I.e3, I.e4, e7, e8, BT.len, c1, hb1, l1, hld]
  obtain ⟨o, ho⟩ : ∃ o, o = h3.nx := ⟨_, rfl⟩
  refine loop_ind (Q := Q) (fun i env' h4 => evT env' 2 = .ptr h.nx 0 ∧ evT env' 9 = .ptr o 0 ∧ evT env' 47 = .agg ((endS xs).l.map w32) ∧ evT env' 48 = .int .i64 (Int.ofNat i) ∧ o < h4.nx ∧ Ext h h4 ∧ h4.low = h.nx ∧ (∃ b, h4.blk h.nx = some b ∧ b.n = 32 ∧ b.ro = false) ∧
    ∃ b, h4.blk o = some b ∧ b.n = 32 ∧ b.ro = false ∧ ∀ j, j < 4 * i → b.get j = nth (bc (digest xs)) j) 8 0 ?_ (by decide) ?_ ?_
  · refine ⟨by simp only [go_sem, Nat.reduceLT, Nat.reduceLeDiff, Nat.reduceEqDiff, Nat.reduceAdd, Nat.reduceSub, Nat.reduceMul, reduceCtorEq, Int.reduceBEq, Int.reduceLT, Int.reduceLE, Int.reduceAdd, Int.reduceSub, Int.reduceEq, Int.reduceNeg, Int.reduceToNat, Int.reduceGT, Int.reduceGE, I.e2], by simp only [go_sem, Nat.reduceLT, Nat.reduceLeDiff, Nat.reduceEqDiff, Nat.reduceAdd, Nat.reduceSub, Nat.reduceMul, reduceCtorEq, Int.reduceBEq, Int.reduceLT, Int.reduceLE, Int.reduceAdd, Int.reduceSub, Int.reduceEq, Int.reduceNeg, Int.reduceToNat, Int.reduceGT, Int.reduceGE, ho], by simp only [go_sem, Nat.reduceLT, Nat.reduceLeDiff, Nat.reduceEqDiff, Nat.reduceAdd, Nat.reduceSub, Nat.reduceMul, reduceCtorEq, Int.reduceBEq, Int.reduceLT, Int.reduceLE, Int.reduceAdd, Int.reduceSub, Int.reduceEq, Int.reduceNeg, Int.reduceToNat, Int.reduceGT, Int.reduceGE], by simp only [go_sem, Nat.reduceLT, Nat.reduceLeDiff, Nat.reduceEqDiff, Nat.reduceAdd, Nat.reduceSub, Nat.reduceMul, reduceCtorEq, Int.reduceBEq, Int.reduceLT, Int.reduceLE, Int.reduceAdd, Int.reduceSub, Int.reduceEq, Int.reduceNeg, Int.reduceToNat, Int.reduceGT, Int.reduceGE]; rfl, by simp only [go_sem, Nat.reduceLT, Nat.reduceLeDiff, Nat.reduceEqDiff, Nat.reduceAdd, Nat.reduceSub, Nat.reduceMul, reduceCtorEq, Int.reduceBEq, Int.reduceLT, Int.reduceLE, Int.reduceAdd, Int.reduceSub, Int.reduceEq, Int.reduceNeg, Int.reduceToNat, Int.reduceGT, Int.reduceGE]; omega, I.ext.alloc' _, by simp only [go_sem, Nat.reduceLT, Nat.reduceLeDiff, Nat.reduceEqDiff, Nat.reduceAdd, Nat.reduceSub, Nat.reduceMul, reduceCtorEq, Int.reduceBEq, Int.reduceLT, Int.reduceLE, Int.reduceAdd, Int.reduceSub, Int.reduceEq, Int.reduceNeg, Int.reduceToNat, Int.reduceGT, Int.reduceGE, I.low], ?_, ⟨_, by rw [ho]; exact alloc_blk_same _ _ _ rfl, wnewBlk_n _, newBlk_ro _, fun j hj => absurd hj (Nat.not_lt_zero _)⟩⟩
    obtain ⟨b, q1, q2⟩ := I.o
    exact ⟨b, (alloc_blk_ne _ _ _ (by omega)).trans q1, q2⟩
  · clear I e7 e8 c1 BT env hb1 l1
    rintro i env h4 ⟨e2, e9, e47, e48, hon, E, hlow, ⟨b0, ho1, ho2, ho3⟩, b, hb1, hb2, hb3, hb4⟩ hi next
    have c0 : Int.ofNat i < 8 := by simp; omega
    have w1 : IntKind.wrap .i64 (4 * Int.ofNat i) = Int.ofNat (4 * i) := wrap_n (by simp) (by omega)
    have w2 : IntKind.wrap .i64 (Int.ofNat i + 1) = Int.ofNat (i + 1) := wrap_n (by simp) (by omega)
    have gn := S8.nth (endS xs) hi
    have es : sliceT Tryd.prog h4 77 (.ptr o 0) (some (.int .i64 (Int.ofNat (4 * i)))) none none = some (.sl o (4 * i) (32 - 4 * i) (.exact (32 - 4 * i))) := by
      simp only [sliceT, Tryd.underlying77, Option.bind_some, sz_5, sliceExact, bnd, toN, Int.ofNat_eq_natCast, Nat.mul_one]
      simp [ble_eq', beq_eq', show 4 * i ≤ 32 by omega, show ¬ 32 = 4 * i by omega]
    obtain ⟨h5, e5, W5⟩ := put_run hσ hb1 hb3 (off := 4 * i) (len := 32 - 4 * i) (c := .exact (32 - 4 * i)) (by omega) (by omega) hon ((endS xs).at i)
    simp only [go_sem, Nat.reduceLT, Nat.reduceLeDiff, Nat.reduceEqDiff, Nat.reduceAdd, Nat.reduceSub, Nat.reduceMul, reduceCtorEq, Int.reduceBEq, Int.reduceLT, Int.reduceLE, Int.reduceAdd, Int.reduceSub, Int.reduceEq, Int.reduceNeg, Int.reduceToNat, Int.reduceGT, Int.reduceGE, e2, e9, e47, e48, c0, hi, gn, w1, w2, es, e5, Nat.mul_one]
    obtain ⟨b5, hb5, hn5, hr5, hg5⟩ := W5.blk
    have hoh : h.nx < o := by omega
    refine next _ _ ⟨by simp only [go_sem, Nat.reduceLT, Nat.reduceLeDiff, Nat.reduceEqDiff, Nat.reduceAdd, Nat.reduceSub, Nat.reduceMul, reduceCtorEq, Int.reduceBEq, Int.reduceLT, Int.reduceLE, Int.reduceAdd, Int.reduceSub, Int.reduceEq, Int.reduceNeg, Int.reduceToNat, Int.reduceGT, Int.reduceGE, e2], by simp only [go_sem, Nat.reduceLT, Nat.reduceLeDiff, Nat.reduceEqDiff, Nat.reduceAdd, Nat.reduceSub, Nat.reduceMul, reduceCtorEq, Int.reduceBEq, Int.reduceLT, Int.reduceLE, Int.reduceAdd, Int.reduceSub, Int.reduceEq, Int.reduceNeg, Int.reduceToNat, Int.reduceGT, Int.reduceGE, e9], by simp only [go_sem, Nat.reduceLT, Nat.reduceLeDiff, Nat.reduceEqDiff, Nat.reduceAdd, Nat.reduceSub, Nat.reduceMul, reduceCtorEq, Int.reduceBEq, Int.reduceLT, Int.reduceLE, Int.reduceAdd, Int.reduceSub, Int.reduceEq, Int.reduceNeg, Int.reduceToNat, Int.reduceGT, Int.reduceGE, e47], by simp only [go_sem, Nat.reduceLT, Nat.reduceLeDiff, Nat.reduceEqDiff, Nat.reduceAdd, Nat.reduceSub, Nat.reduceMul, reduceCtorEq, Int.reduceBEq, Int.reduceLT, Int.reduceLE, Int.reduceAdd, Int.reduceSub, Int.reduceEq, Int.reduceNeg, Int.reduceToNat, Int.reduceGT, Int.reduceGE], Nat.lt_of_lt_of_le hon W5.nx, W5.ext E (by omega), by show h5.low = h.nx; rw [W5.low, hlow]; omega, ⟨b0, (blk_eq (W5.old _ (by omega) (by omega))).trans ho1, ho2, ho3⟩, b5, hb5, hn5.trans hb2, hr5, fun j hj => ?_⟩
    rw [hg5, over, show (wb ((endS xs).at i)).length = 4 from rfl]
    by_cases q : 4 * i ≤ j
    · rw [if_pos (by omega)]
      have := dig_at (endS xs) hi (r := j - 4 * i) (by omega)
      rw [show 4 * i + (j - 4 * i) = j by omega] at this
      exact this.symm
    · rw [if_neg (by omega)]
      exact hb4 j (by omega)
  · clear I e7 e8 c1 BT env hb1 l1
    rintro env h4 ⟨e2, e9, e47, e48, hon, E, hlow, ⟨b0, ho1, ho2, ho3⟩, b, hb1, hb2, hb3, hb4⟩
    have c0 : ¬ Int.ofNat 8 < 8 := by decide
    have hld : b.loadN 0 32 = some (bc (digest xs)) := loadN_of _ _ _ (bc_len _) fun i v hv => by
      have hi := nlt hv
      rw [bc_len, digest_len] at hi
      rw [Nat.zero_add, hb4 i (by omega), hv]
    have hl32 : (bc (digest xs)).length = 32 := bc_len _
    simp only [go_sem, Nat.reduceLT, Nat.reduceLeDiff, Nat.reduceEqDiff, Nat.reduceAdd, Nat.reduceSub, Nat.reduceMul, reduceCtorEq, Int.reduceBEq, Int.reduceLT, Int.reduceLE, Int.reduceAdd, Int.reduceSub, Int.reduceEq, Int.reduceNeg, Int.reduceToNat, Int.reduceGT, Int.reduceGE, e2, e9, e47, e48, c0, hb1, hld, ho1, ho2, ho3, hl32]
    refine store_step (Q := Q) (by rw [hl32, ho2]) (bc_one _) fun b' q1 q2 q3 _ => ?_
    rw [ho2] at q3
    simp only [go_sem, Nat.reduceLT, Nat.reduceLeDiff, Nat.reduceEqDiff, Nat.reduceAdd, Nat.reduceSub, Nat.reduceMul, reduceCtorEq, Int.reduceBEq, Int.reduceLT, Int.reduceLE, Int.reduceAdd, Int.reduceSub, Int.reduceEq, Int.reduceNeg, Int.reduceToNat, Int.reduceGT, Int.reduceGE, e2, q3]
    rw [fin_q _ _ _ (by simp only [go_sem, Nat.reduceLT, Nat.reduceLeDiff, Nat.reduceEqDiff, Nat.reduceAdd, Nat.reduceSub, Nat.reduceMul, reduceCtorEq, Int.reduceBEq, Int.reduceLT, Int.reduceLE, Int.reduceAdd, Int.reduceSub, Int.reduceEq, Int.reduceNeg, Int.reduceToNat, Int.reduceGT, Int.reduceGE, hlow]; omega) (by rw [okB_agg]; exact okBL_all fun c hc => by obtain ⟨p, _, rfl⟩ := List.mem_map.1 hc; rfl), hQ]
    rfl
end Go.Cl.Sh

namespace Go.Cl.Sh
def startV : List Int := [1779033703, 3144134277, 1013904242, 2773480762, 1359893119, 2600822924, 528734635, 1541459225]
theorem HG.tab (h : (tabH .u32 startV).blk 0 = some (tabB .u32 startV)) : HG (tabH .u32 startV) := ⟨by decide, by decide, _, h, tab_load .u32 startV⟩
end Go.Cl.Sh

namespace Go.Cl.Sh
variable {σ : Sums}
set_option maxRecDepth 1000000

theorem rot_add (x : BitVec 32) (n : Nat) : x >>> n + x <<< (32 - n) = rotr x n := by
  unfold rotr
  rw [BitVec.add_eq_or_of_and_eq_zero, BitVec.or_comm]
  apply BitVec.eq_of_getLsbD_eq
  intro i hi
  simp only [BitVec.getLsbD_and, BitVec.getLsbD_ushiftRight, BitVec.getLsbD_shiftLeft, BitVec.getLsbD_zero]
  by_cases h : i < 32 - n
  · simp [h]
  · rw [BitVec.getLsbD_of_ge x (n + i) (by omega)]; simp
theorem byte_bit {y i : Nat} (hy : y < 256) (hi : 8 ≤ i) : (BitVec.ofNat 32 y).getLsbD i = false := by
  rw [BitVec.getLsbD_ofNat, Nat.testBit_lt_two_pow (Nat.lt_of_lt_of_le hy (Nat.pow_le_pow_right (n := 2) (by decide) hi))]
  simp
theorem mul24 (x : BitVec 32) : x * BitVec.ofNat 32 16777216 = x <<< 24 := by rw [BitVec.shiftLeft_eq_mul_twoPow]; rfl
theorem mul16 (x : BitVec 32) : x * BitVec.ofNat 32 65536 = x <<< 16 := by rw [BitVec.shiftLeft_eq_mul_twoPow]; rfl
theorem mul8 (x : BitVec 32) : x * BitVec.ofNat 32 256 = x <<< 8 := by rw [BitVec.shiftLeft_eq_mul_twoPow]; rfl
theorem wd_add {a b c d : Nat} (ha : a < 256) (hb : b < 256) (hc : c < 256) (hd : d < 256) :
    BitVec.ofNat 32 a * BitVec.ofNat 32 16777216 + BitVec.ofNat 32 b * BitVec.ofNat 32 65536 + BitVec.ofNat 32 c * BitVec.ofNat 32 256 + BitVec.ofNat 32 d = BitVec.ofNat 32 a <<< 24 ||| BitVec.ofNat 32 b <<< 16 ||| BitVec.ofNat 32 c <<< 8 ||| BitVec.ofNat 32 d := by
  rw [mul24, mul16, mul8]
  rw [BitVec.add_eq_or_of_and_eq_zero (BitVec.ofNat 32 a <<< 24) (BitVec.ofNat 32 b <<< 16), BitVec.add_eq_or_of_and_eq_zero _ (BitVec.ofNat 32 c <<< 8), BitVec.add_eq_or_of_and_eq_zero _ (BitVec.ofNat 32 d)]
  · apply BitVec.eq_of_getLsbD_eq
    intro i hi
    simp only [BitVec.getLsbD_and, BitVec.getLsbD_or, BitVec.getLsbD_shiftLeft, BitVec.getLsbD_zero]
    by_cases h : 8 ≤ i
    · rw [byte_bit hd h]; simp
    · simp [show i < 24 by omega, show i < 16 by omega, show i < 8 by omega]
  · apply BitVec.eq_of_getLsbD_eq
    intro i hi
    simp only [BitVec.getLsbD_and, BitVec.getLsbD_or, BitVec.getLsbD_shiftLeft, BitVec.getLsbD_zero]
    by_cases h : 16 ≤ i
    · rw [byte_bit hc (show 8 ≤ i - 8 by omega)]; simp
    · simp [show i < 24 by omega, show i < 16 by omega]
  · apply BitVec.eq_of_getLsbD_eq
    intro i hi
    simp only [BitVec.getLsbD_and, BitVec.getLsbD_shiftLeft, BitVec.getLsbD_zero]
    by_cases h : 24 ≤ i
    · rw [byte_bit hb (show 8 ≤ i - 16 by omega)]; simp
    · simp [show i < 24 by omega]
theorem div8 (x : BitVec 32) : x / BitVec.ofNat 32 8 = x >>> 3 := by
  apply BitVec.eq_of_toNat_eq
  rw [BitVec.toNat_udiv, BitVec.toNat_ushiftRight, Nat.shiftRight_eq_div_pow]; rfl
theorem div1024 (x : BitVec 32) : x / BitVec.ofNat 32 1024 = x >>> 10 := by
  apply BitVec.eq_of_toNat_eq
  rw [BitVec.toNat_udiv, BitVec.toNat_ushiftRight, Nat.shiftRight_eq_div_pow]; rfl
theorem sub_not (x : BitVec 32) : BitVec.ofNat 32 4294967295 - x = ~~~ x := by
  rw [show BitVec.ofNat 32 4294967295 = BitVec.allOnes 32 from rfl, BitVec.allOnes_sub_eq_not]

end Go.Cl.Sh

namespace Go.Cl.Sh
variable {σ : Sums}
set_option maxRecDepth 1000000

def be8 (c : BitVec 64) : Nat → List Nat
  | 0 => []
  | i + 1 => be8 c i ++ [(c >>> (8 * (7 - i))).toNat % 256]
def fullL (xs : List Nat) : List Nat := xs ++ [128] ++ zs (zn xs.length) ++ be8 (cnt xs.length) 8
def rendS (xs : List Nat) : S8 := stA (fullL xs) s0 ((fullL xs).length / 64)
def rdigest (xs : List Nat) : List Nat := (rendS xs).l.flatMap wbN
theorem be8_len (c : BitVec 64) : ∀ i, (be8 c i).length = i
  | 0 => rfl
  | i + 1 => by simp [be8, be8_len c i]
theorem fullL_len (xs : List Nat) : (fullL xs).length % 64 = 0 ∧ (fullL xs).length ≤ xs.length + 128 ∧ 64 ≤ (fullL xs).length := by
  unfold fullL zs zn
  simp only [List.length_append, List.length_replicate, List.length_cons, List.length_nil, be8_len]
  omega
theorem fullL_byte (xs : List Nat) (h : ∀ b ∈ xs, b < 256) : ∀ b ∈ fullL xs, b < 256 := by
  have hb : ∀ (c : BitVec 64) i, ∀ b ∈ be8 c i, b < 256 := fun c i => by
    induction i with
    | zero => intro b hb; cases hb
    | succ i ih =>
      intro b hb
      rcases List.mem_append.1 hb with hb | hb
      · exact ih b hb
      · rw [List.mem_singleton.1 hb]; exact Nat.mod_lt _ (by decide)
  intro b hm
  unfold fullL at hm
  rcases List.mem_append.1 hm with hm | hm
  · rcases List.mem_append.1 hm with hm | hm
    · rcases List.mem_append.1 hm with hm | hm
      · exact h b hm
      · rw [List.mem_singleton.1 hm]; decide
    · rw [(List.mem_replicate.1 hm).2]; decide
  · exact hb _ _ b hm
theorem wb_at (x : BitVec 32) {r : Nat} (hr : r < 4) : nth (wb x) r = some (u8 ((x >>> (24 - 8 * r)).toNat % 256)) := by
  have h2 : r = 0 ∨ r = 1 ∨ r = 2 ∨ r = 3 := by omega
  rcases h2 with rfl | rfl | rfl | rfl
  · rfl
  · rfl
  · rfl
  · rw [show 24 - 8 * 3 = 0 from rfl, BitVec.ushiftRight_zero]; rfl
end Go.Cl.Sh

namespace Go.Cl.Sh
variable {σ : Sums}
set_option maxRecDepth 1000000

theorem stA_lo (A T : List Nat) (s : S8) : ∀ k, 64 * k ≤ A.length → stA (A ++ T) s k = stA A s k
  | 0, _ => rfl
  | k + 1, h => by
    simp only [stA]
    rw [stA_lo A T s k (by omega)]
    congr 1
    rw [List.drop_append_of_le_length (by omega), List.take_append_of_le_length (by rw [List.length_drop]; omega)]
theorem stA_hi (A T : List Nat) (s : S8) (n : Nat) (h : A.length = 64 * n) : ∀ k, stA (A ++ T) s (n + k) = stA T (stA A s n) k
  | 0 => stA_lo A T s n (by omega)
  | k + 1 => by
    rw [← Nat.add_assoc]
    simp only [stA]
    rw [stA_hi A T s n h k]
    congr 1
    rw [show 64 * (n + k) = A.length + 64 * k by omega, ← List.drop_drop, List.drop_left]
theorem shr_byte (c : BitVec 64) (a b : Nat) (hb : b + 8 ≤ 32) : ((BitVec.ofNat 32 (c >>> a).toNat) >>> b).toNat % 256 = (c >>> (a + b)).toNat % 256 := by
  rw [BitVec.toNat_ushiftRight, BitVec.toNat_ofNat, BitVec.toNat_ushiftRight, BitVec.toNat_ushiftRight, Nat.shiftRight_eq_div_pow, Nat.shiftRight_eq_div_pow, Nat.shiftRight_eq_div_pow, Nat.pow_add, ← Nat.div_div_eq_div_mul]
  generalize c.toNat / 2 ^ a = x
  have h1 : (2 : Nat) ^ 32 = 2 ^ b * 2 ^ (32 - b) := by rw [← Nat.pow_add]; congr 1; omega
  have h2 : (2 : Nat) ^ (32 - b) = 256 * 2 ^ (32 - b - 8) := by
    rw [show (256 : Nat) = 2 ^ 8 from rfl, ← Nat.pow_add]; congr 1; omega
  rw [h1, Nat.mod_mul_right_div_self, h2, Nat.mod_mul_right_mod]
theorem be8_wb (c : BitVec 64) : be8 c 8 = wbN (BitVec.ofNat 32 (c >>> 32).toNat) ++ wbN (BitVec.ofNat 32 c.toNat) := by
  have z : ∀ x : BitVec 32, x.toNat = (x >>> 0).toNat := fun x => by rw [BitVec.ushiftRight_zero]
  have z2 : c.toNat = (c >>> 0).toNat := by rw [BitVec.ushiftRight_zero]
  have e : ∀ b, b + 8 ≤ 32 → ((BitVec.ofNat 32 c.toNat) >>> b).toNat % 256 = (c >>> (0 + b)).toNat % 256 := fun b hb => by
    have := shr_byte c 0 b hb
    rwa [BitVec.ushiftRight_zero] at this
  simp only [wbN]
  rw [z (BitVec.ofNat 32 (c >>> 32).toNat), z (BitVec.ofNat 32 c.toNat)]
  rw [shr_byte c 32 24 (by decide), shr_byte c 32 16 (by decide), shr_byte c 32 8 (by decide), shr_byte c 32 0 (by decide), e 24 (by decide), e 16 (by decide), e 8 (by decide), e 0 (by decide)]
  rfl
theorem digest_same (xs : List Nat) : rdigest xs = digest xs := by
  have hA : (xs.take (64 * (xs.length / 64))).length = 64 * (xs.length / 64) := by rw [List.length_take]; omega
  have hxs : xs.take (64 * (xs.length / 64)) ++ xs.drop (64 * (xs.length / 64)) = xs := List.take_append_drop _ _
  have hz : zn (xs.drop (64 * (xs.length / 64))).length = zn xs.length := by
    unfold zn; rw [List.length_drop]; omega
  have hfull : fullL xs = xs.take (64 * (xs.length / 64)) ++ tailL xs := by
    unfold fullL tailL padL
    rw [hz, be8_wb]
    simp only [← List.append_assoc]
    rw [hxs]
  obtain ⟨h1, h2⟩ := tailL_len xs
  have hlen : (fullL xs).length / 64 = xs.length / 64 + (tailL xs).length / 64 := by rw [hfull, List.length_append, hA]; omega
  have : rendS xs = endS xs := by
    unfold rendS endS
    rw [hlen, hfull, stA_hi _ _ _ _ hA]
    congr 1
    have := stA_lo (xs.take (64 * (xs.length / 64))) (xs.drop (64 * (xs.length / 64))) s0 (xs.length / 64) (by omega)
    rw [hxs] at this
    exact this.symm
  unfold rdigest digest
  rw [this]

/-! ### the beginning of a hash, as a number -/
def shV (D : List Nat) : Nat → BitVec 64
  | 0 => BitVec.ofNat 64 0
  | i + 1 => shV D i <<< 8 ||| BitVec.ofNat 64 (D[i]?.getD 0)
def rshV (D : List Nat) : Nat → BitVec 64
  | 0 => BitVec.ofNat 64 0
  | i + 1 => BitVec.ofNat 64 256 * rshV D i + BitVec.ofNat 64 (D[i]?.getD 0)
theorem byte_bit64 {y i : Nat} (hy : y < 256) (hi : 8 ≤ i) : (BitVec.ofNat 64 y).getLsbD i = false := by
  rw [BitVec.getLsbD_ofNat, Nat.testBit_lt_two_pow (Nat.lt_of_lt_of_le hy (Nat.pow_le_pow_right (n := 2) (by decide) hi))]
  simp
theorem shV_same (D : List Nat) (h : ∀ b ∈ D, b < 256) : ∀ i, rshV D i = shV D i
  | 0 => rfl
  | i + 1 => by
    simp only [rshV, shV]
    rw [shV_same D h i, BitVec.mul_comm, show BitVec.ofNat 64 256 = BitVec.twoPow 64 8 from rfl, ← BitVec.shiftLeft_eq_mul_twoPow, BitVec.add_eq_or_of_and_eq_zero]
    apply BitVec.eq_of_getLsbD_eq
    intro j hj
    have hy : D[i]?.getD 0 < 256 := by
      cases hd : D[i]? with
      | none => decide
      | some y => exact h y (List.mem_of_getElem? hd)
    simp only [BitVec.getLsbD_and, BitVec.getLsbD_shiftLeft, BitVec.getLsbD_zero]
    by_cases q : 8 ≤ j
    · rw [byte_bit64 hy q]; simp
    · simp [show j < 8 by omega]
theorem digest_byte (xs : List Nat) : ∀ b ∈ digest xs, b < 256 := by
  intro b hb
  unfold digest at hb
  obtain ⟨x, _, hx⟩ := List.mem_flatMap.1 hb
  simp only [wbN, List.mem_cons, List.not_mem_nil, or_false] at hx
  rcases hx with rfl | rfl | rfl | rfl <;> exact Nat.mod_lt _ (by decide)
end Go.Cl.Sh

namespace Go.Cl.Sh
variable {σ : Sums}
set_option maxRecDepth 1000000

theorem refK_run (hσ : ∀ f a h, W.told f = false → σ f a h = none) (h : H) : RetQ h (.agg (KL.map w32)) ((lim Tryd.prog σ).call 93 [] h) := by
  rw [call_eq (hσ _ _ _ (by decide)) fn_93 rfl rfl, Tryd.ntmps93, Tryd.results93]
  simp only [go_sem, Nat.reduceLT, Nat.reduceLeDiff, Nat.reduceEqDiff, Nat.reduceAdd, Nat.reduceSub, Nat.reduceMul, reduceCtorEq, Int.reduceBEq, Int.reduceLT, Int.reduceLE, Int.reduceAdd, Int.reduceSub, Int.reduceEq, Int.reduceNeg, Int.reduceToNat, Int.reduceGT, Int.reduceGE, wadd32, wmul32, wadd64, wmul64, wand32, wor32, wxor32, wand64, wor64, wnot32, wsub32, wsub64, wshr32l, wshl32l, wshr64l, wshl64l, wshr32w, wshl32w, wshr64w, wlt64, wgt64, weq64, wne64]
  refine store_step (Q := RetQ h (.agg (KL.map w32))) rfl rfl fun b' h1 h2 h3 _ => ?_
  simp only [go_sem, Nat.reduceLT, Nat.reduceLeDiff, Nat.reduceEqDiff, Nat.reduceAdd, Nat.reduceSub, Nat.reduceMul, reduceCtorEq, Int.reduceBEq, Int.reduceLT, Int.reduceLE, Int.reduceAdd, Int.reduceSub, Int.reduceEq, Int.reduceNeg, Int.reduceToNat, Int.reduceGT, Int.reduceGE, List.length_map, h1, h2, h3] at h3 ⊢
  simp only [go_sem, Nat.reduceLT, Nat.reduceLeDiff, Nat.reduceEqDiff, Nat.reduceAdd, Nat.reduceSub, Nat.reduceMul, reduceCtorEq, Int.reduceBEq, Int.reduceLT, Int.reduceLE, Int.reduceAdd, Int.reduceSub, Int.reduceEq, Int.reduceNeg, Int.reduceToNat, Int.reduceGT, Int.reduceGE, h3]
  rw [fin_q _ _ _ (by simp only [go_sem, Nat.reduceLT, Nat.reduceLeDiff, Nat.reduceEqDiff, Nat.reduceAdd, Nat.reduceSub, Nat.reduceMul, reduceCtorEq, Int.reduceBEq, Int.reduceLT, Int.reduceLE, Int.reduceAdd, Int.reduceSub, Int.reduceEq, Int.reduceNeg, Int.reduceToNat, Int.reduceGT, Int.reduceGE]; omega) rfl]
  have : ∀ l : List CV, l = KL.map w32 → RetQ h (.agg (KL.map w32)) (some (.agg l, none)) := fun l e => by rw [e]; rfl
  exact this _ (by kernel_rfl)
theorem rright_run (hσ : ∀ f a h, W.told f = false → σ f a h = none) (h : H) (x : BitVec 32) (n : Nat) (h2 : n ≤ 32) :
    RetQ h (w32 (rotr x n)) ((lim Tryd.prog σ).call 94 [w32 x, .int .u64 (Int.ofNat n)] h) := by
  rw [call_eq (hσ _ _ _ (by decide)) fn_94 rfl rfl, Tryd.ntmps94, Tryd.results94]
  have l32 : CV.int .u64 32 = w64 (BitVec.ofNat 64 32) := rfl
  have e3 : BitVec.ofNat 64 32 - BitVec.ofNat 64 n = BitVec.ofNat 64 (32 - n) := by
    apply BitVec.eq_of_toNat_eq; simp; omega
  have e4 : (BitVec.ofNat 64 (32 - n)).toNat = 32 - n := by simp; omega
  have e5 : (BitVec.ofNat 64 n).toNat = n := by simp; omega
  rw [wl64 (n := n) (by omega)]
  simp only [go_sem, Nat.reduceLT, Nat.reduceLeDiff, Nat.reduceEqDiff, Nat.reduceAdd, Nat.reduceSub, Nat.reduceMul, reduceCtorEq, Int.reduceBEq, Int.reduceLT, Int.reduceLE, Int.reduceAdd, Int.reduceSub, Int.reduceEq, Int.reduceNeg, Int.reduceToNat, Int.reduceGT, Int.reduceGE, l32, wadd32, wmul32, wadd64, wmul64, wand32, wor32, wxor32, wand64, wor64, wnot32, wsub32, wsub64, wshr32l, wshl32l, wshr64l, wshl64l, wshr32w, wshl32w, wshr64w, wlt64, wgt64, weq64, wne64, e3, e4, e5, rot_add]
  exact congrArg some (fin_q _ _ _ rfl rfl)
structure RA (h : H) (h' : H) (env : T CV) (st : S8) (id off : Nat) (c : Cap) (g : Nat → Option CV) : Prop where
  e1 : evT env 1 = .sl id off 64 c
  e2 : evT env 2 = .ptr h.nx 0
  e4 : evT env 4 = .ptr (h.nx + 1) 0
  e5 : evT env 5 = .ptr (h.nx + 1 + 1) 0
  e6 : evT env 6 = .ptr (h.nx + 1 + 1 + 1) 0
  nx : h'.nx = h.nx + 4
  ext : Ext h h'
  low : h'.low = h.nx
  s : ∃ b, h'.blk h.nx = some b ∧ ∀ i, b.get i = nth (st.l.map w32) i
  r : ∃ b, h'.blk (h.nx + 1) = some b ∧ b.n = 8 ∧ b.ro = false
  k : ∃ b, h'.blk (h.nx + 1 + 1) = some b ∧ ∀ j, j < 64 → b.get j = some (w32 (kw j))
  w : ∃ b, h'.blk (h.nx + 1 + 1 + 1) = some b ∧ b.n = 64 ∧ b.ro = false ∧ ∀ j v, g j = some v → b.get j = some v
theorem RA.put {h h' : H} {env env' : T CV} {st : S8} {id off i : Nat} {c : Cap} {xs : List Nat} {b : Blk} (I : RA h h' env st id off c (WX xs i)) (hb : h'.blk (h.nx + 1 + 1 + 1) = some b) (hn : b.n = 64) (hr : b.ro = false) (hg : ∀ j v, WX xs i j = some v → b.get j = some v) (hi : i < 64)
    (e1 : evT env' 1 = .sl id off 64 c) (e2 : evT env' 2 = .ptr h.nx 0) (e4 : evT env' 4 = .ptr (h.nx + 1) 0) (e5 : evT env' 5 = .ptr (h.nx + 1 + 1) 0) (e6 : evT env' 6 = .ptr (h.nx + 1 + 1 + 1) 0) {v : CV} (hv : v = w32 (W xs i)) :
    RA h (h'.put (h.nx + 1 + 1 + 1) (.cells (b.st i v))) env' st id off c (WX xs (i + 1)) := by
  refine ⟨e1, e2, e4, e5, e6, I.nx, I.ext.put _ (by omega), by rw [put_low, I.low]; omega, ?_, ?_, ?_, ⟨_, put_blk_same _ _ _, by rw [st_n]; exact hn, by rw [st_ro]; exact hr, fun j u hj => ?_⟩⟩
  · obtain ⟨b, q1, q2⟩ := I.s; exact ⟨b, (put_blk_ne _ _ _ _ (by omega)).trans q1, q2⟩
  · obtain ⟨b, q1, q2⟩ := I.r; exact ⟨b, (put_blk_ne _ _ _ _ (by omega)).trans q1, q2⟩
  · obtain ⟨b, q1, q2⟩ := I.k; exact ⟨b, (put_blk_ne _ _ _ _ (by omega)).trans q1, q2⟩
  · rcases WX_s hj with ⟨rfl, rfl⟩ | ⟨q, hq⟩
    · rw [st_get_same _ _ _ (by omega), hv]
    · rw [st_get_ne _ _ _ _ q]; exact hg j u hq
theorem RA.env {h h' : H} {env env' : T CV} {st : S8} {id off : Nat} {c : Cap} {g : Nat → Option CV} (I : RA h h' env st id off c g)
    (e1 : evT env' 1 = .sl id off 64 c) (e2 : evT env' 2 = .ptr h.nx 0) (e4 : evT env' 4 = .ptr (h.nx + 1) 0) (e5 : evT env' 5 = .ptr (h.nx + 1 + 1) 0) (e6 : evT env' 6 = .ptr (h.nx + 1 + 1 + 1) 0) : RA h h' env' st id off c g :=
  ⟨e1, e2, e4, e5, e6, I.nx, I.ext, I.low, I.s, I.r, I.k, I.w⟩
structure RE (env : T CV) (r : S8) : Prop where
  a : evT env 10 = w32 r.a
  b : evT env 11 = w32 r.b
  c : evT env 12 = w32 r.c
  d : evT env 13 = w32 r.d
  e : evT env 14 = w32 r.e
  f : evT env 15 = w32 r.f
  g : evT env 16 = w32 r.g
  h : evT env 17 = w32 r.h
theorem rpress_run (hσ : ∀ f a h, W.told f = false → σ f a h = none) {h : H} {id off : Nat} {c : Cap} {xs : List Nat} {st : S8} {bx : Blk} (hb : h.blk id = some bx) (hx : xs.length = 64) (hbx : bx.loadN off xs.length = some (bc xs)) (h256 : ∀ b ∈ xs, b < 256) (li : id < h.nx) :
    RetQ h (.agg ((pressS xs st).l.map w32)) ((lim Tryd.prog σ).call 88 [.agg (st.l.map w32), .sl id off 64 c] h) := by
  obtain ⟨Q, hQ⟩ : ∃ Q, Q = RetQ h (.agg ((pressS xs st).l.map w32)) := ⟨_, rfl⟩
  rw [← hQ]
  rw [call_eq (hσ _ _ _ (by decide)) fn_88 rfl rfl, Tryd.ntmps88, Tryd.results88]
  have hK : ∀ h, (lim Tryd.prog σ).call 93 [] h = some (.agg (KL.map w32), none) := fun h => refK_run hσ h
  have hlen : (KL.map w32).length = 64 := by rw [List.length_map, KL_len]
  simp only [go_sem, Nat.reduceLT, Nat.reduceLeDiff, Nat.reduceEqDiff, Nat.reduceAdd, Nat.reduceSub, Nat.reduceMul, reduceCtorEq, Int.reduceBEq, Int.reduceLT, Int.reduceLE, Int.reduceAdd, Int.reduceSub, Int.reduceEq, Int.reduceNeg, Int.reduceToNat, Int.reduceGT, Int.reduceGE, one_ws, hK, hlen]
  refine store_step (Q := Q) (by rw [wnewBlk_n, hlen]; rfl) (one_ws _) fun b2 hn2 hr2 hl2 hg2 => ?_
  have hKk : ∀ j, j < 64 → b2.get j = some (w32 (kw j)) := fun j hj => by
    rw [hg2, nth_eq, List.getElem?_map]
    unfold kw
    rw [List.getElem?_eq_getElem (by rw [KL_len]; exact hj)]; rfl
  simp only [go_sem, Nat.reduceLT, Nat.reduceLeDiff, Nat.reduceEqDiff, Nat.reduceAdd, Nat.reduceSub, Nat.reduceMul, reduceCtorEq, Int.reduceBEq, Int.reduceLT, Int.reduceLE, Int.reduceAdd, Int.reduceSub, Int.reduceEq, Int.reduceNeg, Int.reduceToNat, Int.reduceGT, Int.reduceGE]
  refine loop_ind (Q := Q) (fun i env h' => RA h h' env st id off c (WX xs i) ∧ evT env 7 = .int .i64 (Int.ofNat i)) 64 0 ?_ (by decide) ?_ ?_
  · refine ⟨⟨by simp only [go_sem, Nat.reduceLT, Nat.reduceLeDiff, Nat.reduceEqDiff, Nat.reduceAdd, Nat.reduceSub, Nat.reduceMul, reduceCtorEq, Int.reduceBEq, Int.reduceLT, Int.reduceLE, Int.reduceAdd, Int.reduceSub, Int.reduceEq, Int.reduceNeg, Int.reduceToNat, Int.reduceGT, Int.reduceGE], by simp only [go_sem, Nat.reduceLT, Nat.reduceLeDiff, Nat.reduceEqDiff, Nat.reduceAdd, Nat.reduceSub, Nat.reduceMul, reduceCtorEq, Int.reduceBEq, Int.reduceLT, Int.reduceLE, Int.reduceAdd, Int.reduceSub, Int.reduceEq, Int.reduceNeg, Int.reduceToNat, Int.reduceGT, Int.reduceGE], by simp only [go_sem, Nat.reduceLT, Nat.reduceLeDiff, Nat.reduceEqDiff, Nat.reduceAdd, Nat.reduceSub, Nat.reduceMul, reduceCtorEq, Int.reduceBEq, Int.reduceLT, Int.reduceLE, Int.reduceAdd, Int.reduceSub, Int.reduceEq, Int.reduceNeg, Int.reduceToNat, Int.reduceGT, Int.reduceGE], by simp only [go_sem, Nat.reduceLT, Nat.reduceLeDiff, Nat.reduceEqDiff, Nat.reduceAdd, Nat.reduceSub, Nat.reduceMul, reduceCtorEq, Int.reduceBEq, Int.reduceLT, Int.reduceLE, Int.reduceAdd, Int.reduceSub, Int.reduceEq, Int.reduceNeg, Int.reduceToNat, Int.reduceGT, Int.reduceGE], by simp only [go_sem, Nat.reduceLT, Nat.reduceLeDiff, Nat.reduceEqDiff, Nat.reduceAdd, Nat.reduceSub, Nat.reduceMul, reduceCtorEq, Int.reduceBEq, Int.reduceLT, Int.reduceLE, Int.reduceAdd, Int.reduceSub, Int.reduceEq, Int.reduceNeg, Int.reduceToNat, Int.reduceGT, Int.reduceGE], by simp only [go_sem, Nat.reduceLT, Nat.reduceLeDiff, Nat.reduceEqDiff, Nat.reduceAdd, Nat.reduceSub, Nat.reduceMul, reduceCtorEq, Int.reduceBEq, Int.reduceLT, Int.reduceLE, Int.reduceAdd, Int.reduceSub, Int.reduceEq, Int.reduceNeg, Int.reduceToNat, Int.reduceGT, Int.reduceGE], ((((((Ext.lo h).alloc' _).alloc' _).alloc' _).put _ (by omega)).alloc' _), by simp only [go_sem, Nat.reduceLT, Nat.reduceLeDiff, Nat.reduceEqDiff, Nat.reduceAdd, Nat.reduceSub, Nat.reduceMul, reduceCtorEq, Int.reduceBEq, Int.reduceLT, Int.reduceLE, Int.reduceAdd, Int.reduceSub, Int.reduceEq, Int.reduceNeg, Int.reduceToNat, Int.reduceGT, Int.reduceGE]; omega, ⟨newBlk (st.l.map w32), by simp only [go_sem, Nat.reduceLT, Nat.reduceLeDiff, Nat.reduceEqDiff, Nat.reduceAdd, Nat.reduceSub, Nat.reduceMul, reduceCtorEq, Int.reduceBEq, Int.reduceLT, Int.reduceLE, Int.reduceAdd, Int.reduceSub, Int.reduceEq, Int.reduceNeg, Int.reduceToNat, Int.reduceGT, Int.reduceGE, show ¬ h.nx = h.nx + 1 + 1 + 1 by omega], fun i => newBlk_get _ _⟩, ⟨_, by simp only [go_sem, Nat.reduceLT, Nat.reduceLeDiff, Nat.reduceEqDiff, Nat.reduceAdd, Nat.reduceSub, Nat.reduceMul, reduceCtorEq, Int.reduceBEq, Int.reduceLT, Int.reduceLE, Int.reduceAdd, Int.reduceSub, Int.reduceEq, Int.reduceNeg, Int.reduceToNat, Int.reduceGT, Int.reduceGE]; rfl, wnewBlk_n _, newBlk_ro _⟩, ⟨b2, by simp only [go_sem, Nat.reduceLT, Nat.reduceLeDiff, Nat.reduceEqDiff, Nat.reduceAdd, Nat.reduceSub, Nat.reduceMul, reduceCtorEq, Int.reduceBEq, Int.reduceLT, Int.reduceLE, Int.reduceAdd, Int.reduceSub, Int.reduceEq, Int.reduceNeg, Int.reduceToNat, Int.reduceGT, Int.reduceGE], hKk⟩, ⟨_, by simp only [go_sem, Nat.reduceLT, Nat.reduceLeDiff, Nat.reduceEqDiff, Nat.reduceAdd, Nat.reduceSub, Nat.reduceMul, reduceCtorEq, Int.reduceBEq, Int.reduceLT, Int.reduceLE, Int.reduceAdd, Int.reduceSub, Int.reduceEq, Int.reduceNeg, Int.reduceToNat, Int.reduceGT, Int.reduceGE]; rfl, wnewBlk_n _, newBlk_ro _, fun j v hj => by simp [WX] at hj⟩⟩, by simp only [go_sem, Nat.reduceLT, Nat.reduceLeDiff, Nat.reduceEqDiff, Nat.reduceAdd, Nat.reduceSub, Nat.reduceMul, reduceCtorEq, Int.reduceBEq, Int.reduceLT, Int.reduceLE, Int.reduceAdd, Int.reduceSub, Int.reduceEq, Int.reduceNeg, Int.reduceToNat, Int.reduceGT, Int.reduceGE]; rfl⟩
  · rintro i env h' ⟨I, e7⟩ hi next
    obtain ⟨b, hbw, hbn, hbr, hbg⟩ := I.w
    have c0 : Int.ofNat i < 64 := by simp; omega
    have w5 : IntKind.wrap .i64 (Int.ofNat i + 1) = Int.ofNat (i + 1) := wrap_n (by simp) (by omega)
    by_cases h16 : i < 16
    · have c1 : Int.ofNat i < 16 := by simp; omega
      have w1 : IntKind.wrap .i64 (4 * Int.ofNat i) = Int.ofNat (4 * i) := wrap_n (by simp) (by omega)
      have w2 : IntKind.wrap .i64 (Int.ofNat (4 * i) + 1) = Int.ofNat (4 * i + 1) := wrap_n (by simp) (by omega)
      have w3 : IntKind.wrap .i64 (Int.ofNat (4 * i) + 2) = Int.ofNat (4 * i + 2) := wrap_n (by simp) (by omega)
      have w4 : IntKind.wrap .i64 (Int.ofNat (4 * i) + 3) = Int.ofNat (4 * i + 3) := wrap_n (by simp) (by omega)
      have hb' : h'.blk id = some bx := (I.ext.blk li).trans hb
      have i0 := fun kd => ia22 (id := id) (off := off) (len := 64) (c := c) (k := 4 * i) (by omega) kd
      have i1 := fun kd => ia22 (id := id) (off := off) (len := 64) (c := c) (k := 4 * i + 1) (by omega) kd
      have i2 := fun kd => ia22 (id := id) (off := off) (len := 64) (c := c) (k := 4 * i + 2) (by omega) kd
      have i3 := fun kd => ia22 (id := id) (off := off) (len := 64) (c := c) (k := 4 * i + 3) (by omega) kd
      have g0 := bload hbx (k := 4 * i) (by omega)
      have g1 := bload hbx (k := 4 * i + 1) (by omega)
      have g2 := bload hbx (k := 4 * i + 2) (by omega)
      have g3 := bload hbx (k := 4 * i + 3) (by omega)
      have m1 : CV.int .u32 16777216 = w32 (BitVec.ofNat 32 16777216) := rfl
      have m2 : CV.int .u32 65536 = w32 (BitVec.ofNat 32 65536) := rfl
      have m3 : CV.int .u32 256 = w32 (BitVec.ofNat 32 256) := rfl
      simp only [go_sem, Nat.reduceLT, Nat.reduceLeDiff, Nat.reduceEqDiff, Nat.reduceAdd, Nat.reduceSub, Nat.reduceMul, reduceCtorEq, Int.reduceBEq, Int.reduceLT, Int.reduceLE, Int.reduceAdd, Int.reduceSub, Int.reduceEq, Int.reduceNeg, Int.reduceToNat, Int.reduceGT, Int.reduceGE, wadd32, wmul32, wadd64, wmul64, wand32, wor32, wxor32, wand64, wor64, wnot32, wsub32, wsub64, wshr32l, wshl32l, wshr64l, wshl64l, wshr32w, wshl32w, wshr64w, wlt64, wgt64, weq64, wne64, I.e1, I.e2, I.e4, I.e5, I.e6, e7, c0, c1, w1, w2, w3, w4, w5, hb', i0, i1, i2, i3, g0, g1, g2, g3, cv53, m1, m2, m3, hi, hbw, hbr, hbn, Nat.mul_one]
      refine cnd_go (Q := Q) (by kernel_rfl) ?_
      simp only [go_sem, Nat.reduceLT, Nat.reduceLeDiff, Nat.reduceEqDiff, Nat.reduceAdd, Nat.reduceSub, Nat.reduceMul, reduceCtorEq, Int.reduceBEq, Int.reduceLT, Int.reduceLE, Int.reduceAdd, Int.reduceSub, Int.reduceEq, Int.reduceNeg, Int.reduceToNat, Int.reduceGT, Int.reduceGE, wadd32, wmul32, wadd64, wmul64, wand32, wor32, wxor32, wand64, wor64, wnot32, wsub32, wsub64, wshr32l, wshl32l, wshr64l, wshl64l, wshr32w, wshl32w, wshr64w, wlt64, wgt64, weq64, wne64, I.e1, I.e2, I.e4, I.e5, I.e6, e7, c0, c1, w1, w2, w3, w4, w5, hb', i0, i1, i2, i3, g0, g1, g2, g3, cv53, m1, m2, m3, hi, hbw, hbr, hbn, Nat.mul_one]
      refine cnd_go (Q := Q) (by kernel_rfl) ?_
      refine quiet_go (Q := Q) (by kernel_rfl) ?_
      simp only [go_sem, Nat.reduceLT, Nat.reduceLeDiff, Nat.reduceEqDiff, Nat.reduceAdd, Nat.reduceSub, Nat.reduceMul, reduceCtorEq, Int.reduceBEq, Int.reduceLT, Int.reduceLE, Int.reduceAdd, Int.reduceSub, Int.reduceEq, Int.reduceNeg, Int.reduceToNat, Int.reduceGT, Int.reduceGE, wadd32, wmul32, wadd64, wmul64, wand32, wor32, wxor32, wand64, wor64, wnot32, wsub32, wsub64, wshr32l, wshl32l, wshr64l, wshl64l, wshr32w, wshl32w, wshr64w, wlt64, wgt64, weq64, wne64, I.e1, I.e2, I.e4, I.e5, I.e6, e7, c0, c1, w1, w2, w3, w4, w5, hb', i0, i1, i2, i3, g0, g1, g2, g3, cv53, m1, m2, m3, hi, hbw, hbr, hbn, Nat.mul_one]
      have hby : ∀ k, k < 64 → xs[k]?.getD 0 < 256 := fun k hk => by
        rw [List.getElem?_eq_getElem (by omega)]; exact h256 _ (List.getElem_mem _)
      exact next _ _ ⟨I.put hbw hbn hbr hbg hi (by simp only [go_sem, Nat.reduceLT, Nat.reduceLeDiff, Nat.reduceEqDiff, Nat.reduceAdd, Nat.reduceSub, Nat.reduceMul, reduceCtorEq, Int.reduceBEq, Int.reduceLT, Int.reduceLE, Int.reduceAdd, Int.reduceSub, Int.reduceEq, Int.reduceNeg, Int.reduceToNat, Int.reduceGT, Int.reduceGE, I.e1]) (by simp only [go_sem, Nat.reduceLT, Nat.reduceLeDiff, Nat.reduceEqDiff, Nat.reduceAdd, Nat.reduceSub, Nat.reduceMul, reduceCtorEq, Int.reduceBEq, Int.reduceLT, Int.reduceLE, Int.reduceAdd, Int.reduceSub, Int.reduceEq, Int.reduceNeg, Int.reduceToNat, Int.reduceGT, Int.reduceGE, I.e2]) (by simp only [go_sem, Nat.reduceLT, Nat.reduceLeDiff, Nat.reduceEqDiff, Nat.reduceAdd, Nat.reduceSub, Nat.reduceMul, reduceCtorEq, Int.reduceBEq, Int.reduceLT, Int.reduceLE, Int.reduceAdd, Int.reduceSub, Int.reduceEq, Int.reduceNeg, Int.reduceToNat, Int.reduceGT, Int.reduceGE, I.e4]) (by simp only [go_sem, Nat.reduceLT, Nat.reduceLeDiff, Nat.reduceEqDiff, Nat.reduceAdd, Nat.reduceSub, Nat.reduceMul, reduceCtorEq, Int.reduceBEq, Int.reduceLT, Int.reduceLE, Int.reduceAdd, Int.reduceSub, Int.reduceEq, Int.reduceNeg, Int.reduceToNat, Int.reduceGT, Int.reduceGE, I.e5]) (by simp only [go_sem, Nat.reduceLT, Nat.reduceLeDiff, Nat.reduceEqDiff, Nat.reduceAdd, Nat.reduceSub, Nat.reduceMul, reduceCtorEq, Int.reduceBEq, Int.reduceLT, Int.reduceLE, Int.reduceAdd, Int.reduceSub, Int.reduceEq, Int.reduceNeg, Int.reduceToNat, Int.reduceGT, Int.reduceGE, I.e6]) (by
        rw [W_lo xs h16, wd_add (hby _ (by omega)) (hby _ (by omega)) (hby _ (by omega)) (hby _ (by omega))]; rfl), by simp only [go_sem, Nat.reduceLT, Nat.reduceLeDiff, Nat.reduceEqDiff, Nat.reduceAdd, Nat.reduceSub, Nat.reduceMul, reduceCtorEq, Int.reduceBEq, Int.reduceLT, Int.reduceLE, Int.reduceAdd, Int.reduceSub, Int.reduceEq, Int.reduceNeg, Int.reduceToNat, Int.reduceGT, Int.reduceGE]⟩
    · have c1 : ¬ Int.ofNat i < 16 := by simp; omega
      have w1 : IntKind.wrap .i64 (Int.ofNat i - 15) = Int.ofNat (i - 15) := wrap_n (by simp; omega) (by omega)
      have w2 : IntKind.wrap .i64 (Int.ofNat i - 2) = Int.ofNat (i - 2) := wrap_n (by simp; omega) (by omega)
      have w3 : IntKind.wrap .i64 (Int.ofNat i - 16) = Int.ofNat (i - 16) := wrap_n (by simp; omega) (by omega)
      have w4 : IntKind.wrap .i64 (Int.ofNat i - 7) = Int.ofNat (i - 7) := wrap_n (by simp; omega) (by omega)
      have l1 : i - 15 < 64 := by omega
      have l2 : i - 2 < 64 := by omega
      have l3 : i - 16 < 64 := by omega
      have l4 : i - 7 < 64 := by omega
      have g1 : b.get (i - 15) = some (w32 (W xs (i - 15))) := hbg _ _ (if_pos (by omega))
      have g2 : b.get (i - 2) = some (w32 (W xs (i - 2))) := hbg _ _ (if_pos (by omega))
      have g3 : b.get (i - 16) = some (w32 (W xs (i - 16))) := hbg _ _ (if_pos (by omega))
      have g4 : b.get (i - 7) = some (w32 (W xs (i - 7))) := hbg _ _ (if_pos (by omega))
      have rr : ∀ (n : Nat) (_ : n ≤ 32) h x, (lim Tryd.prog σ).call 94 [w32 x, .int .u64 (Int.ofNat n)] h = some (w32 (rotr x n), none) := fun n h2 h x => rright_run hσ h x n h2
      have r1 : ∀ h x, (lim Tryd.prog σ).call 94 [w32 x, .int .u64 7] h = some (w32 (rotr x 7), none) := rr 7 (by decide)
      have r2 : ∀ h x, (lim Tryd.prog σ).call 94 [w32 x, .int .u64 18] h = some (w32 (rotr x 18), none) := rr 18 (by decide)
      have r3 : ∀ h x, (lim Tryd.prog σ).call 94 [w32 x, .int .u64 17] h = some (w32 (rotr x 17), none) := rr 17 (by decide)
      have r4 : ∀ h x, (lim Tryd.prog σ).call 94 [w32 x, .int .u64 19] h = some (w32 (rotr x 19), none) := rr 19 (by decide)
      have d1 : CV.int .u32 8 = w32 (BitVec.ofNat 32 8) := rfl
      have d2 : CV.int .u32 1024 = w32 (BitVec.ofNat 32 1024) := rfl
      have q1 : ∀ t xo yo x, binT Tryd.prog .quo t xo yo (w32 x) (w32 (BitVec.ofNat 32 8)) = some (w32 (x >>> 3)) := fun t xo yo x => by rw [wquo32 t xo yo (by decide), div8]
      have q2 : ∀ t xo yo x, binT Tryd.prog .quo t xo yo (w32 x) (w32 (BitVec.ofNat 32 1024)) = some (w32 (x >>> 10)) := fun t xo yo x => by rw [wquo32 t xo yo (by decide), div1024]
      simp only [go_sem, Nat.reduceLT, Nat.reduceLeDiff, Nat.reduceEqDiff, Nat.reduceAdd, Nat.reduceSub, Nat.reduceMul, reduceCtorEq, Int.reduceBEq, Int.reduceLT, Int.reduceLE, Int.reduceAdd, Int.reduceSub, Int.reduceEq, Int.reduceNeg, Int.reduceToNat, Int.reduceGT, Int.reduceGE, wadd32, wmul32, wadd64, wmul64, wand32, wor32, wxor32, wand64, wor64, wnot32, wsub32, wsub64, wshr32l, wshl32l, wshr64l, wshl64l, wshr32w, wshl32w, wshr64w, wlt64, wgt64, weq64, wne64, I.e1, I.e2, I.e4, I.e5, I.e6, e7, c0, c1, w1, w2, w3, w4, w5, l1, l2, l3, l4, hi, g1, g2, g3, g4, r1, r2, r3, r4, d1, d2, q1, q2, hbw, hbr, hbn, Nat.mul_one]
      refine cnd_go (Q := Q) (by kernel_rfl) ?_
      simp only [go_sem, Nat.reduceLT, Nat.reduceLeDiff, Nat.reduceEqDiff, Nat.reduceAdd, Nat.reduceSub, Nat.reduceMul, reduceCtorEq, Int.reduceBEq, Int.reduceLT, Int.reduceLE, Int.reduceAdd, Int.reduceSub, Int.reduceEq, Int.reduceNeg, Int.reduceToNat, Int.reduceGT, Int.reduceGE, wadd32, wmul32, wadd64, wmul64, wand32, wor32, wxor32, wand64, wor64, wnot32, wsub32, wsub64, wshr32l, wshl32l, wshr64l, wshl64l, wshr32w, wshl32w, wshr64w, wlt64, wgt64, weq64, wne64, I.e1, I.e2, I.e4, I.e5, I.e6, e7, c0, c1, w1, w2, w3, w4, w5, l1, l2, l3, l4, hi, g1, g2, g3, g4, r1, r2, r3, r4, d1, d2, q1, q2, hbw, hbr, hbn, Nat.mul_one]
      refine cnd_go (Q := Q) (by kernel_rfl) ?_
      simp only [go_sem, Nat.reduceLT, Nat.reduceLeDiff, Nat.reduceEqDiff, Nat.reduceAdd, Nat.reduceSub, Nat.reduceMul, reduceCtorEq, Int.reduceBEq, Int.reduceLT, Int.reduceLE, Int.reduceAdd, Int.reduceSub, Int.reduceEq, Int.reduceNeg, Int.reduceToNat, Int.reduceGT, Int.reduceGE, wadd32, wmul32, wadd64, wmul64, wand32, wor32, wxor32, wand64, wor64, wnot32, wsub32, wsub64, wshr32l, wshl32l, wshr64l, wshl64l, wshr32w, wshl32w, wshr64w, wlt64, wgt64, weq64, wne64, I.e1, I.e2, I.e4, I.e5, I.e6, e7, c0, c1, w1, w2, w3, w4, w5, l1, l2, l3, l4, hi, g1, g2, g3, g4, r1, r2, r3, r4, d1, d2, q1, q2, hbw, hbr, hbn, Nat.mul_one]
      refine cnd_go (Q := Q) (by kernel_rfl) ?_
      refine quiet_go (Q := Q) (by kernel_rfl) ?_
      simp only [go_sem, Nat.reduceLT, Nat.reduceLeDiff, Nat.reduceEqDiff, Nat.reduceAdd, Nat.reduceSub, Nat.reduceMul, reduceCtorEq, Int.reduceBEq, Int.reduceLT, Int.reduceLE, Int.reduceAdd, Int.reduceSub, Int.reduceEq, Int.reduceNeg, Int.reduceToNat, Int.reduceGT, Int.reduceGE, wadd32, wmul32, wadd64, wmul64, wand32, wor32, wxor32, wand64, wor64, wnot32, wsub32, wsub64, wshr32l, wshl32l, wshr64l, wshl64l, wshr32w, wshl32w, wshr64w, wlt64, wgt64, weq64, wne64, I.e1, I.e2, I.e4, I.e5, I.e6, e7, c0, c1, w1, w2, w3, w4, w5, l1, l2, l3, l4, hi, g1, g2, g3, g4, r1, r2, r3, r4, d1, d2, q1, q2, hbw, hbr, hbn, Nat.mul_one]
      exact next _ _ ⟨I.put hbw hbn hbr hbg hi (by simp only [go_sem, Nat.reduceLT, Nat.reduceLeDiff, Nat.reduceEqDiff, Nat.reduceAdd, Nat.reduceSub, Nat.reduceMul, reduceCtorEq, Int.reduceBEq, Int.reduceLT, Int.reduceLE, Int.reduceAdd, Int.reduceSub, Int.reduceEq, Int.reduceNeg, Int.reduceToNat, Int.reduceGT, Int.reduceGE, I.e1]) (by simp only [go_sem, Nat.reduceLT, Nat.reduceLeDiff, Nat.reduceEqDiff, Nat.reduceAdd, Nat.reduceSub, Nat.reduceMul, reduceCtorEq, Int.reduceBEq, Int.reduceLT, Int.reduceLE, Int.reduceAdd, Int.reduceSub, Int.reduceEq, Int.reduceNeg, Int.reduceToNat, Int.reduceGT, Int.reduceGE, I.e2]) (by simp only [go_sem, Nat.reduceLT, Nat.reduceLeDiff, Nat.reduceEqDiff, Nat.reduceAdd, Nat.reduceSub, Nat.reduceMul, reduceCtorEq, Int.reduceBEq, Int.reduceLT, Int.reduceLE, Int.reduceAdd, Int.reduceSub, Int.reduceEq, Int.reduceNeg, Int.reduceToNat, Int.reduceGT, Int.reduceGE, I.e4]) (by simp only [go_sem, Nat.reduceLT, Nat.reduceLeDiff, Nat.reduceEqDiff, Nat.reduceAdd, Nat.reduceSub, Nat.reduceMul, reduceCtorEq, Int.reduceBEq, Int.reduceLT, Int.reduceLE, Int.reduceAdd, Int.reduceSub, Int.reduceEq, Int.reduceNeg, Int.reduceToNat, Int.reduceGT, Int.reduceGE, I.e5]) (by simp only [go_sem, Nat.reduceLT, Nat.reduceLeDiff, Nat.reduceEqDiff, Nat.reduceAdd, Nat.reduceSub, Nat.reduceMul, reduceCtorEq, Int.reduceBEq, Int.reduceLT, Int.reduceLE, Int.reduceAdd, Int.reduceSub, Int.reduceEq, Int.reduceNeg, Int.reduceToNat, Int.reduceGT, Int.reduceGE, I.e6]) (by rw [W_hi xs (t := i) (by omega)]; rfl), by simp only [go_sem, Nat.reduceLT, Nat.reduceLeDiff, Nat.reduceEqDiff, Nat.reduceAdd, Nat.reduceSub, Nat.reduceMul, reduceCtorEq, Int.reduceBEq, Int.reduceLT, Int.reduceLE, Int.reduceAdd, Int.reduceSub, Int.reduceEq, Int.reduceNeg, Int.reduceToNat, Int.reduceGT, Int.reduceGE]⟩
  rintro env h' ⟨I, e7⟩
  have c0 : ¬ Int.ofNat 64 < 64 := by decide
  obtain ⟨bs, hs', hsg⟩ := I.s
  have g0 : bs.get 0 = some (w32 st.a) := hsg 0
  have g1 : bs.get 1 = some (w32 st.b) := hsg 1
  have g2 : bs.get 2 = some (w32 st.c) := hsg 2
  have g3 : bs.get 3 = some (w32 st.d) := hsg 3
  have g4 : bs.get 4 = some (w32 st.e) := hsg 4
  have g5 : bs.get 5 = some (w32 st.f) := hsg 5
  have g6 : bs.get 6 = some (w32 st.g) := hsg 6
  have g7 : bs.get 7 = some (w32 st.h) := hsg 7
  obtain ⟨s, hs0⟩ : ∃ s, s = h.nx := ⟨_, rfl⟩
  have e2 : evT env 2 = .ptr s 0 := by rw [hs0]; exact I.e2
  rw [← hs0] at hs'
  have ix : ∀ k : Nat, k < 8 → ∀ kd, indexAddrT Tryd.prog 104 (.ptr s 0) (.int kd (Int.ofNat k)) = some (.ptr s k) := fun k hk kd => by
    rw [ia_104, blt_eq', decide_eq_true hk, cond_true, Nat.mul_one, Nat.zero_add]
  have x0 : ∀ kd, indexAddrT Tryd.prog 104 (.ptr s 0) (.int kd 0) = some (.ptr s 0) := ix 0 (by decide)
  have x1 : ∀ kd, indexAddrT Tryd.prog 104 (.ptr s 0) (.int kd 1) = some (.ptr s 1) := ix 1 (by decide)
  have x2 : ∀ kd, indexAddrT Tryd.prog 104 (.ptr s 0) (.int kd 2) = some (.ptr s 2) := ix 2 (by decide)
  have x3 : ∀ kd, indexAddrT Tryd.prog 104 (.ptr s 0) (.int kd 3) = some (.ptr s 3) := ix 3 (by decide)
  have x4 : ∀ kd, indexAddrT Tryd.prog 104 (.ptr s 0) (.int kd 4) = some (.ptr s 4) := ix 4 (by decide)
  have x5 : ∀ kd, indexAddrT Tryd.prog 104 (.ptr s 0) (.int kd 5) = some (.ptr s 5) := ix 5 (by decide)
  have x6 : ∀ kd, indexAddrT Tryd.prog 104 (.ptr s 0) (.int kd 6) = some (.ptr s 6) := ix 6 (by decide)
  have x7 : ∀ kd, indexAddrT Tryd.prog 104 (.ptr s 0) (.int kd 7) = some (.ptr s 7) := ix 7 (by decide)
  simp only [go_sem, Nat.reduceLT, Nat.reduceLeDiff, Nat.reduceEqDiff, Nat.reduceAdd, Nat.reduceSub, Nat.reduceMul, reduceCtorEq, Int.reduceBEq, Int.reduceLT, Int.reduceLE, Int.reduceAdd, Int.reduceSub, Int.reduceEq, Int.reduceNeg, Int.reduceToNat, Int.reduceGT, Int.reduceGE, wadd32, wmul32, wadd64, wmul64, wand32, wor32, wxor32, wand64, wor64, wnot32, wsub32, wsub64, wshr32l, wshl32l, wshr64l, wshl64l, wshr32w, wshl32w, wshr64w, wlt64, wgt64, weq64, wne64, e2, e7, c0, hs', g0, g1, g2, g3, g4, g5, g6, g7, x0, x1, x2, x3, x4, x5, x6, x7]
  refine cnd_go (Q := Q) (by kernel_rfl) ?_
  simp only [go_sem, Nat.reduceLT, Nat.reduceLeDiff, Nat.reduceEqDiff, Nat.reduceAdd, Nat.reduceSub, Nat.reduceMul, reduceCtorEq, Int.reduceBEq, Int.reduceLT, Int.reduceLE, Int.reduceAdd, Int.reduceSub, Int.reduceEq, Int.reduceNeg, Int.reduceToNat, Int.reduceGT, Int.reduceGE, wadd32, wmul32, wadd64, wmul64, wand32, wor32, wxor32, wand64, wor64, wnot32, wsub32, wsub64, wshr32l, wshl32l, wshr64l, wshl64l, wshr32w, wshl32w, wshr64w, wlt64, wgt64, weq64, wne64, e2, e7, c0, hs', g0, g1, g2, g3, g4, g5, g6, g7, x0, x1, x2, x3, x4, x5, x6, x7]
  refine cnd_go (Q := Q) (by kernel_rfl) ?_
  simp only [go_sem, Nat.reduceLT, Nat.reduceLeDiff, Nat.reduceEqDiff, Nat.reduceAdd, Nat.reduceSub, Nat.reduceMul, reduceCtorEq, Int.reduceBEq, Int.reduceLT, Int.reduceLE, Int.reduceAdd, Int.reduceSub, Int.reduceEq, Int.reduceNeg, Int.reduceToNat, Int.reduceGT, Int.reduceGE, wadd32, wmul32, wadd64, wmul64, wand32, wor32, wxor32, wand64, wor64, wnot32, wsub32, wsub64, wshr32l, wshl32l, wshr64l, wshl64l, wshr32w, wshl32w, wshr64w, wlt64, wgt64, weq64, wne64, e2, e7, c0, hs', g0, g1, g2, g3, g4, g5, g6, g7, x0, x1, x2, x3, x4, x5, x6, x7]
  refine loop_ind (Q := Q) (fun i env h' => RA h h' env st id off c (WX xs 64) ∧ evT env 18 = .int .i64 (Int.ofNat i) ∧ RE env (rnds xs st i)) 64 0 ?_ (by decide) ?_ ?_
  · exact ⟨I.env (by simp only [go_sem, Nat.reduceLT, Nat.reduceLeDiff, Nat.reduceEqDiff, Nat.reduceAdd, Nat.reduceSub, Nat.reduceMul, reduceCtorEq, Int.reduceBEq, Int.reduceLT, Int.reduceLE, Int.reduceAdd, Int.reduceSub, Int.reduceEq, Int.reduceNeg, Int.reduceToNat, Int.reduceGT, Int.reduceGE, I.e1]) (by simp only [go_sem, Nat.reduceLT, Nat.reduceLeDiff, Nat.reduceEqDiff, Nat.reduceAdd, Nat.reduceSub, Nat.reduceMul, reduceCtorEq, Int.reduceBEq, Int.reduceLT, Int.reduceLE, Int.reduceAdd, Int.reduceSub, Int.reduceEq, Int.reduceNeg, Int.reduceToNat, Int.reduceGT, Int.reduceGE, I.e2]) (by simp only [go_sem, Nat.reduceLT, Nat.reduceLeDiff, Nat.reduceEqDiff, Nat.reduceAdd, Nat.reduceSub, Nat.reduceMul, reduceCtorEq, Int.reduceBEq, Int.reduceLT, Int.reduceLE, Int.reduceAdd, Int.reduceSub, Int.reduceEq, Int.reduceNeg, Int.reduceToNat, Int.reduceGT, Int.reduceGE, I.e4]) (by simp only [go_sem, Nat.reduceLT, Nat.reduceLeDiff, Nat.reduceEqDiff, Nat.reduceAdd, Nat.reduceSub, Nat.reduceMul, reduceCtorEq, Int.reduceBEq, Int.reduceLT, Int.reduceLE, Int.reduceAdd, Int.reduceSub, Int.reduceEq, Int.reduceNeg, Int.reduceToNat, Int.reduceGT, Int.reduceGE, I.e5]) (by simp only [go_sem, Nat.reduceLT, Nat.reduceLeDiff, Nat.reduceEqDiff, Nat.reduceAdd, Nat.reduceSub, Nat.reduceMul, reduceCtorEq, Int.reduceBEq, Int.reduceLT, Int.reduceLE, Int.reduceAdd, Int.reduceSub, Int.reduceEq, Int.reduceNeg, Int.reduceToNat, Int.reduceGT, Int.reduceGE, I.e6]), by simp only [go_sem, Nat.reduceLT, Nat.reduceLeDiff, Nat.reduceEqDiff, Nat.reduceAdd, Nat.reduceSub, Nat.reduceMul, reduceCtorEq, Int.reduceBEq, Int.reduceLT, Int.reduceLE, Int.reduceAdd, Int.reduceSub, Int.reduceEq, Int.reduceNeg, Int.reduceToNat, Int.reduceGT, Int.reduceGE]; rfl,
      by simp only [go_sem, Nat.reduceLT, Nat.reduceLeDiff, Nat.reduceEqDiff, Nat.reduceAdd, Nat.reduceSub, Nat.reduceMul, reduceCtorEq, Int.reduceBEq, Int.reduceLT, Int.reduceLE, Int.reduceAdd, Int.reduceSub, Int.reduceEq, Int.reduceNeg, Int.reduceToNat, Int.reduceGT, Int.reduceGE]; rfl, by simp only [go_sem, Nat.reduceLT, Nat.reduceLeDiff, Nat.reduceEqDiff, Nat.reduceAdd, Nat.reduceSub, Nat.reduceMul, reduceCtorEq, Int.reduceBEq, Int.reduceLT, Int.reduceLE, Int.reduceAdd, Int.reduceSub, Int.reduceEq, Int.reduceNeg, Int.reduceToNat, Int.reduceGT, Int.reduceGE]; rfl, by simp only [go_sem, Nat.reduceLT, Nat.reduceLeDiff, Nat.reduceEqDiff, Nat.reduceAdd, Nat.reduceSub, Nat.reduceMul, reduceCtorEq, Int.reduceBEq, Int.reduceLT, Int.reduceLE, Int.reduceAdd, Int.reduceSub, Int.reduceEq, Int.reduceNeg, Int.reduceToNat, Int.reduceGT, Int.reduceGE]; rfl, by simp only [go_sem, Nat.reduceLT, Nat.reduceLeDiff, Nat.reduceEqDiff, Nat.reduceAdd, Nat.reduceSub, Nat.reduceMul, reduceCtorEq, Int.reduceBEq, Int.reduceLT, Int.reduceLE, Int.reduceAdd, Int.reduceSub, Int.reduceEq, Int.reduceNeg, Int.reduceToNat, Int.reduceGT, Int.reduceGE]; rfl, by simp only [go_sem, Nat.reduceLT, Nat.reduceLeDiff, Nat.reduceEqDiff, Nat.reduceAdd, Nat.reduceSub, Nat.reduceMul, reduceCtorEq, Int.reduceBEq, Int.reduceLT, Int.reduceLE, Int.reduceAdd, Int.reduceSub, Int.reduceEq, Int.reduceNeg, Int.reduceToNat, Int.reduceGT, Int.reduceGE]; rfl, by simp only [go_sem, Nat.reduceLT, Nat.reduceLeDiff, Nat.reduceEqDiff, Nat.reduceAdd, Nat.reduceSub, Nat.reduceMul, reduceCtorEq, Int.reduceBEq, Int.reduceLT, Int.reduceLE, Int.reduceAdd, Int.reduceSub, Int.reduceEq, Int.reduceNeg, Int.reduceToNat, Int.reduceGT, Int.reduceGE]; rfl, by simp only [go_sem, Nat.reduceLT, Nat.reduceLeDiff, Nat.reduceEqDiff, Nat.reduceAdd, Nat.reduceSub, Nat.reduceMul, reduceCtorEq, Int.reduceBEq, Int.reduceLT, Int.reduceLE, Int.reduceAdd, Int.reduceSub, Int.reduceEq, Int.reduceNeg, Int.reduceToNat, Int.reduceGT, Int.reduceGE]; rfl, by simp only [go_sem, Nat.reduceLT, Nat.reduceLeDiff, Nat.reduceEqDiff, Nat.reduceAdd, Nat.reduceSub, Nat.reduceMul, reduceCtorEq, Int.reduceBEq, Int.reduceLT, Int.reduceLE, Int.reduceAdd, Int.reduceSub, Int.reduceEq, Int.reduceNeg, Int.reduceToNat, Int.reduceGT, Int.reduceGE]; rfl⟩
  · clear I e7 e2 c0 hs' hsg g0 g1 g2 g3 g4 g5 g6 g7 bs env h'
    rintro i env h' ⟨I, e18, E⟩ hi next
    obtain ⟨b, hbw, hbn, hbr, hbg⟩ := I.w
    obtain ⟨bk, hk', hkg⟩ := I.k
    have c0 : Int.ofNat i < 64 := by simp; omega
    have w1 : IntKind.wrap .i64 (Int.ofNat i + 1) = Int.ofNat (i + 1) := wrap_n (by simp) (by omega)
    have gk := hkg i hi
    have gw : b.get i = some (w32 (W xs i)) := hbg _ _ (if_pos hi)
    have rr : ∀ (n : Nat) (_ : n ≤ 32) h x, (lim Tryd.prog σ).call 94 [w32 x, .int .u64 (Int.ofNat n)] h = some (w32 (rotr x n), none) := fun n h2 h x => rright_run hσ h x n h2
    have r1 : ∀ h x, (lim Tryd.prog σ).call 94 [w32 x, .int .u64 6] h = some (w32 (rotr x 6), none) := rr 6 (by decide)
    have r2 : ∀ h x, (lim Tryd.prog σ).call 94 [w32 x, .int .u64 11] h = some (w32 (rotr x 11), none) := rr 11 (by decide)
    have r3 : ∀ h x, (lim Tryd.prog σ).call 94 [w32 x, .int .u64 25] h = some (w32 (rotr x 25), none) := rr 25 (by decide)
    have r4 : ∀ h x, (lim Tryd.prog σ).call 94 [w32 x, .int .u64 2] h = some (w32 (rotr x 2), none) := rr 2 (by decide)
    have r5 : ∀ h x, (lim Tryd.prog σ).call 94 [w32 x, .int .u64 13] h = some (w32 (rotr x 13), none) := rr 13 (by decide)
    have r6 : ∀ h x, (lim Tryd.prog σ).call 94 [w32 x, .int .u64 22] h = some (w32 (rotr x 22), none) := rr 22 (by decide)
    have m1 : CV.int .u32 4294967295 = w32 (BitVec.ofNat 32 4294967295) := rfl
    simp only [go_sem, Nat.reduceLT, Nat.reduceLeDiff, Nat.reduceEqDiff, Nat.reduceAdd, Nat.reduceSub, Nat.reduceMul, reduceCtorEq, Int.reduceBEq, Int.reduceLT, Int.reduceLE, Int.reduceAdd, Int.reduceSub, Int.reduceEq, Int.reduceNeg, Int.reduceToNat, Int.reduceGT, Int.reduceGE, wadd32, wmul32, wadd64, wmul64, wand32, wor32, wxor32, wand64, wor64, wnot32, wsub32, wsub64, wshr32l, wshl32l, wshr64l, wshl64l, wshr32w, wshl32w, wshr64w, wlt64, wgt64, weq64, wne64, I.e1, I.e2, I.e4, I.e5, I.e6, e18, c0, E.a, E.b, E.c, E.d, E.e, E.f, E.g, E.h, w1, hi, hk', gk, gw, hbw, r1, r2, r3, r4, r5, r6, m1, sub_not, Nat.mul_one]
    refine cnd_go (Q := Q) (by kernel_rfl) ?_
    simp only [go_sem, Nat.reduceLT, Nat.reduceLeDiff, Nat.reduceEqDiff, Nat.reduceAdd, Nat.reduceSub, Nat.reduceMul, reduceCtorEq, Int.reduceBEq, Int.reduceLT, Int.reduceLE, Int.reduceAdd, Int.reduceSub, Int.reduceEq, Int.reduceNeg, Int.reduceToNat, Int.reduceGT, Int.reduceGE, wadd32, wmul32, wadd64, wmul64, wand32, wor32, wxor32, wand64, wor64, wnot32, wsub32, wsub64, wshr32l, wshl32l, wshr64l, wshl64l, wshr32w, wshl32w, wshr64w, wlt64, wgt64, weq64, wne64, I.e1, I.e2, I.e4, I.e5, I.e6, e18, c0, E.a, E.b, E.c, E.d, E.e, E.f, E.g, E.h, w1, hi, hk', gk, gw, hbw, r1, r2, r3, r4, r5, r6, m1, sub_not, Nat.mul_one]
    refine next _ _ ⟨I.env (by simp only [go_sem, Nat.reduceLT, Nat.reduceLeDiff, Nat.reduceEqDiff, Nat.reduceAdd, Nat.reduceSub, Nat.reduceMul, reduceCtorEq, Int.reduceBEq, Int.reduceLT, Int.reduceLE, Int.reduceAdd, Int.reduceSub, Int.reduceEq, Int.reduceNeg, Int.reduceToNat, Int.reduceGT, Int.reduceGE, I.e1]) (by simp only [go_sem, Nat.reduceLT, Nat.reduceLeDiff, Nat.reduceEqDiff, Nat.reduceAdd, Nat.reduceSub, Nat.reduceMul, reduceCtorEq, Int.reduceBEq, Int.reduceLT, Int.reduceLE, Int.reduceAdd, Int.reduceSub, Int.reduceEq, Int.reduceNeg, Int.reduceToNat, Int.reduceGT, Int.reduceGE, I.e2]) (by simp only [go_sem, Nat.reduceLT, Nat.reduceLeDiff, Nat.reduceEqDiff, Nat.reduceAdd, Nat.reduceSub, Nat.reduceMul, reduceCtorEq, Int.reduceBEq, Int.reduceLT, Int.reduceLE, Int.reduceAdd, Int.reduceSub, Int.reduceEq, Int.reduceNeg, Int.reduceToNat, Int.reduceGT, Int.reduceGE, I.e4]) (by simp only [go_sem, Nat.reduceLT, Nat.reduceLeDiff, Nat.reduceEqDiff, Nat.reduceAdd, Nat.reduceSub, Nat.reduceMul, reduceCtorEq, Int.reduceBEq, Int.reduceLT, Int.reduceLE, Int.reduceAdd, Int.reduceSub, Int.reduceEq, Int.reduceNeg, Int.reduceToNat, Int.reduceGT, Int.reduceGE, I.e5]) (by simp only [go_sem, Nat.reduceLT, Nat.reduceLeDiff, Nat.reduceEqDiff, Nat.reduceAdd, Nat.reduceSub, Nat.reduceMul, reduceCtorEq, Int.reduceBEq, Int.reduceLT, Int.reduceLE, Int.reduceAdd, Int.reduceSub, Int.reduceEq, Int.reduceNeg, Int.reduceToNat, Int.reduceGT, Int.reduceGE, I.e6]), by simp only [go_sem, Nat.reduceLT, Nat.reduceLeDiff, Nat.reduceEqDiff, Nat.reduceAdd, Nat.reduceSub, Nat.reduceMul, reduceCtorEq, Int.reduceBEq, Int.reduceLT, Int.reduceLE, Int.reduceAdd, Int.reduceSub, Int.reduceEq, Int.reduceNeg, Int.reduceToNat, Int.reduceGT, Int.reduceGE],
      by simp only [go_sem, Nat.reduceLT, Nat.reduceLeDiff, Nat.reduceEqDiff, Nat.reduceAdd, Nat.reduceSub, Nat.reduceMul, reduceCtorEq, Int.reduceBEq, Int.reduceLT, Int.reduceLE, Int.reduceAdd, Int.reduceSub, Int.reduceEq, Int.reduceNeg, Int.reduceToNat, Int.reduceGT, Int.reduceGE]; rfl, by simp only [go_sem, Nat.reduceLT, Nat.reduceLeDiff, Nat.reduceEqDiff, Nat.reduceAdd, Nat.reduceSub, Nat.reduceMul, reduceCtorEq, Int.reduceBEq, Int.reduceLT, Int.reduceLE, Int.reduceAdd, Int.reduceSub, Int.reduceEq, Int.reduceNeg, Int.reduceToNat, Int.reduceGT, Int.reduceGE]; rfl, by simp only [go_sem, Nat.reduceLT, Nat.reduceLeDiff, Nat.reduceEqDiff, Nat.reduceAdd, Nat.reduceSub, Nat.reduceMul, reduceCtorEq, Int.reduceBEq, Int.reduceLT, Int.reduceLE, Int.reduceAdd, Int.reduceSub, Int.reduceEq, Int.reduceNeg, Int.reduceToNat, Int.reduceGT, Int.reduceGE]; rfl, by simp only [go_sem, Nat.reduceLT, Nat.reduceLeDiff, Nat.reduceEqDiff, Nat.reduceAdd, Nat.reduceSub, Nat.reduceMul, reduceCtorEq, Int.reduceBEq, Int.reduceLT, Int.reduceLE, Int.reduceAdd, Int.reduceSub, Int.reduceEq, Int.reduceNeg, Int.reduceToNat, Int.reduceGT, Int.reduceGE]; rfl, by simp only [go_sem, Nat.reduceLT, Nat.reduceLeDiff, Nat.reduceEqDiff, Nat.reduceAdd, Nat.reduceSub, Nat.reduceMul, reduceCtorEq, Int.reduceBEq, Int.reduceLT, Int.reduceLE, Int.reduceAdd, Int.reduceSub, Int.reduceEq, Int.reduceNeg, Int.reduceToNat, Int.reduceGT, Int.reduceGE]; rfl, by simp only [go_sem, Nat.reduceLT, Nat.reduceLeDiff, Nat.reduceEqDiff, Nat.reduceAdd, Nat.reduceSub, Nat.reduceMul, reduceCtorEq, Int.reduceBEq, Int.reduceLT, Int.reduceLE, Int.reduceAdd, Int.reduceSub, Int.reduceEq, Int.reduceNeg, Int.reduceToNat, Int.reduceGT, Int.reduceGE]; rfl, by simp only [go_sem, Nat.reduceLT, Nat.reduceLeDiff, Nat.reduceEqDiff, Nat.reduceAdd, Nat.reduceSub, Nat.reduceMul, reduceCtorEq, Int.reduceBEq, Int.reduceLT, Int.reduceLE, Int.reduceAdd, Int.reduceSub, Int.reduceEq, Int.reduceNeg, Int.reduceToNat, Int.reduceGT, Int.reduceGE]; rfl, by simp only [go_sem, Nat.reduceLT, Nat.reduceLeDiff, Nat.reduceEqDiff, Nat.reduceAdd, Nat.reduceSub, Nat.reduceMul, reduceCtorEq, Int.reduceBEq, Int.reduceLT, Int.reduceLE, Int.reduceAdd, Int.reduceSub, Int.reduceEq, Int.reduceNeg, Int.reduceToNat, Int.reduceGT, Int.reduceGE]; rfl⟩
  clear I e7 e2 c0 hs' hsg g0 g1 g2 g3 g4 g5 g6 g7 bs env h'
  rintro env h' ⟨I, e18, E⟩
  have c0 : ¬ Int.ofNat 64 < 64 := by decide
  obtain ⟨r, hr⟩ : ∃ r, r = rnds xs st 64 := ⟨_, rfl⟩
  rw [← hr] at E
  obtain ⟨bs, hs', hsg⟩ := I.s
  obtain ⟨b1, hb1, hb2, hb3⟩ := I.r
  have g0 : bs.get 0 = some (w32 st.a) := hsg 0
  have g1 : bs.get 1 = some (w32 st.b) := hsg 1
  have g2 : bs.get 2 = some (w32 st.c) := hsg 2
  have g3 : bs.get 3 = some (w32 st.d) := hsg 3
  have g4 : bs.get 4 = some (w32 st.e) := hsg 4
  have g5 : bs.get 5 = some (w32 st.f) := hsg 5
  have g6 : bs.get 6 = some (w32 st.g) := hsg 6
  have g7 : bs.get 7 = some (w32 st.h) := hsg 7
  have e2 : evT env 2 = .ptr s 0 := by rw [hs0]; exact I.e2
  rw [← hs0] at hs'
  simp only [go_sem, Nat.reduceLT, Nat.reduceLeDiff, Nat.reduceEqDiff, Nat.reduceAdd, Nat.reduceSub, Nat.reduceMul, reduceCtorEq, Int.reduceBEq, Int.reduceLT, Int.reduceLE, Int.reduceAdd, Int.reduceSub, Int.reduceEq, Int.reduceNeg, Int.reduceToNat, Int.reduceGT, Int.reduceGE, wadd32, wmul32, wadd64, wmul64, wand32, wor32, wxor32, wand64, wor64, wnot32, wsub32, wsub64, wshr32l, wshl32l, wshr64l, wshl64l, wshr32w, wshl32w, wshr64w, wlt64, wgt64, weq64, wne64, e2, I.e4, e18, c0, E.a, E.b, E.c, E.d, E.e, E.f, E.g, E.h, hs', hb1, hb2, hb3, g0, g1, g2, g3, g4, g5, g6, g7, x0, x1, x2, x3, x4, x5, x6, x7]
  have hfin : pressS xs st = st.add r := by rw [hr]; rfl
  refine store_step (Q := Q) (by rw [hb2]; rfl) rfl fun b' q1 q2 q3 _ => ?_
  rw [hb2] at q3
  simp only [go_sem, Nat.reduceLT, Nat.reduceLeDiff, Nat.reduceEqDiff, Nat.reduceAdd, Nat.reduceSub, Nat.reduceMul, reduceCtorEq, Int.reduceBEq, Int.reduceLT, Int.reduceLE, Int.reduceAdd, Int.reduceSub, Int.reduceEq, Int.reduceNeg, Int.reduceToNat, Int.reduceGT, Int.reduceGE, wadd32, wmul32, wadd64, wmul64, wand32, wor32, wxor32, wand64, wor64, wnot32, wsub32, wsub64, wshr32l, wshl32l, wshr64l, wshl64l, wshr32w, wshl32w, wshr64w, wlt64, wgt64, weq64, wne64, I.e4, q3]
  rw [fin_q _ _ _ (by simp only [go_sem, Nat.reduceLT, Nat.reduceLeDiff, Nat.reduceEqDiff, Nat.reduceAdd, Nat.reduceSub, Nat.reduceMul, reduceCtorEq, Int.reduceBEq, Int.reduceLT, Int.reduceLE, Int.reduceAdd, Int.reduceSub, Int.reduceEq, Int.reduceNeg, Int.reduceToNat, Int.reduceGT, Int.reduceGE, I.low]; omega) rfl, hQ, hfin]
  rfl
end Go.Cl.Sh
