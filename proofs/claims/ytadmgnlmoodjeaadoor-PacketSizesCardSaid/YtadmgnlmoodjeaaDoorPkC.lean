/- The program's functions, run by the rewriting evaluator: what each answers and leaves (PkC). -/
import Derived.Test.YtadmgnlmoodjeaaDoorPkB
set_option linter.all false
open Go Go.Cl Go.Proofs
namespace Go.Cl.Sh.W
open Go Go.Cl
def told (_ : FuncId) : Bool := false
end Go.Cl.Sh.W

namespace Go.Cl.Sh.W
variable {σ : Sums}

def bc (l : List Nat) : List CV := l.map fun b => .int .u8 (Int.ofNat b)
theorem bc_len (l : List Nat) : (bc l).length = l.length := by simp [bc]
theorem bc_app (a b : List Nat) : bc (a ++ b) = bc a ++ bc b := by simp [bc]
theorem bc_one (l : List Nat) : (bc l).all CV.one = true := List.all_eq_true.2 fun x hx => by
  obtain ⟨b, _, rfl⟩ := List.mem_map.1 hx; rfl

structure WrAt (h : H) (w lid : Nat) (failed : Bool) (bs : List Nat) : Prop where
  lt : w < h.nx
  ne : bs.length ≠ 0 → w ≠ lid
  blk : ∃ b v, h.blk w = some b ∧ b.ro = false ∧ b.n = 2 ∧ b.get 0 = some v ∧ b.get 1 = some (.bool failed) ∧ Lst h 1 v lid bs.length (bc bs)

structure WFr (h h' : H) (w lid : Nat) : Prop where
  nx : h.nx ≤ h'.nx
  gn : h'.gn = h.gn
  old : ∀ id, id < h.nx → id ≠ w → id ≠ lid → h'.t.get id = h.t.get id
theorem WrAt.ext' {h h' : H} {w lid : Nat} {fl : Bool} {bs : List Nat} (A : WrAt h w lid fl bs) (e : Ext h h') : WrAt h' w lid fl bs := by
  obtain ⟨b, v, hb, hro, hbn, h0, h1, hl⟩ := A.blk
  exact ⟨Nat.lt_of_lt_of_le A.lt e.nx, A.ne, b, v, (e.blk A.lt).trans hb, hro, hbn, h0, h1, hl.ext e⟩
theorem WrAt.unlo {h : H} {w lid : Nat} {fl : Bool} {bs : List Nat} (A : WrAt h.lo w lid fl bs) : WrAt h w lid fl bs := by
  obtain ⟨b, v, hb, hro, hbn, h0, h1, hl⟩ := A.blk
  exact ⟨A.lt, A.ne, b, v, hb, hro, hbn, h0, h1, hl.mono (Nat.le_refl _) fun _ => rfl⟩
theorem WFr.refl (h : H) (w lid : Nat) : WFr h h w lid := ⟨Nat.le_refl _, rfl, fun _ _ _ _ => rfl⟩

theorem wsize_run (hσ : ∀ f a h, told f = false → σ f a h = none) (h : H) (n : Int) : (lim Tryd.prog σ).call 65 [.int .i64 n] h = some (.bool (decide (n = 1 ∨ n = 2 ∨ n = 4 ∨ n = 8)), none) := by
  rw [call_eq (hσ _ _ _ (by decide)) fn_65 rfl rfl, Tryd.ntmps65, Tryd.results65]
  by_cases h1 : n = 1
  · subst h1; simp only [go_sem, Nat.reduceLT, Nat.reduceLeDiff, Nat.reduceEqDiff, Nat.reduceAdd, Nat.reduceSub, Nat.reduceMul, reduceCtorEq, Int.reduceBEq, Int.reduceLT, Int.reduceLE, Int.reduceAdd, Int.reduceSub, Int.reduceEq, Int.reduceNeg, Int.reduceToNat, Int.reduceGT, Int.reduceGE, true_or]; rw [fin_q _ _ _ rfl rfl]
  by_cases h2 : n = 2
  · subst h2; simp only [go_sem, Nat.reduceLT, Nat.reduceLeDiff, Nat.reduceEqDiff, Nat.reduceAdd, Nat.reduceSub, Nat.reduceMul, reduceCtorEq, Int.reduceBEq, Int.reduceLT, Int.reduceLE, Int.reduceAdd, Int.reduceSub, Int.reduceEq, Int.reduceNeg, Int.reduceToNat, Int.reduceGT, Int.reduceGE, true_or, or_true]; rw [fin_q _ _ _ rfl rfl]
  by_cases h4 : n = 4
  · subst h4; simp only [go_sem, Nat.reduceLT, Nat.reduceLeDiff, Nat.reduceEqDiff, Nat.reduceAdd, Nat.reduceSub, Nat.reduceMul, reduceCtorEq, Int.reduceBEq, Int.reduceLT, Int.reduceLE, Int.reduceAdd, Int.reduceSub, Int.reduceEq, Int.reduceNeg, Int.reduceToNat, Int.reduceGT, Int.reduceGE, true_or, or_true]; rw [fin_q _ _ _ rfl rfl]
  by_cases h8 : n = 8
  · subst h8; simp only [go_sem, Nat.reduceLT, Nat.reduceLeDiff, Nat.reduceEqDiff, Nat.reduceAdd, Nat.reduceSub, Nat.reduceMul, reduceCtorEq, Int.reduceBEq, Int.reduceLT, Int.reduceLE, Int.reduceAdd, Int.reduceSub, Int.reduceEq, Int.reduceNeg, Int.reduceToNat, Int.reduceGT, Int.reduceGE, true_or, or_true]; rw [fin_q _ _ _ rfl rfl]
  simp only [go_sem, Nat.reduceLT, Nat.reduceLeDiff, Nat.reduceEqDiff, Nat.reduceAdd, Nat.reduceSub, Nat.reduceMul, reduceCtorEq, Int.reduceBEq, Int.reduceLT, Int.reduceLE, Int.reduceAdd, Int.reduceSub, Int.reduceEq, Int.reduceNeg, Int.reduceToNat, Int.reduceGT, Int.reduceGE, h1, h2, h4, h8, or_self]
  rw [fin_q _ _ _ rfl rfl]

/-- a digit, from the highest one -/
def dig (n k j : Nat) : Nat := n / 2 ^ (8 * (k - 1 - j)) % 256
def be (n k : Nat) : List Nat := (List.range k).map (dig n k)

/-! ### slices of bytes, whosesoever -/
def BSl (h : H) (v : CV) (cs : List CV) : Prop := (cs = [] ∧ v = .nils) ∨ (cs = [] ∧ ∃ id a b c, v = .sl0 id a b c) ∨ ∃ id off c b, v = .sl id off cs.length c ∧ id < h.nx ∧ h.blk id = some b ∧ b.loadN off cs.length = some cs
theorem BSl.ext {h h' : H} {v : CV} {cs : List CV} (B : BSl h v cs) (e : Ext h h') : BSl h' v cs := by
  rcases B with h1 | h1 | ⟨id, off, c, b, h1, h2, h3, h4⟩
  · exact .inl h1
  · exact .inr (.inl h1)
  · exact .inr (.inr ⟨id, off, c, b, h1, Nat.lt_of_lt_of_le h2 e.nx, (e.blk h2).trans h3, h4⟩)
theorem BSl.len {h : H} {v : CV} {cs : List CV} (B : BSl h v cs) (h' : H) : builtinT Tryd.prog h' .len [24] [v] = some (.val (.int .i64 (Int.ofNat cs.length))) := by
  rcases B with ⟨rfl, rfl⟩ | ⟨rfl, id, x1, x2, x3, rfl⟩ | ⟨id, off, c, b, rfl, _⟩ <;> simp [builtinT, Tryd.underlying24, lenC]
theorem BSl.one {h : H} {v : CV} {cs : List CV} (B : BSl h v cs) : v.one = true ∧ v.cells = [v] := by
  rcases B with ⟨rfl, rfl⟩ | ⟨rfl, id, x1, x2, x3, rfl⟩ | ⟨id, off, c, b, rfl, _⟩ <;> exact ⟨rfl, rfl⟩
theorem lst_bsl {h : H} {v : CV} {id n : Nat} {cs : List CV} (l : Lst h 1 v id n cs) : BSl h v cs := by
  have hl := l.len
  rcases l.val with ⟨h0, rfl⟩ | ⟨h0, rfl, h1, b, h2, h3, h4, h5⟩
  · subst h0; left; exact ⟨List.length_eq_zero_iff.1 (by simpa using hl), rfl⟩
  · right; right; refine ⟨id, 0, _, b, by rw [hl, Nat.mul_one], h1, h2, loadN_of _ _ _ rfl fun i v hv => by rw [Nat.zero_add, h5, hv]⟩
theorem app_24_sl0 (h : H) (s : CV) (a b c d : Nat) : builtinT Tryd.prog h .append [24, 24] [s, .sl0 a b c d] = uv (appS h 1 1 1 s 0 (some [])) := by kernel_rfl
theorem BSl.app {h : H} {v : CV} {cs : List CV} (B : BSl h v cs) (s : CV) : builtinT Tryd.prog h .append [24, 24] [s, v] = uv (appS h 1 1 1 s cs.length (some cs)) := by
  rcases B with ⟨rfl, rfl⟩ | ⟨rfl, id, x1, x2, x3, rfl⟩ | ⟨id, off, c, b, rfl, h1, h2, h3⟩
  · rw [app_24_n, ap_24_n]; rfl
  · exact app_24_sl0 _ _ _ _ _ _
  · rw [app_24, ap_24, firstC_sl, h2, bind_some', Nat.mul_one, h3]
theorem bytesOf_bc : ∀ bs : List Nat, (∀ b ∈ bs, b < 256) → bytesOf (bc bs) = some bs
  | [], _ => rfl
  | b :: bs, h => by
    have := bytesOf_bc bs fun x hx => h x (List.mem_cons_of_mem _ hx)
    rw [bc] at this
    simp only [bc, bytesOf, List.map_cons, Int.ofNat_eq_natCast, Int.toNat_natCast] at this ⊢
    rw [this]; simp [blt_eq', h b List.mem_cons_self]
theorem BSl.str {h : H} {v : CV} {bs : List Nat} (B : BSl h v (bc bs)) (hb : ∀ b ∈ bs, b < 256) : convT Tryd.prog h 24 9 v = some (.val (.str bs)) := by
  rcases B with ⟨e, rfl⟩ | ⟨e, id, x1, x2, x3, rfl⟩ | ⟨id, off, c, b, rfl, h1, h2, h3⟩
  · have : bs = [] := by simpa [bc] using e
    subst this; rw [cv_24_9_n]
  · have : bs = [] := by simpa [bc] using e
    subst this; rw [cv_24_9_z]
  · rw [cv_24_9, h2]
    show (b.loadN _ _).bind _ = _
    rw [h3]
    simp [bytesOf_bc _ hb]

/-- what a growing leaves -/
structure AppFr (h h' : H) (lid n lid' m : Nat) : Prop where
  nx : h.nx ≤ h'.nx
  gn : h'.gn = h.gn
  old : ∀ k, k < h.nx → (n ≠ 0 → k ≠ lid) → h'.t.get k = h.t.get k
  id : (lid' = lid ∧ m = 0) ∨ h.nx ≤ lid'

theorem app_any {h : H} {v : CV} {id n : Nat} {cs : List CV} (l : Lst h 1 v id n cs) {new : List CV} (ho : new.all CV.one = true) (hr : n + new.length ≤ 70368744177664) :
    ∃ v' id' h', appS h 1 1 1 v new.length (some new) = some (v', h') ∧ Lst h' 1 v' id' (n + new.length) (cs ++ new) ∧ AppFr h h' id n id' new.length ∧ h'.low ≤ h.low := by
  by_cases h0 : new = []
  · subst h0
    have hg : (Nat.blt 0 1 && Nat.ble ((n + 0) * 1) 70368744177664 && Nat.ble (n + 0) 70368744177664 && Nat.beq 1 1 && Nat.beq ([] : List CV).length (0 * 1) && ([] : List CV).all CV.one) = true := by
      simp only [blt_eq', ble_eq', beq_eq', Bool.and_eq_true, decide_eq_true_eq]
      simp at hr
      simp; omega
    rcases l.val with ⟨rfl, rfl⟩ | ⟨hn, rfl, hid, b, hb, hro, hbn, hbg⟩
    · refine ⟨.nils, id, h, ?_, by simpa using l, ⟨Nat.le_refl _, rfl, fun _ _ _ => rfl, .inl ⟨rfl, rfl⟩⟩, Nat.le_refl _⟩
      unfold appS
      rw [lenC_nils, bind_some', bind_some']
      rfl
    · refine ⟨.sl id 0 n (.opn 1), id, h.put id (.cells b), ?_, ?_, ⟨Nat.le_refl _, rfl, fun k _ hk => put_get_ne _ _ _ _ (hk (by omega)), .inl ⟨rfl, rfl⟩⟩, Nat.min_le_left _ _⟩
      · unfold appS
        rw [lenC_sl, bind_some', bind_some']
        show cond (Nat.blt 0 1 && Nat.ble ((n + 0) * 1) 70368744177664 && Nat.ble (n + 0) 70368744177664 && Nat.beq 1 1 && Nat.beq ([] : List CV).length (0 * 1) && ([] : List CV).all CV.one) _ _ = _
        rw [hg, cond_true]
        dsimp only [List.length_nil]
        rw [beq_eq', decide_eq_true rfl, cond_true, hb, bind_some', hro, cond_false, ble_eq', decide_eq_true (by omega), cond_true, storeN_nil]
        rfl
      · simp only [List.length_nil, Nat.add_zero, List.append_nil]
        exact ⟨l.len, .inr ⟨hn, rfl, hid, b, put_blk_same _ _ _, hro, hbn, hbg⟩⟩
  · have hm : 0 < new.length := List.length_pos_iff.2 h0
    obtain ⟨h', e, l', h1, h2, h3, h4, _⟩ := app_Lst (by_ := 1) (zl := 1) l hm (new := new) (by simp) ho rfl (by decide) (by omega) hr
    exact ⟨_, _, h', e, l', ⟨by omega, h2, h3, .inr (Nat.le_refl _)⟩, h4⟩

theorem appb_step {β : Type} {Q : Option β → Prop} {X : H} {s v : CV} {lid n : Nat} {old cs : List CV} {K : Out → Option β} (l : Lst X 1 s lid n old) (B : BSl X v cs) (ho : cs.all CV.one = true) (hr : n + cs.length ≤ 70368744177664)
    (k : ∀ s' lid' h', Lst h' 1 s' lid' (n + cs.length) (old ++ cs) → AppFr X h' lid n lid' cs.length → h'.low ≤ X.low → Q (K (.upd s' h'))) : Q (@thn _ β (builtinT Tryd.prog X .append [24, 24] [s, v]) ⟨K⟩) := by
  obtain ⟨v', id', h', e, l', f, hlow⟩ := app_any l ho hr
  rw [B.app, e]
  exact k _ _ _ l' f hlow

theorem lst_beq {h : H} {size : Nat} {v : CV} {id n : Nat} {cs : List CV} (l : Lst h size v id n cs) : beqC v v = true := by
  rcases l.val with ⟨_, rfl⟩ | ⟨_, rfl, _⟩
  · rfl
  · exact beqC_sl _ _ _ _
/-! ### the writer's methods -/
theorem WFr.up {a b : H} {w l : Nat} (x : WFr a b w l) (m : Nat) : WFr a (b.up m) w l := ⟨x.nx, x.gn, x.old⟩
theorem WrAt.up {h : H} {w lid : Nat} {fl : Bool} {bs : List Nat} (A : WrAt h w lid fl bs) (m : Nat) : WrAt (h.up m) w lid fl bs := A.ext' (Ext.up h m)
theorem WFr.trans {a b c : H} {w l l' : Nat} (x : WFr a b w l) (y : WFr b c w l') (hl : l' = l ∨ a.nx ≤ l') : WFr a c w l :=
  ⟨Nat.le_trans x.nx y.nx, y.gn.trans x.gn, fun k h1 h2 h3 => by
    rw [y.old k (Nat.lt_of_lt_of_le h1 x.nx) h2 (by omega)]; exact x.old k h1 h2 h3⟩

/-- a writer's state behind so much -/
def wput (s : Bool × List Nat) (p : Option (List Nat)) : Bool × List Nat := if s.1 then s else match p with | none => (true, s.2) | some l => (false, s.2 ++ l)

/-- what is handed on was changed below -/
def Lw (h : H) (w : Nat) (x : Option H) : Prop := ∀ h1, x = some h1 → h1.low ≤ w ∧ h1.low ≤ h.low
theorem Lw.none (h : H) (w : Nat) : Lw h w none := fun _ e => by cases e
theorem Lw.fin (h s : H) {w : Nat} (e : s.low ≤ w) : Lw h w (some (s.up (min h.low s.low))) := fun h1 q => by
  cases q; rw [up_low]; omega
def WOk (h : H) (w lid : Nat) (s : Bool × List Nat) (r : Option (CV × Option H)) : Prop :=
  ∃ x lid', r = some (.ptr w 0, x) ∧ WrAt (x.getD h) w lid' s.1 s.2 ∧ WFr h (x.getD h) w lid ∧ (lid' = lid ∨ h.nx ≤ lid') ∧ Lw h w x ∧ (x = none → s.1 = true)

def sizeOk (n : Int) : Bool := decide (n = 1 ∨ n = 2 ∨ n = 4 ∨ n = 8)
def numB (n : Nat) (k : Int) : Option (List Nat) := if sizeOk k then (if n / 256 ^ k.toNat = 0 then some (be n k.toNat) else none) else none

set_option maxRecDepth 100000 in
theorem number_run (hσ : ∀ f a h, told f = false → σ f a h = none) {h : H} {w lid : Nat} {fl : Bool} {bs : List Nat} (A : WrAt h w lid fl bs) (n : Nat) (hn : n < 2 ^ 64) (k : Int) (room : bs.length ≤ 1000000) :
    WOk h w lid (wput (fl, bs) (numB n k)) ((lim Tryd.prog σ).call 36 [.ptr w 0, .int .u64 (Int.ofNat n), .int .i64 k] h) := by
  obtain ⟨b, v, hb, hro, hbn, h0, h1, hl⟩ := A.blk
  have hw := wsize_run hσ h.lo k
  rw [call_eq (hσ _ _ _ (by decide)) fn_36 rfl rfl, Tryd.ntmps36, Tryd.results36]
  have hlt := A.lt
  cases fl
  · by_cases hs : k = 1 ∨ k = 2 ∨ k = 4 ∨ k = 8
    · rw [decide_eq_true hs] at hw
      obtain ⟨K, rfl, hK, hK8⟩ : ∃ K : Nat, k = Int.ofNat K ∧ 1 ≤ K ∧ K ≤ 8 := by
        rcases hs with rfl | rfl | rfl | rfl
        · exact ⟨1, rfl, by decide, by decide⟩
        · exact ⟨2, rfl, by decide, by decide⟩
        · exact ⟨4, rfl, by decide, by decide⟩
        · exact ⟨8, rfl, by decide, by decide⟩
      have e1 : IntKind.wrap .i64 (8 * Int.ofNat K) = Int.ofNat (8 * K) := by
        rw [wrap_i64 (by simp; omega) (by simp; omega)]; simp
      have e2 : IntKind.wrap .i64 (Int.ofNat K - 1) = Int.ofNat K - 1 := by
        rw [wrap_i64 (by simp; omega) (by simp; omega)]
      have e3 : 2 ^ (8 * K) = 256 ^ K := by rw [Nat.pow_mul]
      have hmin : min (8 * K) 64 = 8 * K := by omega
      have hn0 : numB n (Int.ofNat K) = if n / 256 ^ K = 0 then some (be n K) else none := by
        unfold numB
        rw [show sizeOk (Int.ofNat K) = true from decide_eq_true hs]
        rfl
      by_cases hz : n / 256 ^ K = 0
      · have hput : wput (false, bs) (numB n (Int.ofNat K)) = (false, bs ++ be n K) := by rw [hn0, if_pos hz]; rfl
        rw [hput]
        have hfit : Int.ofNat K < 8 ∨ ¬ Int.ofNat K < 8 := Classical.em _
        have hz' : Int.ofNat (n / 2 ^ (8 * K)) = 0 := by rw [e3, hz]; rfl
        rcases hfit with h8 | h8
        case' inl => simp only [go_sem, Nat.reduceLT, Nat.reduceLeDiff, Nat.reduceEqDiff, Nat.reduceAdd, Nat.reduceSub, Nat.reduceMul, reduceCtorEq, Int.reduceBEq, Int.reduceLT, Int.reduceLE, Int.reduceAdd, Int.reduceSub, Int.reduceEq, Int.reduceNeg, Int.reduceToNat, Int.reduceGT, Int.reduceGE, hw, hb, h0, h1, hbn, hro, bin_shr, fdiv_nat, e1, e2, isW_und, h8, IntKind.bits, hmin, hz']
        case' inr => simp only [go_sem, Nat.reduceLT, Nat.reduceLeDiff, Nat.reduceEqDiff, Nat.reduceAdd, Nat.reduceSub, Nat.reduceMul, reduceCtorEq, Int.reduceBEq, Int.reduceLT, Int.reduceLE, Int.reduceAdd, Int.reduceSub, Int.reduceEq, Int.reduceNeg, Int.reduceToNat, Int.reduceGT, Int.reduceGE, hw, hb, h0, h1, hbn, hro, bin_shr, fdiv_nat, e1, e2, isW_und, h8]
        all_goals
          refine loop_ind (Q := WOk h w lid (false, bs ++ be n K)) (fun i env h' => evT env 0 = .ptr w 0 ∧ evT env 1 = .int .u64 (Int.ofNat n) ∧ evT env 7 = .int .i64 (Int.ofNat K - 1 - Int.ofNat i) ∧ ∃ lid', WrAt h' w lid' false (bs ++ (be n K).take i) ∧ WFr h h' w lid ∧ (lid' = lid ∨ h.nx ≤ lid') ∧ (0 < i → h'.low ≤ w)) K 0 ?_ (Nat.zero_le _) ?_ ?_
          · refine ⟨by simp only [go_sem, Nat.reduceLT, Nat.reduceLeDiff, Nat.reduceEqDiff, Nat.reduceAdd, Nat.reduceSub, Nat.reduceMul, reduceCtorEq, Int.reduceBEq, Int.reduceLT, Int.reduceLE, Int.reduceAdd, Int.reduceSub, Int.reduceEq, Int.reduceNeg, Int.reduceToNat, Int.reduceGT, Int.reduceGE], by simp only [go_sem, Nat.reduceLT, Nat.reduceLeDiff, Nat.reduceEqDiff, Nat.reduceAdd, Nat.reduceSub, Nat.reduceMul, reduceCtorEq, Int.reduceBEq, Int.reduceLT, Int.reduceLE, Int.reduceAdd, Int.reduceSub, Int.reduceEq, Int.reduceNeg, Int.reduceToNat, Int.reduceGT, Int.reduceGE], ?_, lid, ?_, ⟨Nat.le_refl _, rfl, fun _ _ _ _ => rfl⟩, .inl rfl, fun h => absurd h (by decide)⟩
            · simp only [go_sem, Nat.reduceLT, Nat.reduceLeDiff, Nat.reduceEqDiff, Nat.reduceAdd, Nat.reduceSub, Nat.reduceMul, reduceCtorEq, Int.reduceBEq, Int.reduceLT, Int.reduceLE, Int.reduceAdd, Int.reduceSub, Int.reduceEq, Int.reduceNeg, Int.reduceToNat, Int.reduceGT, Int.reduceGE]; congr 1; simp
            · simp only [List.take_zero, List.append_nil]; exact A.ext' (Ext.lo h)
          · rintro i env h' ⟨q0, q1, q7, lid', A', F', hl', _⟩ hi next
            obtain ⟨b', v', hb', hro', hbn', h0', h1', hls⟩ := A'.blk
            obtain ⟨j, hj⟩ : ∃ j, K - 1 - i = j := ⟨_, rfl⟩
            have q7' : evT env 7 = .int .i64 (Int.ofNat j) := by rw [q7]; congr 1; simp; omega
            have c1 : Int.ofNat j ≥ 0 := Int.natCast_nonneg _
            have c2 : IntKind.wrap .i64 (8 * Int.ofNat j) = Int.ofNat (8 * j) := by
              rw [wrap_i64 (by simp; omega) (by simp; omega)]; simp
            simp only [go_sem, Nat.reduceLT, Nat.reduceLeDiff, Nat.reduceEqDiff, Nat.reduceAdd, Nat.reduceSub, Nat.reduceMul, reduceCtorEq, Int.reduceBEq, Int.reduceLT, Int.reduceLE, Int.reduceAdd, Int.reduceSub, Int.reduceEq, Int.reduceNeg, Int.reduceToNat, Int.reduceGT, Int.reduceGE, q0, q1, q7', c1, c2, hb', h0', h1', hro', hbn', bin_shr, fdiv_nat, wrap_u8]
            rw [cnd_closed]
            rotate_left
            · kernel_rfl
            simp only [go_sem, Nat.reduceLT, Nat.reduceLeDiff, Nat.reduceEqDiff, Nat.reduceAdd, Nat.reduceSub, Nat.reduceMul, reduceCtorEq, Int.reduceBEq, Int.reduceLT, Int.reduceLE, Int.reduceAdd, Int.reduceSub, Int.reduceEq, Int.reduceNeg, Int.reduceToNat, Int.reduceGT, Int.reduceGE, q0, q1, q7', c1, c2, hb', h0', h1', hro', hbn', bin_shr, fdiv_nat, wrap_u8]
            have hlen : (bs ++ (be n K).take i).length ≤ 1000008 := by simp [be]; omega
            have hlt' := A'.lt
            have hnw := A'.ne
            refine app_step (Q := WOk h w lid (false, bs ++ be n K)) (m := 1) (by_ := 1) (hls.ext (Ext.alloc _ _)) (by decide) rfl rfl rfl (by decide) (by omega) (by omega) ?_
            intro h2 l2 hnx2 hgn2 hold2 hlow2 _
            have hb2 := blk_eq (hold2 w (by simp only [go_sem, Nat.reduceLT, Nat.reduceLeDiff, Nat.reduceEqDiff, Nat.reduceAdd, Nat.reduceSub, Nat.reduceMul, reduceCtorEq, Int.reduceBEq, Int.reduceLT, Int.reduceLE, Int.reduceAdd, Int.reduceSub, Int.reduceEq, Int.reduceNeg, Int.reduceToNat, Int.reduceGT, Int.reduceGE]; omega) fun q e => hnw (by omega) e)
            have hne1 : w ≠ h'.nx := by omega
            simp only [go_sem, Nat.reduceLT, Nat.reduceLeDiff, Nat.reduceEqDiff, Nat.reduceAdd, Nat.reduceSub, Nat.reduceMul, reduceCtorEq, Int.reduceBEq, Int.reduceLT, Int.reduceLE, Int.reduceAdd, Int.reduceSub, Int.reduceEq, Int.reduceNeg, Int.reduceToNat, Int.reduceGT, Int.reduceGE, hne1] at l2 hnx2 hgn2 hold2 hlow2 hb2
            rw [hb'] at hb2
            have c3 : IntKind.wrap .i64 (Int.ofNat j - 1) = Int.ofNat K - 1 - Int.ofNat (i + 1) := by
              rw [wrap_i64 (by simp; omega) (by simp; omega)]; simp; omega
            simp only [go_sem, Nat.reduceLT, Nat.reduceLeDiff, Nat.reduceEqDiff, Nat.reduceAdd, Nat.reduceSub, Nat.reduceMul, reduceCtorEq, Int.reduceBEq, Int.reduceLT, Int.reduceLE, Int.reduceAdd, Int.reduceSub, Int.reduceEq, Int.reduceNeg, Int.reduceToNat, Int.reduceGT, Int.reduceGE, q0, q1, q7', c1, c2, c3, hb', hb2, h0', h1', hro', hbn', l2.one, hne1, bin_shr, fdiv_nat, wrap_u8, lst_beq hls]
            rw [cnd_closed]
            rotate_left
            · kernel_rfl
            simp only [go_sem, Nat.reduceLT, Nat.reduceLeDiff, Nat.reduceEqDiff, Nat.reduceAdd, Nat.reduceSub, Nat.reduceMul, reduceCtorEq, Int.reduceBEq, Int.reduceLT, Int.reduceLE, Int.reduceAdd, Int.reduceSub, Int.reduceEq, Int.reduceNeg, Int.reduceToNat, Int.reduceGT, Int.reduceGE, q0, q1, q7', c1, c2, c3, hb', hb2, h0', h1', hro', hbn', l2.one, hne1, bin_shr, fdiv_nat, wrap_u8, lst_beq hls]
            rw [cond_al (i := 4) (d := [10, 11, 14])]
            rotate_left
            · kernel_rfl
            simp only [go_sem, Nat.reduceLT, Nat.reduceLeDiff, Nat.reduceEqDiff, Nat.reduceAdd, Nat.reduceSub, Nat.reduceMul, reduceCtorEq, Int.reduceBEq, Int.reduceLT, Int.reduceLE, Int.reduceAdd, Int.reduceSub, Int.reduceEq, Int.reduceNeg, Int.reduceToNat, Int.reduceGT, Int.reduceGE, q0, q1, q7', c1, c2, c3, hb', hb2, h0', h1', hro', hbn', l2.one, hne1, bin_shr, fdiv_nat, wrap_u8, lst_beq hls]
            refine next _ _ ⟨by simp only [go_sem, Nat.reduceLT, Nat.reduceLeDiff, Nat.reduceEqDiff, Nat.reduceAdd, Nat.reduceSub, Nat.reduceMul, reduceCtorEq, Int.reduceBEq, Int.reduceLT, Int.reduceLE, Int.reduceAdd, Int.reduceSub, Int.reduceEq, Int.reduceNeg, Int.reduceToNat, Int.reduceGT, Int.reduceGE, q0], by simp only [go_sem, Nat.reduceLT, Nat.reduceLeDiff, Nat.reduceEqDiff, Nat.reduceAdd, Nat.reduceSub, Nat.reduceMul, reduceCtorEq, Int.reduceBEq, Int.reduceLT, Int.reduceLE, Int.reduceAdd, Int.reduceSub, Int.reduceEq, Int.reduceNeg, Int.reduceToNat, Int.reduceGT, Int.reduceGE, q1], by simp only [go_sem, Nat.reduceLT, Nat.reduceLeDiff, Nat.reduceEqDiff, Nat.reduceAdd, Nat.reduceSub, Nat.reduceMul, reduceCtorEq, Int.reduceBEq, Int.reduceLT, Int.reduceLE, Int.reduceAdd, Int.reduceSub, Int.reduceEq, Int.reduceNeg, Int.reduceToNat, Int.reduceGT, Int.reduceGE], h'.nx + 1, ?_, ?_, .inr (by have := F'.nx; omega), fun _ => ?_⟩
            · simp only [go_sem, Nat.reduceLT, Nat.reduceLeDiff, Nat.reduceEqDiff, Nat.reduceAdd, Nat.reduceSub, Nat.reduceMul, reduceCtorEq, Int.reduceBEq, Int.reduceLT, Int.reduceLE, Int.reduceAdd, Int.reduceSub, Int.reduceEq, Int.reduceNeg, Int.reduceToNat, Int.reduceGT, Int.reduceGE]
              have hdig : n / 2 ^ min (8 * j) 64 % 256 = dig n K i := by
                unfold dig; rw [hj, show min (8 * j) 64 = 8 * j by omega]
              have htk : bs ++ (be n K).take (i + 1) = (bs ++ (be n K).take i) ++ [dig n K i] := by
                rw [List.append_assoc]; congr 1
                rw [List.take_add_one]
                simp [be, hi]
              rw [hdig] at l2
              rw [htk]
              refine ⟨by first | (simp only [go_sem, Nat.reduceLT, Nat.reduceLeDiff, Nat.reduceEqDiff, Nat.reduceAdd, Nat.reduceSub, Nat.reduceMul, reduceCtorEq, Int.reduceBEq, Int.reduceLT, Int.reduceLE, Int.reduceAdd, Int.reduceSub, Int.reduceEq, Int.reduceNeg, Int.reduceToNat, Int.reduceGT, Int.reduceGE]; omega) | simp only [go_sem, Nat.reduceLT, Nat.reduceLeDiff, Nat.reduceEqDiff, Nat.reduceAdd, Nat.reduceSub, Nat.reduceMul, reduceCtorEq, Int.reduceBEq, Int.reduceLT, Int.reduceLE, Int.reduceAdd, Int.reduceSub, Int.reduceEq, Int.reduceNeg, Int.reduceToNat, Int.reduceGT, Int.reduceGE], fun _ => (by omega : w ≠ h'.nx + 1), _, _, put_blk_same _ _ _, by simp only [go_sem, Nat.reduceLT, Nat.reduceLeDiff, Nat.reduceEqDiff, Nat.reduceAdd, Nat.reduceSub, Nat.reduceMul, reduceCtorEq, Int.reduceBEq, Int.reduceLT, Int.reduceLE, Int.reduceAdd, Int.reduceSub, Int.reduceEq, Int.reduceNeg, Int.reduceToNat, Int.reduceGT, Int.reduceGE, hro'], by simp only [go_sem, Nat.reduceLT, Nat.reduceLeDiff, Nat.reduceEqDiff, Nat.reduceAdd, Nat.reduceSub, Nat.reduceMul, reduceCtorEq, Int.reduceBEq, Int.reduceLT, Int.reduceLE, Int.reduceAdd, Int.reduceSub, Int.reduceEq, Int.reduceNeg, Int.reduceToNat, Int.reduceGT, Int.reduceGE, hbn'], by simp only [go_sem, Nat.reduceLT, Nat.reduceLeDiff, Nat.reduceEqDiff, Nat.reduceAdd, Nat.reduceSub, Nat.reduceMul, reduceCtorEq, Int.reduceBEq, Int.reduceLT, Int.reduceLE, Int.reduceAdd, Int.reduceSub, Int.reduceEq, Int.reduceNeg, Int.reduceToNat, Int.reduceGT, Int.reduceGE, hbn']; rfl, by simp only [go_sem, Nat.reduceLT, Nat.reduceLeDiff, Nat.reduceEqDiff, Nat.reduceAdd, Nat.reduceSub, Nat.reduceMul, reduceCtorEq, Int.reduceBEq, Int.reduceLT, Int.reduceLE, Int.reduceAdd, Int.reduceSub, Int.reduceEq, Int.reduceNeg, Int.reduceToNat, Int.reduceGT, Int.reduceGE, h1'], ?_⟩
              rw [show (bs ++ List.take i (be n K) ++ [dig n K i]).length = (bs ++ List.take i (be n K)).length + 1 by rw [List.length_append (bs := [dig n K i])]; rfl, bc_app (bs ++ List.take i (be n K))]
              have hne2 : h'.nx + 1 ≠ w := by omega
              exact Lst.mono (h := h2) l2 (by first | (simp only [go_sem, Nat.reduceLT, Nat.reduceLeDiff, Nat.reduceEqDiff, Nat.reduceAdd, Nat.reduceSub, Nat.reduceMul, reduceCtorEq, Int.reduceBEq, Int.reduceLT, Int.reduceLE, Int.reduceAdd, Int.reduceSub, Int.reduceEq, Int.reduceNeg, Int.reduceToNat, Int.reduceGT, Int.reduceGE]; omega) | simp only [go_sem, Nat.reduceLT, Nat.reduceLeDiff, Nat.reduceEqDiff, Nat.reduceAdd, Nat.reduceSub, Nat.reduceMul, reduceCtorEq, Int.reduceBEq, Int.reduceLT, Int.reduceLE, Int.reduceAdd, Int.reduceSub, Int.reduceEq, Int.reduceNeg, Int.reduceToNat, Int.reduceGT, Int.reduceGE]) fun _ => by simp only [go_sem, Nat.reduceLT, Nat.reduceLeDiff, Nat.reduceEqDiff, Nat.reduceAdd, Nat.reduceSub, Nat.reduceMul, reduceCtorEq, Int.reduceBEq, Int.reduceLT, Int.reduceLE, Int.reduceAdd, Int.reduceSub, Int.reduceEq, Int.reduceNeg, Int.reduceToNat, Int.reduceGT, Int.reduceGE, hne2]
            · simp only [go_sem, Nat.reduceLT, Nat.reduceLeDiff, Nat.reduceEqDiff, Nat.reduceAdd, Nat.reduceSub, Nat.reduceMul, reduceCtorEq, Int.reduceBEq, Int.reduceLT, Int.reduceLE, Int.reduceAdd, Int.reduceSub, Int.reduceEq, Int.reduceNeg, Int.reduceToNat, Int.reduceGT, Int.reduceGE]
              refine ⟨by have := F'.nx; simp only [go_sem, Nat.reduceLT, Nat.reduceLeDiff, Nat.reduceEqDiff, Nat.reduceAdd, Nat.reduceSub, Nat.reduceMul, reduceCtorEq, Int.reduceBEq, Int.reduceLT, Int.reduceLE, Int.reduceAdd, Int.reduceSub, Int.reduceEq, Int.reduceNeg, Int.reduceToNat, Int.reduceGT, Int.reduceGE]; omega, by simp only [go_sem, Nat.reduceLT, Nat.reduceLeDiff, Nat.reduceEqDiff, Nat.reduceAdd, Nat.reduceSub, Nat.reduceMul, reduceCtorEq, Int.reduceBEq, Int.reduceLT, Int.reduceLE, Int.reduceAdd, Int.reduceSub, Int.reduceEq, Int.reduceNeg, Int.reduceToNat, Int.reduceGT, Int.reduceGE]; rw [hgn2]; exact F'.gn, fun k k1 k2 k3 => ?_⟩
              have := F'.nx
              rw [put_get_ne _ _ _ _ k2, hold2 k (by omega) (by omega), alloc_get_ne _ _ _ (by omega)]
              exact F'.old k k1 k2 k3
            · simp only [go_sem, Nat.reduceLT, Nat.reduceLeDiff, Nat.reduceEqDiff, Nat.reduceAdd, Nat.reduceSub, Nat.reduceMul, reduceCtorEq, Int.reduceBEq, Int.reduceLT, Int.reduceLE, Int.reduceAdd, Int.reduceSub, Int.reduceEq, Int.reduceNeg, Int.reduceToNat, Int.reduceGT, Int.reduceGE]
              omega
          · rintro env h' ⟨q0, q1, q7, lid', A', F', hl', hlow⟩
            have q7' : evT env 7 = .int .i64 (-1) := by rw [q7]; congr 1; simp; omega
            have htk : (be n K).take K = be n K := List.take_of_length_le (by simp [be])
            simp only [go_sem, Nat.reduceLT, Nat.reduceLeDiff, Nat.reduceEqDiff, Nat.reduceAdd, Nat.reduceSub, Nat.reduceMul, reduceCtorEq, Int.reduceBEq, Int.reduceLT, Int.reduceLE, Int.reduceAdd, Int.reduceSub, Int.reduceEq, Int.reduceNeg, Int.reduceToNat, Int.reduceGT, Int.reduceGE, q0, q1, q7']
            rw [fin_l _ _ _ (Nat.lt_of_le_of_lt (hlow (by omega)) hlt)]
            rw [htk] at A'; exact ⟨_, lid', rfl, A'.up _, F'.up _, hl', Lw.fin _ _ (hlow (by omega)), fun q => by cases q⟩
      · have hput : wput (false, bs) (numB n (Int.ofNat K)) = (true, bs) := by rw [hn0, if_neg hz]; rfl
        rw [hput]
        have h8 : Int.ofNat K < 8 := by
          by_cases q : K = 8
          · subst q; exact absurd (Nat.div_eq_of_lt (by simpa using hn)) hz
          · simp; omega
        have hz' : ¬ Int.ofNat (n / 2 ^ (8 * K)) = 0 := by rw [e3]; intro q; exact hz (Int.ofNat.inj q)
        simp only [go_sem, Nat.reduceLT, Nat.reduceLeDiff, Nat.reduceEqDiff, Nat.reduceAdd, Nat.reduceSub, Nat.reduceMul, reduceCtorEq, Int.reduceBEq, Int.reduceLT, Int.reduceLE, Int.reduceAdd, Int.reduceSub, Int.reduceEq, Int.reduceNeg, Int.reduceToNat, Int.reduceGT, Int.reduceGE, hw, hb, h0, h1, hbn, hro, bin_shr, fdiv_nat, e1, e2, isW_und, h8, IntKind.bits, hmin, hz']
        rw [fin_l _ _ _ (by simp only [go_sem, Nat.reduceLT, Nat.reduceLeDiff, Nat.reduceEqDiff, Nat.reduceAdd, Nat.reduceSub, Nat.reduceMul, reduceCtorEq, Int.reduceBEq, Int.reduceLT, Int.reduceLE, Int.reduceAdd, Int.reduceSub, Int.reduceEq, Int.reduceNeg, Int.reduceToNat, Int.reduceGT, Int.reduceGE]; omega)]
        exact ⟨_, lid, rfl, ⟨A.lt, A.ne, _, _, put_blk_same _ _ _, hro, hbn, by simp only [go_sem, Nat.reduceLT, Nat.reduceLeDiff, Nat.reduceEqDiff, Nat.reduceAdd, Nat.reduceSub, Nat.reduceMul, reduceCtorEq, Int.reduceBEq, Int.reduceLT, Int.reduceLE, Int.reduceAdd, Int.reduceSub, Int.reduceEq, Int.reduceNeg, Int.reduceToNat, Int.reduceGT, Int.reduceGE, h0], by simp only [go_sem, Nat.reduceLT, Nat.reduceLeDiff, Nat.reduceEqDiff, Nat.reduceAdd, Nat.reduceSub, Nat.reduceMul, reduceCtorEq, Int.reduceBEq, Int.reduceLT, Int.reduceLE, Int.reduceAdd, Int.reduceSub, Int.reduceEq, Int.reduceNeg, Int.reduceToNat, Int.reduceGT, Int.reduceGE, hbn], hl.mono (Nat.le_refl _) fun hne => by simp only [go_sem, Nat.reduceLT, Nat.reduceLeDiff, Nat.reduceEqDiff, Nat.reduceAdd, Nat.reduceSub, Nat.reduceMul, reduceCtorEq, Int.reduceBEq, Int.reduceLT, Int.reduceLE, Int.reduceAdd, Int.reduceSub, Int.reduceEq, Int.reduceNeg, Int.reduceToNat, Int.reduceGT, Int.reduceGE, (A.ne hne).symm]⟩, ⟨Nat.le_refl _, rfl, fun k h1 h2 h3 => put_get_ne _ _ _ _ h2⟩, .inl rfl, Lw.fin _ _ (by simp only [go_sem, Nat.reduceLT, Nat.reduceLeDiff, Nat.reduceEqDiff, Nat.reduceAdd, Nat.reduceSub, Nat.reduceMul, reduceCtorEq, Int.reduceBEq, Int.reduceLT, Int.reduceLE, Int.reduceAdd, Int.reduceSub, Int.reduceEq, Int.reduceNeg, Int.reduceToNat, Int.reduceGT, Int.reduceGE]; omega), fun q => by cases q⟩
    · have hput : wput (false, bs) (numB n k) = (true, bs) := by
        unfold numB
        rw [show sizeOk k = false from decide_eq_false hs]; rfl
      rw [decide_eq_false hs] at hw
      simp only [go_sem, Nat.reduceLT, Nat.reduceLeDiff, Nat.reduceEqDiff, Nat.reduceAdd, Nat.reduceSub, Nat.reduceMul, reduceCtorEq, Int.reduceBEq, Int.reduceLT, Int.reduceLE, Int.reduceAdd, Int.reduceSub, Int.reduceEq, Int.reduceNeg, Int.reduceToNat, Int.reduceGT, Int.reduceGE, hw, hb, h0, h1, hbn, hro, isW_und]
      rw [fin_l _ _ _ (by simp only [go_sem, Nat.reduceLT, Nat.reduceLeDiff, Nat.reduceEqDiff, Nat.reduceAdd, Nat.reduceSub, Nat.reduceMul, reduceCtorEq, Int.reduceBEq, Int.reduceLT, Int.reduceLE, Int.reduceAdd, Int.reduceSub, Int.reduceEq, Int.reduceNeg, Int.reduceToNat, Int.reduceGT, Int.reduceGE]; omega), hput]
      exact ⟨_, lid, rfl, ⟨A.lt, A.ne, _, _, put_blk_same _ _ _, hro, hbn, by simp only [go_sem, Nat.reduceLT, Nat.reduceLeDiff, Nat.reduceEqDiff, Nat.reduceAdd, Nat.reduceSub, Nat.reduceMul, reduceCtorEq, Int.reduceBEq, Int.reduceLT, Int.reduceLE, Int.reduceAdd, Int.reduceSub, Int.reduceEq, Int.reduceNeg, Int.reduceToNat, Int.reduceGT, Int.reduceGE, h0], by simp only [go_sem, Nat.reduceLT, Nat.reduceLeDiff, Nat.reduceEqDiff, Nat.reduceAdd, Nat.reduceSub, Nat.reduceMul, reduceCtorEq, Int.reduceBEq, Int.reduceLT, Int.reduceLE, Int.reduceAdd, Int.reduceSub, Int.reduceEq, Int.reduceNeg, Int.reduceToNat, Int.reduceGT, Int.reduceGE, hbn], hl.mono (Nat.le_refl _) fun hne => by simp only [go_sem, Nat.reduceLT, Nat.reduceLeDiff, Nat.reduceEqDiff, Nat.reduceAdd, Nat.reduceSub, Nat.reduceMul, reduceCtorEq, Int.reduceBEq, Int.reduceLT, Int.reduceLE, Int.reduceAdd, Int.reduceSub, Int.reduceEq, Int.reduceNeg, Int.reduceToNat, Int.reduceGT, Int.reduceGE, (A.ne hne).symm]⟩, ⟨Nat.le_refl _, rfl, fun k h1 h2 h3 => put_get_ne _ _ _ _ h2⟩, .inl rfl, Lw.fin _ _ (by simp only [go_sem, Nat.reduceLT, Nat.reduceLeDiff, Nat.reduceEqDiff, Nat.reduceAdd, Nat.reduceSub, Nat.reduceMul, reduceCtorEq, Int.reduceBEq, Int.reduceLT, Int.reduceLE, Int.reduceAdd, Int.reduceSub, Int.reduceEq, Int.reduceNeg, Int.reduceToNat, Int.reduceGT, Int.reduceGE]; omega), fun q => by cases q⟩
  · simp only [go_sem, Nat.reduceLT, Nat.reduceLeDiff, Nat.reduceEqDiff, Nat.reduceAdd, Nat.reduceSub, Nat.reduceMul, reduceCtorEq, Int.reduceBEq, Int.reduceLT, Int.reduceLE, Int.reduceAdd, Int.reduceSub, Int.reduceEq, Int.reduceNeg, Int.reduceToNat, Int.reduceGT, Int.reduceGE, hw, hb, h0, h1, hbn, hro]
    rw [fin_q _ _ _ rfl (by simp only [go_sem, Nat.reduceLT, Nat.reduceLeDiff, Nat.reduceEqDiff, Nat.reduceAdd, Nat.reduceSub, Nat.reduceMul, reduceCtorEq, Int.reduceBEq, Int.reduceLT, Int.reduceLE, Int.reduceAdd, Int.reduceSub, Int.reduceEq, Int.reduceNeg, Int.reduceToNat, Int.reduceGT, Int.reduceGE]; exact decide_eq_true A.lt)]
    exact ⟨_, lid, rfl, A, WFr.refl _ _ _, .inl rfl, Lw.none _ _, fun _ => rfl⟩

theorem be_len (n k : Nat) : (be n k).length = k := by simp [be]

/-- the end of a method that answers its writer, behind a call of another one -/
theorem wok_fin {h : H} {w lid lid' : Nat} {p : Bool × List Nat} {y : Option H} (A : WrAt (y.getD h.lo) w lid' p.1 p.2) (F : WFr h.lo (y.getD h.lo) w lid) (hl : lid' = lid ∨ h.nx ≤ lid') (hw : w < h.nx) (hy : Lw h.lo w y) (h2 : y = none → p.1 = true) :
    WOk h w lid p (some (fin h (y.getD h.lo) (.ptr w 0))) := by
  cases y with
  | none =>
    rw [fin_q h _ _ rfl (by simp only [go_sem, Nat.reduceLT, Nat.reduceLeDiff, Nat.reduceEqDiff, Nat.reduceAdd, Nat.reduceSub, Nat.reduceMul, reduceCtorEq, Int.reduceBEq, Int.reduceLT, Int.reduceLE, Int.reduceAdd, Int.reduceSub, Int.reduceEq, Int.reduceNeg, Int.reduceToNat, Int.reduceGT, Int.reduceGE]; exact decide_eq_true hw)]
    exact ⟨_, lid', rfl, A.unlo, WFr.refl _ _ _, hl, Lw.none _ _, fun _ => h2 rfl⟩
  | some h1 =>
    have q := hy h1 rfl
    rw [Option.getD_some]
    rw [fin_l h _ _ (Nat.lt_of_le_of_lt q.1 hw)]
    exact ⟨_, lid', rfl, A.up _, ⟨F.nx, F.gn, F.old⟩, hl, Lw.fin _ _ q.1, fun q => by cases q⟩

theorem wok_fin2 {h : H} {w lid lid' : Nat} {p : Bool × List Nat} {y z : Option H} (A : WrAt (z.getD (y.getD h.lo)) w lid' p.1 p.2) (F : WFr h.lo (z.getD (y.getD h.lo)) w lid) (hl : lid' = lid ∨ h.nx ≤ lid') (hw : w < h.nx) (hy : Lw h.lo w y) (hz : Lw (y.getD h.lo) w z) (h2 : z = none → p.1 = true) :
    WOk h w lid p (some (fin h (z.getD (y.getD h.lo)) (.ptr w 0))) := by
  cases z with
  | none => exact wok_fin A F hl hw hy fun _ => h2 rfl
  | some b =>
    refine wok_fin (y := some b) A F hl hw (fun h1 e => ?_) fun q => by cases q
    cases e
    have t := hz _ rfl
    cases y with
    | none => exact t
    | some a =>
      have q := hy _ rfl
      rw [Option.getD_some] at t
      exact ⟨by omega, by omega⟩

theorem bytes_run (hσ : ∀ f a h, told f = false → σ f a h = none) {h : H} {w lid : Nat} {fl : Bool} {bs : List Nat} (A : WrAt h w lid fl bs) {v : CV} {xs : List Nat} (B : BSl h v (bc xs)) (room : bs.length + xs.length ≤ 1000000) :
    WOk h w lid (wput (fl, bs) (some xs)) ((lim Tryd.prog σ).call 35 [.ptr w 0, v] h) := by
  obtain ⟨b, s, hb, hro, hbn, h0, h1, hl⟩ := A.blk
  have hlt := A.lt
  rw [call_eq (hσ _ _ _ (by decide)) fn_35 rfl rfl, Tryd.ntmps35, Tryd.results35]
  cases fl
  · simp only [go_sem, Nat.reduceLT, Nat.reduceLeDiff, Nat.reduceEqDiff, Nat.reduceAdd, Nat.reduceSub, Nat.reduceMul, reduceCtorEq, Int.reduceBEq, Int.reduceLT, Int.reduceLE, Int.reduceAdd, Int.reduceSub, Int.reduceEq, Int.reduceNeg, Int.reduceToNat, Int.reduceGT, Int.reduceGE, hb, h0, h1, hbn, hro]
    refine appb_step (Q := WOk h w lid _) (hl.ext (Ext.lo _)) (B.ext (Ext.lo _)) (bc_one _) (by rw [bc_len]; omega) ?_
    intro s' lid' h' l' f hlow
    have hb2 := blk_eq (f.old w hlt fun q e => A.ne q e)
    simp only [go_sem, Nat.reduceLT, Nat.reduceLeDiff, Nat.reduceEqDiff, Nat.reduceAdd, Nat.reduceSub, Nat.reduceMul, reduceCtorEq, Int.reduceBEq, Int.reduceLT, Int.reduceLE, Int.reduceAdd, Int.reduceSub, Int.reduceEq, Int.reduceNeg, Int.reduceToNat, Int.reduceGT, Int.reduceGE] at hb2 hlow
    simp only [go_sem, Nat.reduceLT, Nat.reduceLeDiff, Nat.reduceEqDiff, Nat.reduceAdd, Nat.reduceSub, Nat.reduceMul, reduceCtorEq, Int.reduceBEq, Int.reduceLT, Int.reduceLE, Int.reduceAdd, Int.reduceSub, Int.reduceEq, Int.reduceNeg, Int.reduceToNat, Int.reduceGT, Int.reduceGE, hb, hb2, h0, h1, hbn, hro, l'.one]
    have hnx := f.nx
    have hid := f.id
    rw [bc_len] at hid
    simp only [go_sem, Nat.reduceLT, Nat.reduceLeDiff, Nat.reduceEqDiff, Nat.reduceAdd, Nat.reduceSub, Nat.reduceMul, reduceCtorEq, Int.reduceBEq, Int.reduceLT, Int.reduceLE, Int.reduceAdd, Int.reduceSub, Int.reduceEq, Int.reduceNeg, Int.reduceToNat, Int.reduceGT, Int.reduceGE] at hnx hid
    have hne : (bs ++ xs).length ≠ 0 → w ≠ lid' := fun q => by
      rcases hid with ⟨r1, r2⟩ | r
      · rw [r1]; exact A.ne (by rw [List.length_append] at q; omega)
      · omega
    rw [fin_l _ _ _ (by simp only [go_sem, Nat.reduceLT, Nat.reduceLeDiff, Nat.reduceEqDiff, Nat.reduceAdd, Nat.reduceSub, Nat.reduceMul, reduceCtorEq, Int.reduceBEq, Int.reduceLT, Int.reduceLE, Int.reduceAdd, Int.reduceSub, Int.reduceEq, Int.reduceNeg, Int.reduceToNat, Int.reduceGT, Int.reduceGE]; omega)]
    refine ⟨_, lid', rfl, WrAt.up ⟨by simp only [go_sem, Nat.reduceLT, Nat.reduceLeDiff, Nat.reduceEqDiff, Nat.reduceAdd, Nat.reduceSub, Nat.reduceMul, reduceCtorEq, Int.reduceBEq, Int.reduceLT, Int.reduceLE, Int.reduceAdd, Int.reduceSub, Int.reduceEq, Int.reduceNeg, Int.reduceToNat, Int.reduceGT, Int.reduceGE]; omega, hne, _, _, put_blk_same _ _ _, by simp only [go_sem, Nat.reduceLT, Nat.reduceLeDiff, Nat.reduceEqDiff, Nat.reduceAdd, Nat.reduceSub, Nat.reduceMul, reduceCtorEq, Int.reduceBEq, Int.reduceLT, Int.reduceLE, Int.reduceAdd, Int.reduceSub, Int.reduceEq, Int.reduceNeg, Int.reduceToNat, Int.reduceGT, Int.reduceGE, hro], by simp only [go_sem, Nat.reduceLT, Nat.reduceLeDiff, Nat.reduceEqDiff, Nat.reduceAdd, Nat.reduceSub, Nat.reduceMul, reduceCtorEq, Int.reduceBEq, Int.reduceLT, Int.reduceLE, Int.reduceAdd, Int.reduceSub, Int.reduceEq, Int.reduceNeg, Int.reduceToNat, Int.reduceGT, Int.reduceGE, hbn], by simp only [go_sem, Nat.reduceLT, Nat.reduceLeDiff, Nat.reduceEqDiff, Nat.reduceAdd, Nat.reduceSub, Nat.reduceMul, reduceCtorEq, Int.reduceBEq, Int.reduceLT, Int.reduceLE, Int.reduceAdd, Int.reduceSub, Int.reduceEq, Int.reduceNeg, Int.reduceToNat, Int.reduceGT, Int.reduceGE, hbn]; rfl, by simp only [go_sem, Nat.reduceLT, Nat.reduceLeDiff, Nat.reduceEqDiff, Nat.reduceAdd, Nat.reduceSub, Nat.reduceMul, reduceCtorEq, Int.reduceBEq, Int.reduceLT, Int.reduceLE, Int.reduceAdd, Int.reduceSub, Int.reduceEq, Int.reduceNeg, Int.reduceToNat, Int.reduceGT, Int.reduceGE, h1]; rfl, ?_⟩ _, WFr.up ⟨by simp only [go_sem, Nat.reduceLT, Nat.reduceLeDiff, Nat.reduceEqDiff, Nat.reduceAdd, Nat.reduceSub, Nat.reduceMul, reduceCtorEq, Int.reduceBEq, Int.reduceLT, Int.reduceLE, Int.reduceAdd, Int.reduceSub, Int.reduceEq, Int.reduceNeg, Int.reduceToNat, Int.reduceGT, Int.reduceGE]; omega, by simp only [go_sem, Nat.reduceLT, Nat.reduceLeDiff, Nat.reduceEqDiff, Nat.reduceAdd, Nat.reduceSub, Nat.reduceMul, reduceCtorEq, Int.reduceBEq, Int.reduceLT, Int.reduceLE, Int.reduceAdd, Int.reduceSub, Int.reduceEq, Int.reduceNeg, Int.reduceToNat, Int.reduceGT, Int.reduceGE]; exact f.gn, fun k k1 k2 k3 => ?_⟩ _, by omega, Lw.fin _ _ (by simp only [go_sem, Nat.reduceLT, Nat.reduceLeDiff, Nat.reduceEqDiff, Nat.reduceAdd, Nat.reduceSub, Nat.reduceMul, reduceCtorEq, Int.reduceBEq, Int.reduceLT, Int.reduceLE, Int.reduceAdd, Int.reduceSub, Int.reduceEq, Int.reduceNeg, Int.reduceToNat, Int.reduceGT, Int.reduceGE]; omega), fun q => by cases q⟩
    · show Lst _ 1 s' lid' (bs ++ xs).length (bc (bs ++ xs))
      rw [List.length_append, bc_app]
      rw [bc_len] at l'
      refine l'.mono (by rw [put_nx]; exact Nat.le_refl _) fun q => ?_
      have : lid' ≠ w := fun e => hne (by rw [List.length_append]; exact q) e.symm
      simp only [go_sem, Nat.reduceLT, Nat.reduceLeDiff, Nat.reduceEqDiff, Nat.reduceAdd, Nat.reduceSub, Nat.reduceMul, reduceCtorEq, Int.reduceBEq, Int.reduceLT, Int.reduceLE, Int.reduceAdd, Int.reduceSub, Int.reduceEq, Int.reduceNeg, Int.reduceToNat, Int.reduceGT, Int.reduceGE, this]
    · rw [put_get_ne _ _ _ _ k2]
      exact f.old k k1 fun _ => k3
  · simp only [go_sem, Nat.reduceLT, Nat.reduceLeDiff, Nat.reduceEqDiff, Nat.reduceAdd, Nat.reduceSub, Nat.reduceMul, reduceCtorEq, Int.reduceBEq, Int.reduceLT, Int.reduceLE, Int.reduceAdd, Int.reduceSub, Int.reduceEq, Int.reduceNeg, Int.reduceToNat, Int.reduceGT, Int.reduceGE, hb, h0, h1, hbn, hro]
    rw [fin_q _ _ _ rfl (by simp only [go_sem, Nat.reduceLT, Nat.reduceLeDiff, Nat.reduceEqDiff, Nat.reduceAdd, Nat.reduceSub, Nat.reduceMul, reduceCtorEq, Int.reduceBEq, Int.reduceLT, Int.reduceLE, Int.reduceAdd, Int.reduceSub, Int.reduceEq, Int.reduceNeg, Int.reduceToNat, Int.reduceGT, Int.reduceGE]; exact decide_eq_true A.lt)]
    exact ⟨_, lid, rfl, A, WFr.refl _ _ _, .inl rfl, Lw.none _ _, fun _ => rfl⟩

theorem nat_wrap {n : Nat} (h : n < 1000000000000) : IntKind.wrap .u64 (Int.ofNat n) = Int.ofNat n := by
  unfold IntKind.wrap
  simp only [IntKind.bits, IntKind.signed, Bool.false_and, show (2 ^ 64 : Int) = 18446744073709551616 from rfl]
  simp; omega

theorem WFr.ext {h0 h h' : H} {w lid : Nat} (F : WFr h h' w lid) (E : Ext h0 h) (hw : h0.nx ≤ w) (hl : h0.nx ≤ lid) : Ext h0 h' :=
  ⟨Nat.le_trans E.nx F.nx, F.gn.trans E.gn, fun k hk => (F.old k (Nat.lt_of_lt_of_le hk E.nx) (by omega) (by omega)).trans (E.old k hk)⟩

theorem blob_run (hσ : ∀ f a h, told f = false → σ f a h = none) {h0' h : H} {w lid : Nat} {fl : Bool} {bs : List Nat} (A : WrAt h w lid fl bs) {v : CV} {xs : List Nat} (B : BSl h0' v (bc xs)) (E : Ext h0' h) (hw' : h0'.nx ≤ w) (hl' : h0'.nx ≤ lid) (room : bs.length + xs.length ≤ 900000) (h2 : xs.length ≤ 65535) :
    WOk h w lid (wput (fl, bs) (some (be xs.length 2 ++ xs))) ((lim Tryd.prog σ).call 37 [.ptr w 0, v] h) := by
  obtain ⟨b, s, hb, hro, hbn, h0, h1, hl⟩ := A.blk
  have hlt := A.lt
  rw [call_eq (hσ _ _ _ (by decide)) fn_37 rfl rfl, Tryd.ntmps37, Tryd.results37]
  cases fl
  · have q1 : ¬ Int.ofNat (bc xs).length > 65535 := by rw [bc_len]; simp; omega
    have q2 : IntKind.wrap .u64 (Int.ofNat (bc xs).length) = Int.ofNat xs.length := by rw [bc_len]; exact nat_wrap (by omega)
    have e2 : numB xs.length 2 = some (be xs.length 2) := by
      unfold numB
      rw [show sizeOk 2 = true from rfl, if_pos rfl, if_pos]
      · rfl
      · exact Nat.div_eq_of_lt (show xs.length < 65536 by omega)
    obtain ⟨y, lid2, e, A2, F2, hl2, hy, hy2⟩ := number_run hσ (A.ext' (Ext.lo h)) xs.length (Nat.lt_of_le_of_lt h2 (by decide)) 2 (by omega)
    rw [e2] at A2
    have B2 : BSl (y.getD h.lo) v (bc xs) := B.ext (F2.ext E.lo' hw' hl')
    obtain ⟨z, lid3, e3, A3, F3, hl3, hz, hz2⟩ := bytes_run hσ A2 B2 (by simp [wput, be_len]; omega)
    have e' : (lim Tryd.prog σ).call 36 [.ptr w 0, .int .u64 (Int.ofNat xs.length), .int .i64 2] h.lo = some (.ptr w 0, y) := e
    simp only [go_sem, Nat.reduceLT, Nat.reduceLeDiff, Nat.reduceEqDiff, Nat.reduceAdd, Nat.reduceSub, Nat.reduceMul, reduceCtorEq, Int.reduceBEq, Int.reduceLT, Int.reduceLE, Int.reduceAdd, Int.reduceSub, Int.reduceEq, Int.reduceNeg, Int.reduceToNat, Int.reduceGT, Int.reduceGE, hb, h0, h1, hbn, hro, B.len, q1, q2, e', e3]
    have hap : wput (wput (false, bs) (some (be xs.length 2))) (some xs) = wput (false, bs) (some (be xs.length 2 ++ xs)) := by simp [wput]
    have hn := F2.nx
    rw [lo_nx] at hn
    have r := wok_fin2 A3 (F2.trans F3 hl2) (by rw [lo_nx] at hl2; omega) A.lt hy hz hz2
    rw [hap] at r
    exact r
  · simp only [go_sem, Nat.reduceLT, Nat.reduceLeDiff, Nat.reduceEqDiff, Nat.reduceAdd, Nat.reduceSub, Nat.reduceMul, reduceCtorEq, Int.reduceBEq, Int.reduceLT, Int.reduceLE, Int.reduceAdd, Int.reduceSub, Int.reduceEq, Int.reduceNeg, Int.reduceToNat, Int.reduceGT, Int.reduceGE, hb, h0, h1, hbn, hro]
    rw [fin_q _ _ _ rfl (by simp only [go_sem, Nat.reduceLT, Nat.reduceLeDiff, Nat.reduceEqDiff, Nat.reduceAdd, Nat.reduceSub, Nat.reduceMul, reduceCtorEq, Int.reduceBEq, Int.reduceLT, Int.reduceLE, Int.reduceAdd, Int.reduceSub, Int.reduceEq, Int.reduceNeg, Int.reduceToNat, Int.reduceGT, Int.reduceGE]; exact decide_eq_true A.lt)]
    exact ⟨_, lid, rfl, A, WFr.refl _ _ _, .inl rfl, Lw.none _ _, fun _ => rfl⟩

theorem copy_of {h : H} {v : CV} {cs : List CV} (B : BSl h v cs) (ho : cs.all CV.one = true) (hr : cs.length ≤ 70368744177664) {β : Type} {Q : Option β → Prop} {K : Out → Option β}
    (k : ∀ s' h', Ext h h' → BSl h' s' cs → (cs ≠ [] → ∃ lid', s' = .sl lid' 0 cs.length (.opn 1) ∧ h.nx ≤ lid' ∧ Lst h' 1 s' lid' cs.length cs) → (cs = [] → s' = .nils ∧ h' = h) → h'.low ≤ h.low → Q (K (.upd s' h'))) : Q (@thn _ β (builtinT Tryd.prog h .append [24, 24] [.nils, v]) ⟨K⟩) := by
  rw [B.app]
  by_cases h0 : cs = []
  · subst h0
    rw [show ([] : List CV).length = 0 from rfl, appS_nils0 rfl (by decide)]
    exact k _ _ (Ext.refl _) (.inl ⟨rfl, rfl⟩) (fun q => absurd rfl q) (fun _ => ⟨rfl, rfl⟩) (Nat.le_refl _)
  · have hm : 0 < cs.length := List.length_pos_iff.2 h0
    obtain ⟨h', e, l', h1, h2, h3, h4, _⟩ := app_Lst (by_ := 1) (zl := 1) (Lst.nil h 1 0) hm (new := cs) (by simp) ho rfl (by decide) (by omega) (by omega)
    rw [e]
    have l2 : Lst h' 1 (.sl h.nx 0 cs.length (.opn 1)) h.nx cs.length cs := by simpa using l'
    refine k _ _ ⟨by rw [h1]; omega, h2, fun k hk => h3 k hk fun q => absurd rfl q⟩ ?_ (fun _ => ⟨_, by rw [Nat.zero_add], Nat.le_refl _, ?_⟩) (fun q => absurd q h0) h4
    · rw [Nat.zero_add]; exact lst_bsl l2
    · rw [Nat.zero_add]; exact l2

def EndOk (h : H) (fl : Bool) (bs : List Nat) (r : Option (CV × Option H)) : Prop :=
  ∃ v x, r = some (.tup [v, .int .i64 (if fl then 2 else 0)], x) ∧ Ext h (x.getD h) ∧ BSl (x.getD h) v (if fl then [] else bc bs) ∧ (fl = false → bs ≠ [] → ∃ id, v = .sl id 0 bs.length (.opn 1) ∧ h.nx ≤ id ∧ Lst (x.getD h) 1 v id bs.length (bc bs))
theorem end_run (hσ : ∀ f a h, told f = false → σ f a h = none) {h : H} {w lid : Nat} {fl : Bool} {bs : List Nat} (A : WrAt h w lid fl bs) (room : bs.length ≤ 900000) :
    EndOk h fl bs ((lim Tryd.prog σ).call 38 [.ptr w 0] h) := by
  obtain ⟨b, s, hb, hro, hbn, h0, h1, hl⟩ := A.blk
  rw [call_eq (hσ _ _ _ (by decide)) fn_38 rfl rfl, Tryd.ntmps38, Tryd.results38]
  cases fl
  · simp only [go_sem, Nat.reduceLT, Nat.reduceLeDiff, Nat.reduceEqDiff, Nat.reduceAdd, Nat.reduceSub, Nat.reduceMul, reduceCtorEq, Int.reduceBEq, Int.reduceLT, Int.reduceLE, Int.reduceAdd, Int.reduceSub, Int.reduceEq, Int.reduceNeg, Int.reduceToNat, Int.reduceGT, Int.reduceGE, hb, h0, h1, hbn, hro]
    refine copy_of (Q := EndOk h false bs) (cs := bc bs) (lst_bsl (hl.ext (Ext.lo h))) (bc_one _) (by rw [bc_len]; omega) ?_
    intro s' h' E B hne hnil _
    simp only [go_sem, Nat.reduceLT, Nat.reduceLeDiff, Nat.reduceEqDiff, Nat.reduceAdd, Nat.reduceSub, Nat.reduceMul, reduceCtorEq, Int.reduceBEq, Int.reduceLT, Int.reduceLE, Int.reduceAdd, Int.reduceSub, Int.reduceEq, Int.reduceNeg, Int.reduceToNat, Int.reduceGT, Int.reduceGE, hb, h0, h1, hbn, hro]
    by_cases q : bs = []
    · subst q
      obtain ⟨rfl, rfl⟩ := hnil rfl
      rw [fin_q _ _ _ rfl rfl]
      exact ⟨_, _, rfl, Ext.refl _, .inl ⟨rfl, rfl⟩, fun _ q => absurd rfl q⟩
    · obtain ⟨lid', hs, hl', L⟩ := hne (by intro e; apply q; simpa [bc] using e)
      subst hs
      rw [lo_nx] at hl'
      rw [fin_new _ _ _ (by simp only [go_sem, Nat.reduceLT, Nat.reduceLeDiff, Nat.reduceEqDiff, Nat.reduceAdd, Nat.reduceSub, Nat.reduceMul, reduceCtorEq, Int.reduceBEq, Int.reduceLT, Int.reduceLE, Int.reduceAdd, Int.reduceSub, Int.reduceEq, Int.reduceNeg, Int.reduceToNat, Int.reduceGT, Int.reduceGE, blt_eq']; exact decide_eq_false (by omega))]
      exact ⟨_, _, rfl, ⟨E.nx, E.gn, E.old⟩, B.ext (Ext.up _ _), fun _ _ => ⟨lid', by rw [bc_len], hl', by rw [bc_len] at L ⊢; exact L.ext (Ext.up _ _)⟩⟩
  · simp only [go_sem, Nat.reduceLT, Nat.reduceLeDiff, Nat.reduceEqDiff, Nat.reduceAdd, Nat.reduceSub, Nat.reduceMul, reduceCtorEq, Int.reduceBEq, Int.reduceLT, Int.reduceLE, Int.reduceAdd, Int.reduceSub, Int.reduceEq, Int.reduceNeg, Int.reduceToNat, Int.reduceGT, Int.reduceGE, hb, h0, h1, hbn, hro]
    rw [fin_q _ _ _ rfl rfl]
    exact ⟨_, _, rfl, Ext.refl _, .inl ⟨rfl, rfl⟩, fun q => by cases q⟩
end Go.Cl.Sh.W

namespace Go.Cl.Sh.W
variable {σ : Sums}
set_option maxRecDepth 1000000

def Ret (v : CV) (r : Option (CV × Option H)) : Prop := r = some (v, none)
def isK (k : Int) : Bool := decide (k = 1 ∨ k = 2 ∨ k = 3 ∨ k = 4)
def ackK (k : Int) : Bool := decide (k = 2 ∨ k = 3)
def dataK (k : Int) : Bool := decide (k = 2)
theorem names_run (hσ : ∀ f a h, told f = false → σ f a h = none) (h : H) (k : Int) : Ret (.tup [.bool (isK k), .bool (ackK k), .bool (dataK k)]) ((lim Tryd.prog σ).call 34 [.int .i64 k] h) := by
  rw [call_eq (hσ _ _ _ (by decide)) fn_34 rfl rfl, Tryd.ntmps34, Tryd.results34]
  by_cases k2 : k = 2
  · subst k2
    simp only [go_sem, Nat.reduceLT, Nat.reduceLeDiff, Nat.reduceEqDiff, Nat.reduceAdd, Nat.reduceSub, Nat.reduceMul, reduceCtorEq, Int.reduceBEq, Int.reduceLT, Int.reduceLE, Int.reduceAdd, Int.reduceSub, Int.reduceEq, Int.reduceNeg, Int.reduceToNat, Int.reduceGT, Int.reduceGE]
    exact congrArg some (fin_q _ _ _ rfl rfl)
  by_cases k3 : k = 3
  · subst k3
    simp only [go_sem, Nat.reduceLT, Nat.reduceLeDiff, Nat.reduceEqDiff, Nat.reduceAdd, Nat.reduceSub, Nat.reduceMul, reduceCtorEq, Int.reduceBEq, Int.reduceLT, Int.reduceLE, Int.reduceAdd, Int.reduceSub, Int.reduceEq, Int.reduceNeg, Int.reduceToNat, Int.reduceGT, Int.reduceGE]
    exact congrArg some (fin_q _ _ _ rfl rfl)
  by_cases k1 : k = 1
  · subst k1
    simp only [go_sem, Nat.reduceLT, Nat.reduceLeDiff, Nat.reduceEqDiff, Nat.reduceAdd, Nat.reduceSub, Nat.reduceMul, reduceCtorEq, Int.reduceBEq, Int.reduceLT, Int.reduceLE, Int.reduceAdd, Int.reduceSub, Int.reduceEq, Int.reduceNeg, Int.reduceToNat, Int.reduceGT, Int.reduceGE]
    exact congrArg some (fin_q _ _ _ rfl rfl)
  by_cases k4 : k = 4
  · subst k4
    simp only [go_sem, Nat.reduceLT, Nat.reduceLeDiff, Nat.reduceEqDiff, Nat.reduceAdd, Nat.reduceSub, Nat.reduceMul, reduceCtorEq, Int.reduceBEq, Int.reduceLT, Int.reduceLE, Int.reduceAdd, Int.reduceSub, Int.reduceEq, Int.reduceNeg, Int.reduceToNat, Int.reduceGT, Int.reduceGE]
    exact congrArg some (fin_q _ _ _ rfl rfl)
  simp only [go_sem, Nat.reduceLT, Nat.reduceLeDiff, Nat.reduceEqDiff, Nat.reduceAdd, Nat.reduceSub, Nat.reduceMul, reduceCtorEq, Int.reduceBEq, Int.reduceLT, Int.reduceLE, Int.reduceAdd, Int.reduceSub, Int.reduceEq, Int.reduceNeg, Int.reduceToNat, Int.reduceGT, Int.reduceGE, k1, k2, k3, k4]
  have e1 : isK k = false := by unfold isK; simp [k1, k2, k3, k4]
  have e2 : ackK k = false := by unfold ackK; simp [k1, k2, k3, k4]
  have e3 : dataK k = false := by unfold dataK; simp [k1, k2, k3, k4]
  rw [e1, e2, e3]
  exact congrArg some (fin_q _ _ _ rfl rfl)

structure Pk where
  (kind : Int) (mine theirs ack seq : Nat) (v : CV) (xs : List Nat)
def Pk.cs (p : Pk) : List CV := [.int .i64 p.kind, u64 p.mine, u64 p.theirs, u64 p.ack, u64 p.seq, p.v]
def mayV (p : Pk) : Bool :=
  if isK p.kind = false ∨ p.mine = 0 ∨ (p.theirs = 0 ∧ p.kind ≠ 1) then false
  else if ackK p.kind = false ∧ p.ack ≠ 0 then false
  else if dataK p.kind = false then decide (p.seq = 0 ∧ p.xs.length = 0)
  else decide (p.seq ≠ 0 ∧ 0 < p.xs.length ∧ p.xs.length ≤ 4000)
theorem gt0 (n : Nat) : (Int.ofNat n > 0) = (0 < n) := by simp
theorem le4000 (n : Nat) : (Int.ofNat n ≤ 4000) = (n ≤ 4000) := by
  refine propext ?_
  show (n : Int) ≤ 4000 ↔ _
  omega
theorem eqz (n : Nat) : (Int.ofNat n = 0) = (n = 0) := by simp
theorem may_run (hσ : ∀ f a h, told f = false → σ f a h = none) {h : H} (p : Pk) (B : BSl h p.v (bc p.xs)) : Ret (.bool (mayV p)) ((lim Tryd.prog σ).call 33 [.agg p.cs] h) := by
  obtain ⟨Q, hQ⟩ : ∃ Q, Q = Ret (.bool (mayV p)) := ⟨_, rfl⟩
  rw [← hQ]
  rw [call_eq (hσ _ _ _ (by decide)) fn_33 rfl rfl, Tryd.ntmps33, Tryd.results33]
  have nm : ∀ Y, (lim Tryd.prog σ).call 34 [.int .i64 p.kind] Y = some (.tup [.bool (isK p.kind), .bool (ackK p.kind), .bool (dataK p.kind)], none) := fun Y => names_run hσ Y p.kind
  have ov := B.one.1
  have oc := B.one.2
  have bl := B.len
  rw [bc_len] at bl
  have l0 : CV.int .u64 0 = u64 0 := rfl
  unfold Pk.cs
  have fin : ∀ (Y : H) (v : Bool), Y.low = h.nx → v = mayV p → Q (some (fin h Y (.bool v))) := fun Y v hl hv => by
    rw [hQ, fin_q _ _ _ hl rfl, hv]; rfl
  simp only [go_sem, Nat.reduceLT, Nat.reduceLeDiff, Nat.reduceEqDiff, Nat.reduceAdd, Nat.reduceSub, Nat.reduceMul, reduceCtorEq, Int.reduceBEq, Int.reduceLT, Int.reduceLE, Int.reduceAdd, Int.reduceSub, Int.reduceEq, Int.reduceNeg, Int.reduceToNat, Int.reduceGT, Int.reduceGE, nm, ov, oc, bl, l0, eq64, ne64]
  cases e1 : isK p.kind
  · simp only [go_sem, Nat.reduceLT, Nat.reduceLeDiff, Nat.reduceEqDiff, Nat.reduceAdd, Nat.reduceSub, Nat.reduceMul, reduceCtorEq, Int.reduceBEq, Int.reduceLT, Int.reduceLE, Int.reduceAdd, Int.reduceSub, Int.reduceEq, Int.reduceNeg, Int.reduceToNat, Int.reduceGT, Int.reduceGE, nm, ov, oc, bl, l0, eq64, ne64, gt0, le4000, eqz, e1]
    exact fin _ _ rfl (by unfold mayV; simp [e1])
  by_cases q1 : p.mine = 0
  · simp only [go_sem, Nat.reduceLT, Nat.reduceLeDiff, Nat.reduceEqDiff, Nat.reduceAdd, Nat.reduceSub, Nat.reduceMul, reduceCtorEq, Int.reduceBEq, Int.reduceLT, Int.reduceLE, Int.reduceAdd, Int.reduceSub, Int.reduceEq, Int.reduceNeg, Int.reduceToNat, Int.reduceGT, Int.reduceGE, nm, ov, oc, bl, l0, eq64, ne64, gt0, le4000, eqz, e1, q1]
    exact fin _ _ rfl (by unfold mayV; simp [e1, q1])
  by_cases q2 : p.theirs = 0
  · by_cases q3 : p.kind = 1
    · have e1' := e1
      rw [q3] at e1'
      cases e2 : ackK p.kind
      · by_cases q4 : p.ack = 0
        · cases e3 : dataK p.kind
          · by_cases q5 : p.seq = 0
            · by_cases q6 : p.xs.length = 0
              · simp only [go_sem, Nat.reduceLT, Nat.reduceLeDiff, Nat.reduceEqDiff, Nat.reduceAdd, Nat.reduceSub, Nat.reduceMul, reduceCtorEq, Int.reduceBEq, Int.reduceLT, Int.reduceLE, Int.reduceAdd, Int.reduceSub, Int.reduceEq, Int.reduceNeg, Int.reduceToNat, Int.reduceGT, Int.reduceGE, nm, ov, oc, bl, l0, eq64, ne64, gt0, le4000, eqz, e1, q1, q2, q3, e1', e2, (q3 ▸ e2 : ackK 1 = _), q4, e3, (q3 ▸ e3 : dataK 1 = _), q5, q6]
                exact fin _ _ rfl (by unfold mayV; simp [e1, q1, q2, q3, e1', e2, (q3 ▸ e2 : ackK 1 = _), q4, e3, (q3 ▸ e3 : dataK 1 = _), q5, q6])
              · simp only [go_sem, Nat.reduceLT, Nat.reduceLeDiff, Nat.reduceEqDiff, Nat.reduceAdd, Nat.reduceSub, Nat.reduceMul, reduceCtorEq, Int.reduceBEq, Int.reduceLT, Int.reduceLE, Int.reduceAdd, Int.reduceSub, Int.reduceEq, Int.reduceNeg, Int.reduceToNat, Int.reduceGT, Int.reduceGE, nm, ov, oc, bl, l0, eq64, ne64, gt0, le4000, eqz, e1, q1, q2, q3, e1', e2, (q3 ▸ e2 : ackK 1 = _), q4, e3, (q3 ▸ e3 : dataK 1 = _), q5, q6]
                exact fin _ _ rfl (by unfold mayV; simp [e1, q1, q2, q3, e1', e2, (q3 ▸ e2 : ackK 1 = _), q4, e3, (q3 ▸ e3 : dataK 1 = _), q5, q6])
            · simp only [go_sem, Nat.reduceLT, Nat.reduceLeDiff, Nat.reduceEqDiff, Nat.reduceAdd, Nat.reduceSub, Nat.reduceMul, reduceCtorEq, Int.reduceBEq, Int.reduceLT, Int.reduceLE, Int.reduceAdd, Int.reduceSub, Int.reduceEq, Int.reduceNeg, Int.reduceToNat, Int.reduceGT, Int.reduceGE, nm, ov, oc, bl, l0, eq64, ne64, gt0, le4000, eqz, e1, q1, q2, q3, e1', e2, (q3 ▸ e2 : ackK 1 = _), q4, e3, (q3 ▸ e3 : dataK 1 = _), q5]
              exact fin _ _ rfl (by unfold mayV; simp [e1, q1, q2, q3, e1', e2, (q3 ▸ e2 : ackK 1 = _), q4, e3, (q3 ▸ e3 : dataK 1 = _), q5])
          · by_cases q5 : p.seq = 0
            · simp only [go_sem, Nat.reduceLT, Nat.reduceLeDiff, Nat.reduceEqDiff, Nat.reduceAdd, Nat.reduceSub, Nat.reduceMul, reduceCtorEq, Int.reduceBEq, Int.reduceLT, Int.reduceLE, Int.reduceAdd, Int.reduceSub, Int.reduceEq, Int.reduceNeg, Int.reduceToNat, Int.reduceGT, Int.reduceGE, nm, ov, oc, bl, l0, eq64, ne64, gt0, le4000, eqz, e1, q1, q2, q3, e1', e2, (q3 ▸ e2 : ackK 1 = _), q4, e3, (q3 ▸ e3 : dataK 1 = _), q5]
              exact fin _ _ rfl (by unfold mayV; simp [e1, q1, q2, q3, e1', e2, (q3 ▸ e2 : ackK 1 = _), q4, e3, (q3 ▸ e3 : dataK 1 = _), q5])
            · by_cases q6 : 0 < p.xs.length
              · by_cases q7 : p.xs.length ≤ 4000
                · simp only [go_sem, Nat.reduceLT, Nat.reduceLeDiff, Nat.reduceEqDiff, Nat.reduceAdd, Nat.reduceSub, Nat.reduceMul, reduceCtorEq, Int.reduceBEq, Int.reduceLT, Int.reduceLE, Int.reduceAdd, Int.reduceSub, Int.reduceEq, Int.reduceNeg, Int.reduceToNat, Int.reduceGT, Int.reduceGE, nm, ov, oc, bl, l0, eq64, ne64, gt0, le4000, eqz, e1, q1, q2, q3, e1', e2, (q3 ▸ e2 : ackK 1 = _), q4, e3, (q3 ▸ e3 : dataK 1 = _), q5, q6, q7]
                  exact fin _ _ rfl (by unfold mayV; simp [e1, q1, q2, q3, e1', e2, (q3 ▸ e2 : ackK 1 = _), q4, e3, (q3 ▸ e3 : dataK 1 = _), q5, q6, q7])
                · simp only [go_sem, Nat.reduceLT, Nat.reduceLeDiff, Nat.reduceEqDiff, Nat.reduceAdd, Nat.reduceSub, Nat.reduceMul, reduceCtorEq, Int.reduceBEq, Int.reduceLT, Int.reduceLE, Int.reduceAdd, Int.reduceSub, Int.reduceEq, Int.reduceNeg, Int.reduceToNat, Int.reduceGT, Int.reduceGE, nm, ov, oc, bl, l0, eq64, ne64, gt0, le4000, eqz, e1, q1, q2, q3, e1', e2, (q3 ▸ e2 : ackK 1 = _), q4, e3, (q3 ▸ e3 : dataK 1 = _), q5, q6, q7]
                  exact fin _ _ rfl (by unfold mayV; simp [e1, q1, q2, q3, e1', e2, (q3 ▸ e2 : ackK 1 = _), q4, e3, (q3 ▸ e3 : dataK 1 = _), q5, q6, q7])
              · simp only [go_sem, Nat.reduceLT, Nat.reduceLeDiff, Nat.reduceEqDiff, Nat.reduceAdd, Nat.reduceSub, Nat.reduceMul, reduceCtorEq, Int.reduceBEq, Int.reduceLT, Int.reduceLE, Int.reduceAdd, Int.reduceSub, Int.reduceEq, Int.reduceNeg, Int.reduceToNat, Int.reduceGT, Int.reduceGE, nm, ov, oc, bl, l0, eq64, ne64, gt0, le4000, eqz, e1, q1, q2, q3, e1', e2, (q3 ▸ e2 : ackK 1 = _), q4, e3, (q3 ▸ e3 : dataK 1 = _), q5, q6]
                exact fin _ _ rfl (by unfold mayV; simp [e1, q1, q2, q3, e1', e2, (q3 ▸ e2 : ackK 1 = _), q4, e3, (q3 ▸ e3 : dataK 1 = _), q5, q6])
        · simp only [go_sem, Nat.reduceLT, Nat.reduceLeDiff, Nat.reduceEqDiff, Nat.reduceAdd, Nat.reduceSub, Nat.reduceMul, reduceCtorEq, Int.reduceBEq, Int.reduceLT, Int.reduceLE, Int.reduceAdd, Int.reduceSub, Int.reduceEq, Int.reduceNeg, Int.reduceToNat, Int.reduceGT, Int.reduceGE, nm, ov, oc, bl, l0, eq64, ne64, gt0, le4000, eqz, e1, q1, q2, q3, e1', e2, (q3 ▸ e2 : ackK 1 = _), q4]
          exact fin _ _ rfl (by unfold mayV; simp [e1, q1, q2, q3, e1', e2, (q3 ▸ e2 : ackK 1 = _), q4])
      · cases e3 : dataK p.kind
        · by_cases q5 : p.seq = 0
          · by_cases q6 : p.xs.length = 0
            · simp only [go_sem, Nat.reduceLT, Nat.reduceLeDiff, Nat.reduceEqDiff, Nat.reduceAdd, Nat.reduceSub, Nat.reduceMul, reduceCtorEq, Int.reduceBEq, Int.reduceLT, Int.reduceLE, Int.reduceAdd, Int.reduceSub, Int.reduceEq, Int.reduceNeg, Int.reduceToNat, Int.reduceGT, Int.reduceGE, nm, ov, oc, bl, l0, eq64, ne64, gt0, le4000, eqz, e1, q1, q2, q3, e1', e2, (q3 ▸ e2 : ackK 1 = _), e3, (q3 ▸ e3 : dataK 1 = _), q5, q6]
              exact fin _ _ rfl (by unfold mayV; simp [e1, q1, q2, q3, e1', e2, (q3 ▸ e2 : ackK 1 = _), e3, (q3 ▸ e3 : dataK 1 = _), q5, q6])
            · simp only [go_sem, Nat.reduceLT, Nat.reduceLeDiff, Nat.reduceEqDiff, Nat.reduceAdd, Nat.reduceSub, Nat.reduceMul, reduceCtorEq, Int.reduceBEq, Int.reduceLT, Int.reduceLE, Int.reduceAdd, Int.reduceSub, Int.reduceEq, Int.reduceNeg, Int.reduceToNat, Int.reduceGT, Int.reduceGE, nm, ov, oc, bl, l0, eq64, ne64, gt0, le4000, eqz, e1, q1, q2, q3, e1', e2, (q3 ▸ e2 : ackK 1 = _), e3, (q3 ▸ e3 : dataK 1 = _), q5, q6]
              exact fin _ _ rfl (by unfold mayV; simp [e1, q1, q2, q3, e1', e2, (q3 ▸ e2 : ackK 1 = _), e3, (q3 ▸ e3 : dataK 1 = _), q5, q6])
          · simp only [go_sem, Nat.reduceLT, Nat.reduceLeDiff, Nat.reduceEqDiff, Nat.reduceAdd, Nat.reduceSub, Nat.reduceMul, reduceCtorEq, Int.reduceBEq, Int.reduceLT, Int.reduceLE, Int.reduceAdd, Int.reduceSub, Int.reduceEq, Int.reduceNeg, Int.reduceToNat, Int.reduceGT, Int.reduceGE, nm, ov, oc, bl, l0, eq64, ne64, gt0, le4000, eqz, e1, q1, q2, q3, e1', e2, (q3 ▸ e2 : ackK 1 = _), e3, (q3 ▸ e3 : dataK 1 = _), q5]
            exact fin _ _ rfl (by unfold mayV; simp [e1, q1, q2, q3, e1', e2, (q3 ▸ e2 : ackK 1 = _), e3, (q3 ▸ e3 : dataK 1 = _), q5])
        · by_cases q5 : p.seq = 0
          · simp only [go_sem, Nat.reduceLT, Nat.reduceLeDiff, Nat.reduceEqDiff, Nat.reduceAdd, Nat.reduceSub, Nat.reduceMul, reduceCtorEq, Int.reduceBEq, Int.reduceLT, Int.reduceLE, Int.reduceAdd, Int.reduceSub, Int.reduceEq, Int.reduceNeg, Int.reduceToNat, Int.reduceGT, Int.reduceGE, nm, ov, oc, bl, l0, eq64, ne64, gt0, le4000, eqz, e1, q1, q2, q3, e1', e2, (q3 ▸ e2 : ackK 1 = _), e3, (q3 ▸ e3 : dataK 1 = _), q5]
            exact fin _ _ rfl (by unfold mayV; simp [e1, q1, q2, q3, e1', e2, (q3 ▸ e2 : ackK 1 = _), e3, (q3 ▸ e3 : dataK 1 = _), q5])
          · by_cases q6 : 0 < p.xs.length
            · by_cases q7 : p.xs.length ≤ 4000
              · simp only [go_sem, Nat.reduceLT, Nat.reduceLeDiff, Nat.reduceEqDiff, Nat.reduceAdd, Nat.reduceSub, Nat.reduceMul, reduceCtorEq, Int.reduceBEq, Int.reduceLT, Int.reduceLE, Int.reduceAdd, Int.reduceSub, Int.reduceEq, Int.reduceNeg, Int.reduceToNat, Int.reduceGT, Int.reduceGE, nm, ov, oc, bl, l0, eq64, ne64, gt0, le4000, eqz, e1, q1, q2, q3, e1', e2, (q3 ▸ e2 : ackK 1 = _), e3, (q3 ▸ e3 : dataK 1 = _), q5, q6, q7]
                exact fin _ _ rfl (by unfold mayV; simp [e1, q1, q2, q3, e1', e2, (q3 ▸ e2 : ackK 1 = _), e3, (q3 ▸ e3 : dataK 1 = _), q5, q6, q7])
              · simp only [go_sem, Nat.reduceLT, Nat.reduceLeDiff, Nat.reduceEqDiff, Nat.reduceAdd, Nat.reduceSub, Nat.reduceMul, reduceCtorEq, Int.reduceBEq, Int.reduceLT, Int.reduceLE, Int.reduceAdd, Int.reduceSub, Int.reduceEq, Int.reduceNeg, Int.reduceToNat, Int.reduceGT, Int.reduceGE, nm, ov, oc, bl, l0, eq64, ne64, gt0, le4000, eqz, e1, q1, q2, q3, e1', e2, (q3 ▸ e2 : ackK 1 = _), e3, (q3 ▸ e3 : dataK 1 = _), q5, q6, q7]
                exact fin _ _ rfl (by unfold mayV; simp [e1, q1, q2, q3, e1', e2, (q3 ▸ e2 : ackK 1 = _), e3, (q3 ▸ e3 : dataK 1 = _), q5, q6, q7])
            · simp only [go_sem, Nat.reduceLT, Nat.reduceLeDiff, Nat.reduceEqDiff, Nat.reduceAdd, Nat.reduceSub, Nat.reduceMul, reduceCtorEq, Int.reduceBEq, Int.reduceLT, Int.reduceLE, Int.reduceAdd, Int.reduceSub, Int.reduceEq, Int.reduceNeg, Int.reduceToNat, Int.reduceGT, Int.reduceGE, nm, ov, oc, bl, l0, eq64, ne64, gt0, le4000, eqz, e1, q1, q2, q3, e1', e2, (q3 ▸ e2 : ackK 1 = _), e3, (q3 ▸ e3 : dataK 1 = _), q5, q6]
              exact fin _ _ rfl (by unfold mayV; simp [e1, q1, q2, q3, e1', e2, (q3 ▸ e2 : ackK 1 = _), e3, (q3 ▸ e3 : dataK 1 = _), q5, q6])
    · simp only [go_sem, Nat.reduceLT, Nat.reduceLeDiff, Nat.reduceEqDiff, Nat.reduceAdd, Nat.reduceSub, Nat.reduceMul, reduceCtorEq, Int.reduceBEq, Int.reduceLT, Int.reduceLE, Int.reduceAdd, Int.reduceSub, Int.reduceEq, Int.reduceNeg, Int.reduceToNat, Int.reduceGT, Int.reduceGE, nm, ov, oc, bl, l0, eq64, ne64, gt0, le4000, eqz, e1, q1, q2, q3]
      exact fin _ _ rfl (by unfold mayV; simp [e1, q1, q2, q3])
  · cases e2 : ackK p.kind
    · by_cases q4 : p.ack = 0
      · cases e3 : dataK p.kind
        · by_cases q5 : p.seq = 0
          · by_cases q6 : p.xs.length = 0
            · simp only [go_sem, Nat.reduceLT, Nat.reduceLeDiff, Nat.reduceEqDiff, Nat.reduceAdd, Nat.reduceSub, Nat.reduceMul, reduceCtorEq, Int.reduceBEq, Int.reduceLT, Int.reduceLE, Int.reduceAdd, Int.reduceSub, Int.reduceEq, Int.reduceNeg, Int.reduceToNat, Int.reduceGT, Int.reduceGE, nm, ov, oc, bl, l0, eq64, ne64, gt0, le4000, eqz, e1, q1, q2, e2, q4, e3, q5, q6]
              exact fin _ _ rfl (by unfold mayV; simp [e1, q1, q2, e2, q4, e3, q5, q6])
            · simp only [go_sem, Nat.reduceLT, Nat.reduceLeDiff, Nat.reduceEqDiff, Nat.reduceAdd, Nat.reduceSub, Nat.reduceMul, reduceCtorEq, Int.reduceBEq, Int.reduceLT, Int.reduceLE, Int.reduceAdd, Int.reduceSub, Int.reduceEq, Int.reduceNeg, Int.reduceToNat, Int.reduceGT, Int.reduceGE, nm, ov, oc, bl, l0, eq64, ne64, gt0, le4000, eqz, e1, q1, q2, e2, q4, e3, q5, q6]
              exact fin _ _ rfl (by unfold mayV; simp [e1, q1, q2, e2, q4, e3, q5, q6])
          · simp only [go_sem, Nat.reduceLT, Nat.reduceLeDiff, Nat.reduceEqDiff, Nat.reduceAdd, Nat.reduceSub, Nat.reduceMul, reduceCtorEq, Int.reduceBEq, Int.reduceLT, Int.reduceLE, Int.reduceAdd, Int.reduceSub, Int.reduceEq, Int.reduceNeg, Int.reduceToNat, Int.reduceGT, Int.reduceGE, nm, ov, oc, bl, l0, eq64, ne64, gt0, le4000, eqz, e1, q1, q2, e2, q4, e3, q5]
            exact fin _ _ rfl (by unfold mayV; simp [e1, q1, q2, e2, q4, e3, q5])
        · by_cases q5 : p.seq = 0
          · simp only [go_sem, Nat.reduceLT, Nat.reduceLeDiff, Nat.reduceEqDiff, Nat.reduceAdd, Nat.reduceSub, Nat.reduceMul, reduceCtorEq, Int.reduceBEq, Int.reduceLT, Int.reduceLE, Int.reduceAdd, Int.reduceSub, Int.reduceEq, Int.reduceNeg, Int.reduceToNat, Int.reduceGT, Int.reduceGE, nm, ov, oc, bl, l0, eq64, ne64, gt0, le4000, eqz, e1, q1, q2, e2, q4, e3, q5]
            exact fin _ _ rfl (by unfold mayV; simp [e1, q1, q2, e2, q4, e3, q5])
          · by_cases q6 : 0 < p.xs.length
            · by_cases q7 : p.xs.length ≤ 4000
              · simp only [go_sem, Nat.reduceLT, Nat.reduceLeDiff, Nat.reduceEqDiff, Nat.reduceAdd, Nat.reduceSub, Nat.reduceMul, reduceCtorEq, Int.reduceBEq, Int.reduceLT, Int.reduceLE, Int.reduceAdd, Int.reduceSub, Int.reduceEq, Int.reduceNeg, Int.reduceToNat, Int.reduceGT, Int.reduceGE, nm, ov, oc, bl, l0, eq64, ne64, gt0, le4000, eqz, e1, q1, q2, e2, q4, e3, q5, q6, q7]
                exact fin _ _ rfl (by unfold mayV; simp [e1, q1, q2, e2, q4, e3, q5, q6, q7])
              · simp only [go_sem, Nat.reduceLT, Nat.reduceLeDiff, Nat.reduceEqDiff, Nat.reduceAdd, Nat.reduceSub, Nat.reduceMul, reduceCtorEq, Int.reduceBEq, Int.reduceLT, Int.reduceLE, Int.reduceAdd, Int.reduceSub, Int.reduceEq, Int.reduceNeg, Int.reduceToNat, Int.reduceGT, Int.reduceGE, nm, ov, oc, bl, l0, eq64, ne64, gt0, le4000, eqz, e1, q1, q2, e2, q4, e3, q5, q6, q7]
                exact fin _ _ rfl (by unfold mayV; simp [e1, q1, q2, e2, q4, e3, q5, q6, q7])
            · simp only [go_sem, Nat.reduceLT, Nat.reduceLeDiff, Nat.reduceEqDiff, Nat.reduceAdd, Nat.reduceSub, Nat.reduceMul, reduceCtorEq, Int.reduceBEq, Int.reduceLT, Int.reduceLE, Int.reduceAdd, Int.reduceSub, Int.reduceEq, Int.reduceNeg, Int.reduceToNat, Int.reduceGT, Int.reduceGE, nm, ov, oc, bl, l0, eq64, ne64, gt0, le4000, eqz, e1, q1, q2, e2, q4, e3, q5, q6]
              exact fin _ _ rfl (by unfold mayV; simp [e1, q1, q2, e2, q4, e3, q5, q6])
      · simp only [go_sem, Nat.reduceLT, Nat.reduceLeDiff, Nat.reduceEqDiff, Nat.reduceAdd, Nat.reduceSub, Nat.reduceMul, reduceCtorEq, Int.reduceBEq, Int.reduceLT, Int.reduceLE, Int.reduceAdd, Int.reduceSub, Int.reduceEq, Int.reduceNeg, Int.reduceToNat, Int.reduceGT, Int.reduceGE, nm, ov, oc, bl, l0, eq64, ne64, gt0, le4000, eqz, e1, q1, q2, e2, q4]
        exact fin _ _ rfl (by unfold mayV; simp [e1, q1, q2, e2, q4])
    · cases e3 : dataK p.kind
      · by_cases q5 : p.seq = 0
        · by_cases q6 : p.xs.length = 0
          · simp only [go_sem, Nat.reduceLT, Nat.reduceLeDiff, Nat.reduceEqDiff, Nat.reduceAdd, Nat.reduceSub, Nat.reduceMul, reduceCtorEq, Int.reduceBEq, Int.reduceLT, Int.reduceLE, Int.reduceAdd, Int.reduceSub, Int.reduceEq, Int.reduceNeg, Int.reduceToNat, Int.reduceGT, Int.reduceGE, nm, ov, oc, bl, l0, eq64, ne64, gt0, le4000, eqz, e1, q1, q2, e2, e3, q5, q6]
            exact fin _ _ rfl (by unfold mayV; simp [e1, q1, q2, e2, e3, q5, q6])
          · simp only [go_sem, Nat.reduceLT, Nat.reduceLeDiff, Nat.reduceEqDiff, Nat.reduceAdd, Nat.reduceSub, Nat.reduceMul, reduceCtorEq, Int.reduceBEq, Int.reduceLT, Int.reduceLE, Int.reduceAdd, Int.reduceSub, Int.reduceEq, Int.reduceNeg, Int.reduceToNat, Int.reduceGT, Int.reduceGE, nm, ov, oc, bl, l0, eq64, ne64, gt0, le4000, eqz, e1, q1, q2, e2, e3, q5, q6]
            exact fin _ _ rfl (by unfold mayV; simp [e1, q1, q2, e2, e3, q5, q6])
        · simp only [go_sem, Nat.reduceLT, Nat.reduceLeDiff, Nat.reduceEqDiff, Nat.reduceAdd, Nat.reduceSub, Nat.reduceMul, reduceCtorEq, Int.reduceBEq, Int.reduceLT, Int.reduceLE, Int.reduceAdd, Int.reduceSub, Int.reduceEq, Int.reduceNeg, Int.reduceToNat, Int.reduceGT, Int.reduceGE, nm, ov, oc, bl, l0, eq64, ne64, gt0, le4000, eqz, e1, q1, q2, e2, e3, q5]
          exact fin _ _ rfl (by unfold mayV; simp [e1, q1, q2, e2, e3, q5])
      · by_cases q5 : p.seq = 0
        · simp only [go_sem, Nat.reduceLT, Nat.reduceLeDiff, Nat.reduceEqDiff, Nat.reduceAdd, Nat.reduceSub, Nat.reduceMul, reduceCtorEq, Int.reduceBEq, Int.reduceLT, Int.reduceLE, Int.reduceAdd, Int.reduceSub, Int.reduceEq, Int.reduceNeg, Int.reduceToNat, Int.reduceGT, Int.reduceGE, nm, ov, oc, bl, l0, eq64, ne64, gt0, le4000, eqz, e1, q1, q2, e2, e3, q5]
          exact fin _ _ rfl (by unfold mayV; simp [e1, q1, q2, e2, e3, q5])
        · by_cases q6 : 0 < p.xs.length
          · by_cases q7 : p.xs.length ≤ 4000
            · simp only [go_sem, Nat.reduceLT, Nat.reduceLeDiff, Nat.reduceEqDiff, Nat.reduceAdd, Nat.reduceSub, Nat.reduceMul, reduceCtorEq, Int.reduceBEq, Int.reduceLT, Int.reduceLE, Int.reduceAdd, Int.reduceSub, Int.reduceEq, Int.reduceNeg, Int.reduceToNat, Int.reduceGT, Int.reduceGE, nm, ov, oc, bl, l0, eq64, ne64, gt0, le4000, eqz, e1, q1, q2, e2, e3, q5, q6, q7]
              exact fin _ _ rfl (by unfold mayV; simp [e1, q1, q2, e2, e3, q5, q6, q7])
            · simp only [go_sem, Nat.reduceLT, Nat.reduceLeDiff, Nat.reduceEqDiff, Nat.reduceAdd, Nat.reduceSub, Nat.reduceMul, reduceCtorEq, Int.reduceBEq, Int.reduceLT, Int.reduceLE, Int.reduceAdd, Int.reduceSub, Int.reduceEq, Int.reduceNeg, Int.reduceToNat, Int.reduceGT, Int.reduceGE, nm, ov, oc, bl, l0, eq64, ne64, gt0, le4000, eqz, e1, q1, q2, e2, e3, q5, q6, q7]
              exact fin _ _ rfl (by unfold mayV; simp [e1, q1, q2, e2, e3, q5, q6, q7])
          · simp only [go_sem, Nat.reduceLT, Nat.reduceLeDiff, Nat.reduceEqDiff, Nat.reduceAdd, Nat.reduceSub, Nat.reduceMul, reduceCtorEq, Int.reduceBEq, Int.reduceLT, Int.reduceLE, Int.reduceAdd, Int.reduceSub, Int.reduceEq, Int.reduceNeg, Int.reduceToNat, Int.reduceGT, Int.reduceGE, nm, ov, oc, bl, l0, eq64, ne64, gt0, le4000, eqz, e1, q1, q2, e2, e3, q5, q6]
            exact fin _ _ rfl (by unfold mayV; simp [e1, q1, q2, e2, e3, q5, q6])
end Go.Cl.Sh.W
