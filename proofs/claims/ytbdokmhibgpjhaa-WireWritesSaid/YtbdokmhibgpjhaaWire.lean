/- gemel, the law WireWrites: the given statement 'WireWritesSaid': whatever the parts, the call returns true in every run, and the argument reads as it did. Conditions: none.
   How: the evaluator's run by rewriting (the texts before), the arguments laid (ClArg), and callC_sound. -/
import Derived.Test.YtbdokmhibgpjhaaRows
import Derived.Test.YtbdokmhibgpjhaaClH
set_option linter.all false
open Go Go.Cl Go.Proofs
namespace Go.Cl.A
variable {σ : Sums}

def bc (l : List Nat) : List CV := l.map fun b => .int .u8 (Int.ofNat b)
theorem bc_len (l : List Nat) : (bc l).length = l.length := by simp [bc]
theorem bc_app (a b : List Nat) : bc (a ++ b) = bc a ++ bc b := by simp [bc]
theorem bc_one (l : List Nat) : (bc l).all CV.one = true := List.all_eq_true.2 fun x hx => by
  obtain ⟨b, _, rfl⟩ := List.mem_map.1 hx; rfl

structure WrAt (h : H) (w lid : Nat) (failed : Bool) (bs : List Nat) : Prop where
  lt : w < h.nx
  ne : bs.length ≠ 0 → w ≠ lid
  blk : ∃ b v, h.blk w = some b ∧ b.ro = false ∧ b.n = 2 ∧ b.get 0 = some v ∧ b.get 1 = some (.bool failed) ∧ Lst h 1 v lid bs.length (bc bs)

structure WFr (h h' : H) (w lid : Nat) : Prop where
  nx : h.nx ≤ h'.nx
  gn : h'.gn = h.gn
  old : ∀ id, id < h.nx → id ≠ w → id ≠ lid → h'.t.get id = h.t.get id
theorem WrAt.ext' {h h' : H} {w lid : Nat} {fl : Bool} {bs : List Nat} (A : WrAt h w lid fl bs) (e : Ext h h') : WrAt h' w lid fl bs := by
  obtain ⟨b, v, hb, hro, hbn, h0, h1, hl⟩ := A.blk
  exact ⟨Nat.lt_of_lt_of_le A.lt e.nx, A.ne, b, v, (e.blk A.lt).trans hb, hro, hbn, h0, h1, hl.ext e⟩
theorem WrAt.unlo {h : H} {w lid : Nat} {fl : Bool} {bs : List Nat} (A : WrAt h.lo w lid fl bs) : WrAt h w lid fl bs := by
  obtain ⟨b, v, hb, hro, hbn, h0, h1, hl⟩ := A.blk
  exact ⟨A.lt, A.ne, b, v, hb, hro, hbn, h0, h1, hl.mono (Nat.le_refl _) fun _ => rfl⟩
theorem WFr.refl (h : H) (w lid : Nat) : WFr h h w lid := ⟨Nat.le_refl _, rfl, fun _ _ _ _ => rfl⟩

theorem wsize_run (hσ : ∀ f a h, f ≠ 28 → σ f a h = none) (h : H) (n : Int) : (lim Try.prog σ).call 62 [.int .i64 n] h = some (.bool (decide (n = 1 ∨ n = 2 ∨ n = 4 ∨ n = 8)), none) := by
  rw [call_eq (hσ _ _ _ (by decide)) fn_62 rfl rfl, Try.ntmps62, Try.results62]
  by_cases h1 : n = 1
  · subst h1; simp only [go_sem, Nat.reduceLT, Nat.reduceLeDiff, Nat.reduceEqDiff, Nat.reduceAdd, Nat.reduceSub, Nat.reduceMul, reduceCtorEq, Int.reduceBEq, Int.reduceLT, Int.reduceLE, Int.reduceAdd, Int.reduceSub, Int.reduceEq, Int.reduceNeg, Int.reduceToNat, Int.reduceGT, Int.reduceGE, true_or]; rw [fin_q _ _ _ rfl rfl]
  by_cases h2 : n = 2
  · subst h2; simp only [go_sem, Nat.reduceLT, Nat.reduceLeDiff, Nat.reduceEqDiff, Nat.reduceAdd, Nat.reduceSub, Nat.reduceMul, reduceCtorEq, Int.reduceBEq, Int.reduceLT, Int.reduceLE, Int.reduceAdd, Int.reduceSub, Int.reduceEq, Int.reduceNeg, Int.reduceToNat, Int.reduceGT, Int.reduceGE, true_or, or_true]; rw [fin_q _ _ _ rfl rfl]
  by_cases h4 : n = 4
  · subst h4; simp only [go_sem, Nat.reduceLT, Nat.reduceLeDiff, Nat.reduceEqDiff, Nat.reduceAdd, Nat.reduceSub, Nat.reduceMul, reduceCtorEq, Int.reduceBEq, Int.reduceLT, Int.reduceLE, Int.reduceAdd, Int.reduceSub, Int.reduceEq, Int.reduceNeg, Int.reduceToNat, Int.reduceGT, Int.reduceGE, true_or, or_true]; rw [fin_q _ _ _ rfl rfl]
  by_cases h8 : n = 8
  · subst h8; simp only [go_sem, Nat.reduceLT, Nat.reduceLeDiff, Nat.reduceEqDiff, Nat.reduceAdd, Nat.reduceSub, Nat.reduceMul, reduceCtorEq, Int.reduceBEq, Int.reduceLT, Int.reduceLE, Int.reduceAdd, Int.reduceSub, Int.reduceEq, Int.reduceNeg, Int.reduceToNat, Int.reduceGT, Int.reduceGE, true_or, or_true]; rw [fin_q _ _ _ rfl rfl]
  simp only [go_sem, Nat.reduceLT, Nat.reduceLeDiff, Nat.reduceEqDiff, Nat.reduceAdd, Nat.reduceSub, Nat.reduceMul, reduceCtorEq, Int.reduceBEq, Int.reduceLT, Int.reduceLE, Int.reduceAdd, Int.reduceSub, Int.reduceEq, Int.reduceNeg, Int.reduceToNat, Int.reduceGT, Int.reduceGE, h1, h2, h4, h8, or_self]
  rw [fin_q _ _ _ rfl rfl]

/-- a digit, from the highest one -/
def dig (n k j : Nat) : Nat := n / 2 ^ (8 * (k - 1 - j)) % 256
def be (n k : Nat) : List Nat := (List.range k).map (dig n k)

/-! ### slices of bytes, whosesoever -/
def BSl (h : H) (v : CV) (cs : List CV) : Prop := (cs = [] ∧ v = .nils) ∨ (cs = [] ∧ ∃ id, v = .sl0 id 0 0 0) ∨ ∃ id off c b, v = .sl id off cs.length c ∧ id < h.nx ∧ h.blk id = some b ∧ b.loadN off cs.length = some cs
theorem BSl.ext {h h' : H} {v : CV} {cs : List CV} (B : BSl h v cs) (e : Ext h h') : BSl h' v cs := by
  rcases B with h1 | h1 | ⟨id, off, c, b, h1, h2, h3, h4⟩
  · exact .inl h1
  · exact .inr (.inl h1)
  · exact .inr (.inr ⟨id, off, c, b, h1, Nat.lt_of_lt_of_le h2 e.nx, (e.blk h2).trans h3, h4⟩)
theorem BSl.len {h : H} {v : CV} {cs : List CV} (B : BSl h v cs) (h' : H) : builtinT Try.prog h' .len [67] [v] = some (.val (.int .i64 (Int.ofNat cs.length))) := by
  rcases B with ⟨rfl, rfl⟩ | ⟨rfl, id, rfl⟩ | ⟨id, off, c, b, rfl, _⟩ <;> simp [builtinT, Try.underlying67, lenC]
theorem BSl.one {h : H} {v : CV} {cs : List CV} (B : BSl h v cs) : v.one = true ∧ v.cells = [v] := by
  rcases B with ⟨rfl, rfl⟩ | ⟨rfl, id, rfl⟩ | ⟨id, off, c, b, rfl, _⟩ <;> exact ⟨rfl, rfl⟩
theorem lst_bsl {h : H} {v : CV} {id n : Nat} {cs : List CV} (l : Lst h 1 v id n cs) : BSl h v cs := by
  have hl := l.len
  rcases l.val with ⟨h0, rfl⟩ | ⟨h0, rfl, h1, b, h2, h3, h4, h5⟩
  · subst h0; left; exact ⟨List.length_eq_zero_iff.1 (by simpa using hl), rfl⟩
  · right; right; refine ⟨id, 0, _, b, by rw [hl, Nat.mul_one], h1, h2, loadN_of _ _ _ rfl fun i v hv => by rw [Nat.zero_add, h5, hv]⟩
theorem app_67_sl0 (h : H) (s : CV) (id : Nat) : builtinT Try.prog h .append [67, 67] [s, .sl0 id 0 0 0] = uv (appS h 1 1 1 s 0 (some [])) := by kernel_rfl
theorem BSl.app {h : H} {v : CV} {cs : List CV} (B : BSl h v cs) (s : CV) : builtinT Try.prog h .append [67, 67] [s, v] = uv (appS h 1 1 1 s cs.length (some cs)) := by
  rcases B with ⟨rfl, rfl⟩ | ⟨rfl, id, rfl⟩ | ⟨id, off, c, b, rfl, h1, h2, h3⟩
  · rw [app_67_n, ap_67_n]; rfl
  · exact app_67_sl0 _ _ _
  · rw [app_67, ap_67, firstC_sl, h2, bind_some', Nat.mul_one, h3]
theorem bytesOf_bc : ∀ bs : List Nat, (∀ b ∈ bs, b < 256) → bytesOf (bc bs) = some bs
  | [], _ => rfl
  | b :: bs, h => by
    have := bytesOf_bc bs fun x hx => h x (List.mem_cons_of_mem _ hx)
    rw [bc] at this
    simp only [bc, bytesOf, List.map_cons, Int.ofNat_eq_natCast, Int.toNat_natCast] at this ⊢
    rw [this]; simp [blt_eq', h b List.mem_cons_self]
theorem BSl.str {h : H} {v : CV} {bs : List Nat} (B : BSl h v (bc bs)) (hb : ∀ b ∈ bs, b < 256) : convT Try.prog h 67 9 v = some (.val (.str bs)) := by
  rcases B with ⟨e, rfl⟩ | ⟨e, id, rfl⟩ | ⟨id, off, c, b, rfl, h1, h2, h3⟩
  · have : bs = [] := by simpa [bc] using e
    subst this; rw [cv_67_9_n]
  · have : bs = [] := by simpa [bc] using e
    subst this; rw [cv_67_9_z]
  · rw [cv_67_9, h2]
    show (b.loadN _ _).bind _ = _
    rw [h3]
    simp [bytesOf_bc _ hb]

/-- what a growing leaves -/
structure AppFr (h h' : H) (lid n lid' m : Nat) : Prop where
  nx : h.nx ≤ h'.nx
  gn : h'.gn = h.gn
  old : ∀ k, k < h.nx → (n ≠ 0 → k ≠ lid) → h'.t.get k = h.t.get k
  id : (lid' = lid ∧ m = 0) ∨ h.nx ≤ lid'

theorem app_any {h : H} {v : CV} {id n : Nat} {cs : List CV} (l : Lst h 1 v id n cs) {new : List CV} (ho : new.all CV.one = true) (hr : n + new.length ≤ 70368744177664) :
    ∃ v' id' h', appS h 1 1 1 v new.length (some new) = some (v', h') ∧ Lst h' 1 v' id' (n + new.length) (cs ++ new) ∧ AppFr h h' id n id' new.length ∧ h'.low ≤ h.low := by
  by_cases h0 : new = []
  · subst h0
    have hg : (Nat.blt 0 1 && Nat.ble ((n + 0) * 1) 70368744177664 && Nat.ble (n + 0) 70368744177664 && Nat.beq 1 1 && Nat.beq ([] : List CV).length (0 * 1) && ([] : List CV).all CV.one) = true := by
      simp only [blt_eq', ble_eq', beq_eq', Bool.and_eq_true, decide_eq_true_eq]
      simp at hr
      simp; omega
    rcases l.val with ⟨rfl, rfl⟩ | ⟨hn, rfl, hid, b, hb, hro, hbn, hbg⟩
    · refine ⟨.nils, id, h, ?_, by simpa using l, ⟨Nat.le_refl _, rfl, fun _ _ _ => rfl, .inl ⟨rfl, rfl⟩⟩, Nat.le_refl _⟩
      unfold appS
      rw [lenC_nils, bind_some', bind_some']
      rfl
    · refine ⟨.sl id 0 n (.opn 1), id, h.put id (.cells b), ?_, ?_, ⟨Nat.le_refl _, rfl, fun k _ hk => put_get_ne _ _ _ _ (hk (by omega)), .inl ⟨rfl, rfl⟩⟩, Nat.min_le_left _ _⟩
      · unfold appS
        rw [lenC_sl, bind_some', bind_some']
        show cond (Nat.blt 0 1 && Nat.ble ((n + 0) * 1) 70368744177664 && Nat.ble (n + 0) 70368744177664 && Nat.beq 1 1 && Nat.beq ([] : List CV).length (0 * 1) && ([] : List CV).all CV.one) _ _ = _
        rw [hg, cond_true]
        dsimp only [List.length_nil]
        rw [beq_eq', decide_eq_true rfl, cond_true, hb, bind_some', hro, cond_false, ble_eq', decide_eq_true (by omega), cond_true, storeN_nil]
        rfl
      · simp only [List.length_nil, Nat.add_zero, List.append_nil]
        exact ⟨l.len, .inr ⟨hn, rfl, hid, b, put_blk_same _ _ _, hro, hbn, hbg⟩⟩
  · have hm : 0 < new.length := List.length_pos_iff.2 h0
    obtain ⟨h', e, l', h1, h2, h3, h4, _⟩ := app_Lst (by_ := 1) (zl := 1) l hm (new := new) (by simp) ho rfl (by decide) (by omega) hr
    exact ⟨_, _, h', e, l', ⟨by omega, h2, h3, .inr (Nat.le_refl _)⟩, h4⟩

theorem appb_step {β : Type} {Q : Option β → Prop} {X : H} {s v : CV} {lid n : Nat} {old cs : List CV} {K : Out → Option β} (l : Lst X 1 s lid n old) (B : BSl X v cs) (ho : cs.all CV.one = true) (hr : n + cs.length ≤ 70368744177664)
    (k : ∀ s' lid' h', Lst h' 1 s' lid' (n + cs.length) (old ++ cs) → AppFr X h' lid n lid' cs.length → h'.low ≤ X.low → Q (K (.upd s' h'))) : Q (@thn _ β (builtinT Try.prog X .append [67, 67] [s, v]) ⟨K⟩) := by
  obtain ⟨v', id', h', e, l', f, hlow⟩ := app_any l ho hr
  rw [B.app, e]
  exact k _ _ _ l' f hlow

theorem lst_beq {h : H} {size : Nat} {v : CV} {id n : Nat} {cs : List CV} (l : Lst h size v id n cs) : beqC v v = true := by
  rcases l.val with ⟨_, rfl⟩ | ⟨_, rfl, _⟩
  · rfl
  · exact beqC_sl _ _ _ _
/-! ### the writer's methods -/
theorem WFr.up {a b : H} {w l : Nat} (x : WFr a b w l) (m : Nat) : WFr a (b.up m) w l := ⟨x.nx, x.gn, x.old⟩
theorem WrAt.up {h : H} {w lid : Nat} {fl : Bool} {bs : List Nat} (A : WrAt h w lid fl bs) (m : Nat) : WrAt (h.up m) w lid fl bs := A.ext' (Ext.up h m)
theorem WFr.trans {a b c : H} {w l l' : Nat} (x : WFr a b w l) (y : WFr b c w l') (hl : l' = l ∨ a.nx ≤ l') : WFr a c w l :=
  ⟨Nat.le_trans x.nx y.nx, y.gn.trans x.gn, fun k h1 h2 h3 => by
    rw [y.old k (Nat.lt_of_lt_of_le h1 x.nx) h2 (by omega)]; exact x.old k h1 h2 h3⟩

/-- a writer's state behind so much -/
def wput (s : Bool × List Nat) (p : Option (List Nat)) : Bool × List Nat := if s.1 then s else match p with | none => (true, s.2) | some l => (false, s.2 ++ l)

/-- what is handed on was changed below -/
def Lw (h : H) (w : Nat) (x : Option H) : Prop := ∀ h1, x = some h1 → h1.low ≤ w ∧ h1.low ≤ h.low
theorem Lw.none (h : H) (w : Nat) : Lw h w none := fun _ e => by cases e
theorem Lw.fin (h s : H) {w : Nat} (e : s.low ≤ w) : Lw h w (some (s.up (min h.low s.low))) := fun h1 q => by
  cases q; rw [up_low]; omega
def WOk (h : H) (w lid : Nat) (s : Bool × List Nat) (r : Option (CV × Option H)) : Prop :=
  ∃ x lid', r = some (.ptr w 0, x) ∧ WrAt (x.getD h) w lid' s.1 s.2 ∧ WFr h (x.getD h) w lid ∧ (lid' = lid ∨ h.nx ≤ lid') ∧ Lw h w x ∧ (x = none → s.1 = true)

def sizeOk (n : Int) : Bool := decide (n = 1 ∨ n = 2 ∨ n = 4 ∨ n = 8)
def numB (n : Nat) (k : Int) : Option (List Nat) := if sizeOk k then (if n / 256 ^ k.toNat = 0 then some (be n k.toNat) else none) else none

set_option maxRecDepth 100000 in
theorem number_run (hσ : ∀ f a h, f ≠ 28 → σ f a h = none) {h : H} {w lid : Nat} {fl : Bool} {bs : List Nat} (A : WrAt h w lid fl bs) (n : Nat) (hn : n < 2 ^ 64) (k : Int) (room : bs.length ≤ 1000000) :
    WOk h w lid (wput (fl, bs) (numB n k)) ((lim Try.prog σ).call 52 [.ptr w 0, .int .u64 (Int.ofNat n), .int .i64 k] h) := by
  obtain ⟨b, v, hb, hro, hbn, h0, h1, hl⟩ := A.blk
  have hw := wsize_run hσ h.lo k
  rw [call_eq (hσ _ _ _ (by decide)) fn_52 rfl rfl, Try.ntmps52, Try.results52]
  have hlt := A.lt
  cases fl
  · by_cases hs : k = 1 ∨ k = 2 ∨ k = 4 ∨ k = 8
    · rw [decide_eq_true hs] at hw
      obtain ⟨K, rfl, hK, hK8⟩ : ∃ K : Nat, k = Int.ofNat K ∧ 1 ≤ K ∧ K ≤ 8 := by
        rcases hs with rfl | rfl | rfl | rfl
        · exact ⟨1, rfl, by decide, by decide⟩
        · exact ⟨2, rfl, by decide, by decide⟩
        · exact ⟨4, rfl, by decide, by decide⟩
        · exact ⟨8, rfl, by decide, by decide⟩
      have e1 : IntKind.wrap .i64 (8 * Int.ofNat K) = Int.ofNat (8 * K) := by
        rw [wrap_i64 (by simp; omega) (by simp; omega)]; simp
      have e2 : IntKind.wrap .i64 (Int.ofNat K - 1) = Int.ofNat K - 1 := by
        rw [wrap_i64 (by simp; omega) (by simp; omega)]
      have e3 : 2 ^ (8 * K) = 256 ^ K := by rw [Nat.pow_mul]
      have hmin : min (8 * K) 64 = 8 * K := by omega
      have hn0 : numB n (Int.ofNat K) = if n / 256 ^ K = 0 then some (be n K) else none := by
        unfold numB
        rw [show sizeOk (Int.ofNat K) = true from decide_eq_true hs]
        rfl
      by_cases hz : n / 256 ^ K = 0
      · have hput : wput (false, bs) (numB n (Int.ofNat K)) = (false, bs ++ be n K) := by rw [hn0, if_pos hz]; rfl
        rw [hput]
        have hfit : Int.ofNat K < 8 ∨ ¬ Int.ofNat K < 8 := Classical.em _
        have hz' : Int.ofNat (n / 2 ^ (8 * K)) = 0 := by rw [e3, hz]; rfl
        rcases hfit with h8 | h8
        case' inl => simp only [go_sem, Nat.reduceLT, Nat.reduceLeDiff, Nat.reduceEqDiff, Nat.reduceAdd, Nat.reduceSub, Nat.reduceMul, reduceCtorEq, Int.reduceBEq, Int.reduceLT, Int.reduceLE, Int.reduceAdd, Int.reduceSub, Int.reduceEq, Int.reduceNeg, Int.reduceToNat, Int.reduceGT, Int.reduceGE, hw, hb, h0, h1, hbn, hro, bin_shr, fdiv_nat, e1, e2, isW_und, h8, IntKind.bits, hmin, hz']
        case' inr => simp only [go_sem, Nat.reduceLT, Nat.reduceLeDiff, Nat.reduceEqDiff, Nat.reduceAdd, Nat.reduceSub, Nat.reduceMul, reduceCtorEq, Int.reduceBEq, Int.reduceLT, Int.reduceLE, Int.reduceAdd, Int.reduceSub, Int.reduceEq, Int.reduceNeg, Int.reduceToNat, Int.reduceGT, Int.reduceGE, hw, hb, h0, h1, hbn, hro, bin_shr, fdiv_nat, e1, e2, isW_und, h8]
        all_goals
          refine loop_ind (Q := WOk h w lid (false, bs ++ be n K)) (fun i env h' => evT env 0 = .ptr w 0 ∧ evT env 1 = .int .u64 (Int.ofNat n) ∧ evT env 7 = .int .i64 (Int.ofNat K - 1 - Int.ofNat i) ∧ ∃ lid', WrAt h' w lid' false (bs ++ (be n K).take i) ∧ WFr h h' w lid ∧ (lid' = lid ∨ h.nx ≤ lid') ∧ (0 < i → h'.low ≤ w)) K 0 ?_ (Nat.zero_le _) ?_ ?_
          · refine ⟨by simp only [go_sem, Nat.reduceLT, Nat.reduceLeDiff, Nat.reduceEqDiff, Nat.reduceAdd, Nat.reduceSub, Nat.reduceMul, reduceCtorEq, Int.reduceBEq, Int.reduceLT, Int.reduceLE, Int.reduceAdd, Int.reduceSub, Int.reduceEq, Int.reduceNeg, Int.reduceToNat, Int.reduceGT, Int.reduceGE], by simp only [go_sem, Nat.reduceLT, Nat.reduceLeDiff, Nat.reduceEqDiff, Nat.reduceAdd, Nat.reduceSub, Nat.reduceMul, reduceCtorEq, Int.reduceBEq, Int.reduceLT, Int.reduceLE, Int.reduceAdd, Int.reduceSub, Int.reduceEq, Int.reduceNeg, Int.reduceToNat, Int.reduceGT, Int.reduceGE], ?_, lid, ?_, ⟨Nat.le_refl _, rfl, fun _ _ _ _ => rfl⟩, .inl rfl, fun h => absurd h (by decide)⟩
            · simp only [go_sem, Nat.reduceLT, Nat.reduceLeDiff, Nat.reduceEqDiff, Nat.reduceAdd, Nat.reduceSub, Nat.reduceMul, reduceCtorEq, Int.reduceBEq, Int.reduceLT, Int.reduceLE, Int.reduceAdd, Int.reduceSub, Int.reduceEq, Int.reduceNeg, Int.reduceToNat, Int.reduceGT, Int.reduceGE]; congr 1; simp
            · simp only [List.take_zero, List.append_nil]; exact A.ext' (Ext.lo h)
          · rintro i env h' ⟨q0, q1, q7, lid', A', F', hl', _⟩ hi next
            obtain ⟨b', v', hb', hro', hbn', h0', h1', hls⟩ := A'.blk
            obtain ⟨j, hj⟩ : ∃ j, K - 1 - i = j := ⟨_, rfl⟩
            have q7' : evT env 7 = .int .i64 (Int.ofNat j) := by rw [q7]; congr 1; simp; omega
            have c1 : Int.ofNat j ≥ 0 := Int.natCast_nonneg _
            have c2 : IntKind.wrap .i64 (8 * Int.ofNat j) = Int.ofNat (8 * j) := by
              rw [wrap_i64 (by simp; omega) (by simp; omega)]; simp
            simp only [go_sem, Nat.reduceLT, Nat.reduceLeDiff, Nat.reduceEqDiff, Nat.reduceAdd, Nat.reduceSub, Nat.reduceMul, reduceCtorEq, Int.reduceBEq, Int.reduceLT, Int.reduceLE, Int.reduceAdd, Int.reduceSub, Int.reduceEq, Int.reduceNeg, Int.reduceToNat, Int.reduceGT, Int.reduceGE, q0, q1, q7', c1, c2, hb', h0', h1', hro', hbn', bin_shr, fdiv_nat, wrap_u8]
            rw [cnd_closed]
            rotate_left
            · kernel_rfl
            simp only [go_sem, Nat.reduceLT, Nat.reduceLeDiff, Nat.reduceEqDiff, Nat.reduceAdd, Nat.reduceSub, Nat.reduceMul, reduceCtorEq, Int.reduceBEq, Int.reduceLT, Int.reduceLE, Int.reduceAdd, Int.reduceSub, Int.reduceEq, Int.reduceNeg, Int.reduceToNat, Int.reduceGT, Int.reduceGE, q0, q1, q7', c1, c2, hb', h0', h1', hro', hbn', bin_shr, fdiv_nat, wrap_u8]
            have hlen : (bs ++ (be n K).take i).length ≤ 1000008 := by simp [be]; omega
            have hlt' := A'.lt
            have hnw := A'.ne
            refine app_step (Q := WOk h w lid (false, bs ++ be n K)) (m := 1) (by_ := 1) (hls.ext (Ext.alloc _ _)) (by decide) rfl rfl rfl (by decide) (by omega) (by omega) ?_
            intro h2 l2 hnx2 hgn2 hold2 hlow2 _
            have hb2 := blk_eq (hold2 w (by simp only [go_sem, Nat.reduceLT, Nat.reduceLeDiff, Nat.reduceEqDiff, Nat.reduceAdd, Nat.reduceSub, Nat.reduceMul, reduceCtorEq, Int.reduceBEq, Int.reduceLT, Int.reduceLE, Int.reduceAdd, Int.reduceSub, Int.reduceEq, Int.reduceNeg, Int.reduceToNat, Int.reduceGT, Int.reduceGE]; omega) fun q e => hnw (by omega) e)
            have hne1 : w ≠ h'.nx := by omega
            simp only [go_sem, Nat.reduceLT, Nat.reduceLeDiff, Nat.reduceEqDiff, Nat.reduceAdd, Nat.reduceSub, Nat.reduceMul, reduceCtorEq, Int.reduceBEq, Int.reduceLT, Int.reduceLE, Int.reduceAdd, Int.reduceSub, Int.reduceEq, Int.reduceNeg, Int.reduceToNat, Int.reduceGT, Int.reduceGE, hne1] at l2 hnx2 hgn2 hold2 hlow2 hb2
            rw [hb'] at hb2
            have c3 : IntKind.wrap .i64 (Int.ofNat j - 1) = Int.ofNat K - 1 - Int.ofNat (i + 1) := by
              rw [wrap_i64 (by simp; omega) (by simp; omega)]; simp; omega
            simp only [go_sem, Nat.reduceLT, Nat.reduceLeDiff, Nat.reduceEqDiff, Nat.reduceAdd, Nat.reduceSub, Nat.reduceMul, reduceCtorEq, Int.reduceBEq, Int.reduceLT, Int.reduceLE, Int.reduceAdd, Int.reduceSub, Int.reduceEq, Int.reduceNeg, Int.reduceToNat, Int.reduceGT, Int.reduceGE, q0, q1, q7', c1, c2, c3, hb', hb2, h0', h1', hro', hbn', l2.one, hne1, bin_shr, fdiv_nat, wrap_u8, lst_beq hls]
            rw [cnd_closed]
            rotate_left
            · kernel_rfl
            simp only [go_sem, Nat.reduceLT, Nat.reduceLeDiff, Nat.reduceEqDiff, Nat.reduceAdd, Nat.reduceSub, Nat.reduceMul, reduceCtorEq, Int.reduceBEq, Int.reduceLT, Int.reduceLE, Int.reduceAdd, Int.reduceSub, Int.reduceEq, Int.reduceNeg, Int.reduceToNat, Int.reduceGT, Int.reduceGE, q0, q1, q7', c1, c2, c3, hb', hb2, h0', h1', hro', hbn', l2.one, hne1, bin_shr, fdiv_nat, wrap_u8, lst_beq hls]
            rw [cond_al (i := 4) (d := [10, 11, 14])]
            rotate_left
            · kernel_rfl
            simp only [go_sem, Nat.reduceLT, Nat.reduceLeDiff, Nat.reduceEqDiff, Nat.reduceAdd, Nat.reduceSub, Nat.reduceMul, reduceCtorEq, Int.reduceBEq, Int.reduceLT, Int.reduceLE, Int.reduceAdd, Int.reduceSub, Int.reduceEq, Int.reduceNeg, Int.reduceToNat, Int.reduceGT, Int.reduceGE, q0, q1, q7', c1, c2, c3, hb', hb2, h0', h1', hro', hbn', l2.one, hne1, bin_shr, fdiv_nat, wrap_u8, lst_beq hls]
            refine next _ _ ⟨by simp only [go_sem, Nat.reduceLT, Nat.reduceLeDiff, Nat.reduceEqDiff, Nat.reduceAdd, Nat.reduceSub, Nat.reduceMul, reduceCtorEq, Int.reduceBEq, Int.reduceLT, Int.reduceLE, Int.reduceAdd, Int.reduceSub, Int.reduceEq, Int.reduceNeg, Int.reduceToNat, Int.reduceGT, Int.reduceGE, q0], by simp only [go_sem, Nat.reduceLT, Nat.reduceLeDiff, Nat.reduceEqDiff, Nat.reduceAdd, Nat.reduceSub, Nat.reduceMul, reduceCtorEq, Int.reduceBEq, Int.reduceLT, Int.reduceLE, Int.reduceAdd, Int.reduceSub, Int.reduceEq, Int.reduceNeg, Int.reduceToNat, Int.reduceGT, Int.reduceGE, q1], by simp only [go_sem, Nat.reduceLT, Nat.reduceLeDiff, Nat.reduceEqDiff, Nat.reduceAdd, Nat.reduceSub, Nat.reduceMul, reduceCtorEq, Int.reduceBEq, Int.reduceLT, Int.reduceLE, Int.reduceAdd, Int.reduceSub, Int.reduceEq, Int.reduceNeg, Int.reduceToNat, Int.reduceGT, Int.reduceGE], h'.nx + 1, ?_, ?_, .inr (by have := F'.nx; omega), fun _ => ?_⟩
            · simp only [go_sem, Nat.reduceLT, Nat.reduceLeDiff, Nat.reduceEqDiff, Nat.reduceAdd, Nat.reduceSub, Nat.reduceMul, reduceCtorEq, Int.reduceBEq, Int.reduceLT, Int.reduceLE, Int.reduceAdd, Int.reduceSub, Int.reduceEq, Int.reduceNeg, Int.reduceToNat, Int.reduceGT, Int.reduceGE]
              have hdig : n / 2 ^ min (8 * j) 64 % 256 = dig n K i := by
                unfold dig; rw [hj, show min (8 * j) 64 = 8 * j by omega]
              have htk : bs ++ (be n K).take (i + 1) = (bs ++ (be n K).take i) ++ [dig n K i] := by
                rw [List.append_assoc]; congr 1
                rw [List.take_add_one]
                simp [be, hi]
              rw [hdig] at l2
              rw [htk]
              refine ⟨by first | (simp only [go_sem, Nat.reduceLT, Nat.reduceLeDiff, Nat.reduceEqDiff, Nat.reduceAdd, Nat.reduceSub, Nat.reduceMul, reduceCtorEq, Int.reduceBEq, Int.reduceLT, Int.reduceLE, Int.reduceAdd, Int.reduceSub, Int.reduceEq, Int.reduceNeg, Int.reduceToNat, Int.reduceGT, Int.reduceGE]; omega) | simp only [go_sem, Nat.reduceLT, Nat.reduceLeDiff, Nat.reduceEqDiff, Nat.reduceAdd, Nat.reduceSub, Nat.reduceMul, reduceCtorEq, Int.reduceBEq, Int.reduceLT, Int.reduceLE, Int.reduceAdd, Int.reduceSub, Int.reduceEq, Int.reduceNeg, Int.reduceToNat, Int.reduceGT, Int.reduceGE], fun _ => (by omega : w ≠ h'.nx + 1), _, _, put_blk_same _ _ _, by simp only [go_sem, Nat.reduceLT, Nat.reduceLeDiff, Nat.reduceEqDiff, Nat.reduceAdd, Nat.reduceSub, Nat.reduceMul, reduceCtorEq, Int.reduceBEq, Int.reduceLT, Int.reduceLE, Int.reduceAdd, Int.reduceSub, Int.reduceEq, Int.reduceNeg, Int.reduceToNat, Int.reduceGT, Int.reduceGE, hro'], by simp only [go_sem, Nat.reduceLT, Nat.reduceLeDiff, Nat.reduceEqDiff, Nat.reduceAdd, Nat.reduceSub, Nat.reduceMul, reduceCtorEq, Int.reduceBEq, Int.reduceLT, Int.reduceLE, Int.reduceAdd, Int.reduceSub, Int.reduceEq, Int.reduceNeg, Int.reduceToNat, Int.reduceGT, Int.reduceGE, hbn'], by simp only [go_sem, Nat.reduceLT, Nat.reduceLeDiff, Nat.reduceEqDiff, Nat.reduceAdd, Nat.reduceSub, Nat.reduceMul, reduceCtorEq, Int.reduceBEq, Int.reduceLT, Int.reduceLE, Int.reduceAdd, Int.reduceSub, Int.reduceEq, Int.reduceNeg, Int.reduceToNat, Int.reduceGT, Int.reduceGE, hbn']; rfl, by simp only [go_sem, Nat.reduceLT, Nat.reduceLeDiff, Nat.reduceEqDiff, Nat.reduceAdd, Nat.reduceSub, Nat.reduceMul, reduceCtorEq, Int.reduceBEq, Int.reduceLT, Int.reduceLE, Int.reduceAdd, Int.reduceSub, Int.reduceEq, Int.reduceNeg, Int.reduceToNat, Int.reduceGT, Int.reduceGE, h1'], ?_⟩
              rw [show (bs ++ List.take i (be n K) ++ [dig n K i]).length = (bs ++ List.take i (be n K)).length + 1 by rw [List.length_append (bs := [dig n K i])]; rfl, bc_app (bs ++ List.take i (be n K))]
              have hne2 : h'.nx + 1 ≠ w := by omega
              exact Lst.mono (h := h2) l2 (by first | (simp only [go_sem, Nat.reduceLT, Nat.reduceLeDiff, Nat.reduceEqDiff, Nat.reduceAdd, Nat.reduceSub, Nat.reduceMul, reduceCtorEq, Int.reduceBEq, Int.reduceLT, Int.reduceLE, Int.reduceAdd, Int.reduceSub, Int.reduceEq, Int.reduceNeg, Int.reduceToNat, Int.reduceGT, Int.reduceGE]; omega) | simp only [go_sem, Nat.reduceLT, Nat.reduceLeDiff, Nat.reduceEqDiff, Nat.reduceAdd, Nat.reduceSub, Nat.reduceMul, reduceCtorEq, Int.reduceBEq, Int.reduceLT, Int.reduceLE, Int.reduceAdd, Int.reduceSub, Int.reduceEq, Int.reduceNeg, Int.reduceToNat, Int.reduceGT, Int.reduceGE]) fun _ => by simp only [go_sem, Nat.reduceLT, Nat.reduceLeDiff, Nat.reduceEqDiff, Nat.reduceAdd, Nat.reduceSub, Nat.reduceMul, reduceCtorEq, Int.reduceBEq, Int.reduceLT, Int.reduceLE, Int.reduceAdd, Int.reduceSub, Int.reduceEq, Int.reduceNeg, Int.reduceToNat, Int.reduceGT, Int.reduceGE, hne2]
            · simp only [go_sem, Nat.reduceLT, Nat.reduceLeDiff, Nat.reduceEqDiff, Nat.reduceAdd, Nat.reduceSub, Nat.reduceMul, reduceCtorEq, Int.reduceBEq, Int.reduceLT, Int.reduceLE, Int.reduceAdd, Int.reduceSub, Int.reduceEq, Int.reduceNeg, Int.reduceToNat, Int.reduceGT, Int.reduceGE]
              refine ⟨by have := F'.nx; simp only [go_sem, Nat.reduceLT, Nat.reduceLeDiff, Nat.reduceEqDiff, Nat.reduceAdd, Nat.reduceSub, Nat.reduceMul, reduceCtorEq, Int.reduceBEq, Int.reduceLT, Int.reduceLE, Int.reduceAdd, Int.reduceSub, Int.reduceEq, Int.reduceNeg, Int.reduceToNat, Int.reduceGT, Int.reduceGE]; omega, by simp only [go_sem, Nat.reduceLT, Nat.reduceLeDiff, Nat.reduceEqDiff, Nat.reduceAdd, Nat.reduceSub, Nat.reduceMul, reduceCtorEq, Int.reduceBEq, Int.reduceLT, Int.reduceLE, Int.reduceAdd, Int.reduceSub, Int.reduceEq, Int.reduceNeg, Int.reduceToNat, Int.reduceGT, Int.reduceGE]; rw [hgn2]; exact F'.gn, fun k k1 k2 k3 => ?_⟩
              have := F'.nx
              rw [put_get_ne _ _ _ _ k2, hold2 k (by omega) (by omega), alloc_get_ne _ _ _ (by omega)]
              exact F'.old k k1 k2 k3
            · simp only [go_sem, Nat.reduceLT, Nat.reduceLeDiff, Nat.reduceEqDiff, Nat.reduceAdd, Nat.reduceSub, Nat.reduceMul, reduceCtorEq, Int.reduceBEq, Int.reduceLT, Int.reduceLE, Int.reduceAdd, Int.reduceSub, Int.reduceEq, Int.reduceNeg, Int.reduceToNat, Int.reduceGT, Int.reduceGE]
              omega
          · rintro env h' ⟨q0, q1, q7, lid', A', F', hl', hlow⟩
            have q7' : evT env 7 = .int .i64 (-1) := by rw [q7]; congr 1; simp; omega
            have htk : (be n K).take K = be n K := List.take_of_length_le (by simp [be])
            simp only [go_sem, Nat.reduceLT, Nat.reduceLeDiff, Nat.reduceEqDiff, Nat.reduceAdd, Nat.reduceSub, Nat.reduceMul, reduceCtorEq, Int.reduceBEq, Int.reduceLT, Int.reduceLE, Int.reduceAdd, Int.reduceSub, Int.reduceEq, Int.reduceNeg, Int.reduceToNat, Int.reduceGT, Int.reduceGE, q0, q1, q7']
            rw [fin_l _ _ _ (Nat.lt_of_le_of_lt (hlow (by omega)) hlt)]
            rw [htk] at A'; exact ⟨_, lid', rfl, A'.up _, F'.up _, hl', Lw.fin _ _ (hlow (by omega)), fun q => by cases q⟩
      · have hput : wput (false, bs) (numB n (Int.ofNat K)) = (true, bs) := by rw [hn0, if_neg hz]; rfl
        rw [hput]
        have h8 : Int.ofNat K < 8 := by
          by_cases q : K = 8
          · subst q; exact absurd (Nat.div_eq_of_lt (by simpa using hn)) hz
          · simp; omega
        have hz' : ¬ Int.ofNat (n / 2 ^ (8 * K)) = 0 := by rw [e3]; intro q; exact hz (Int.ofNat.inj q)
        simp only [go_sem, Nat.reduceLT, Nat.reduceLeDiff, Nat.reduceEqDiff, Nat.reduceAdd, Nat.reduceSub, Nat.reduceMul, reduceCtorEq, Int.reduceBEq, Int.reduceLT, Int.reduceLE, Int.reduceAdd, Int.reduceSub, Int.reduceEq, Int.reduceNeg, Int.reduceToNat, Int.reduceGT, Int.reduceGE, hw, hb, h0, h1, hbn, hro, bin_shr, fdiv_nat, e1, e2, isW_und, h8, IntKind.bits, hmin, hz']
        rw [fin_l _ _ _ (by simp only [go_sem, Nat.reduceLT, Nat.reduceLeDiff, Nat.reduceEqDiff, Nat.reduceAdd, Nat.reduceSub, Nat.reduceMul, reduceCtorEq, Int.reduceBEq, Int.reduceLT, Int.reduceLE, Int.reduceAdd, Int.reduceSub, Int.reduceEq, Int.reduceNeg, Int.reduceToNat, Int.reduceGT, Int.reduceGE]; omega)]
        exact ⟨_, lid, rfl, ⟨A.lt, A.ne, _, _, put_blk_same _ _ _, hro, hbn, by simp only [go_sem, Nat.reduceLT, Nat.reduceLeDiff, Nat.reduceEqDiff, Nat.reduceAdd, Nat.reduceSub, Nat.reduceMul, reduceCtorEq, Int.reduceBEq, Int.reduceLT, Int.reduceLE, Int.reduceAdd, Int.reduceSub, Int.reduceEq, Int.reduceNeg, Int.reduceToNat, Int.reduceGT, Int.reduceGE, h0], by simp only [go_sem, Nat.reduceLT, Nat.reduceLeDiff, Nat.reduceEqDiff, Nat.reduceAdd, Nat.reduceSub, Nat.reduceMul, reduceCtorEq, Int.reduceBEq, Int.reduceLT, Int.reduceLE, Int.reduceAdd, Int.reduceSub, Int.reduceEq, Int.reduceNeg, Int.reduceToNat, Int.reduceGT, Int.reduceGE, hbn], hl.mono (Nat.le_refl _) fun hne => by simp only [go_sem, Nat.reduceLT, Nat.reduceLeDiff, Nat.reduceEqDiff, Nat.reduceAdd, Nat.reduceSub, Nat.reduceMul, reduceCtorEq, Int.reduceBEq, Int.reduceLT, Int.reduceLE, Int.reduceAdd, Int.reduceSub, Int.reduceEq, Int.reduceNeg, Int.reduceToNat, Int.reduceGT, Int.reduceGE, (A.ne hne).symm]⟩, ⟨Nat.le_refl _, rfl, fun k h1 h2 h3 => put_get_ne _ _ _ _ h2⟩, .inl rfl, Lw.fin _ _ (by simp only [go_sem, Nat.reduceLT, Nat.reduceLeDiff, Nat.reduceEqDiff, Nat.reduceAdd, Nat.reduceSub, Nat.reduceMul, reduceCtorEq, Int.reduceBEq, Int.reduceLT, Int.reduceLE, Int.reduceAdd, Int.reduceSub, Int.reduceEq, Int.reduceNeg, Int.reduceToNat, Int.reduceGT, Int.reduceGE]; omega), fun q => by cases q⟩
    · have hput : wput (false, bs) (numB n k) = (true, bs) := by
        unfold numB
        rw [show sizeOk k = false from decide_eq_false hs]; rfl
      rw [decide_eq_false hs] at hw
      simp only [go_sem, Nat.reduceLT, Nat.reduceLeDiff, Nat.reduceEqDiff, Nat.reduceAdd, Nat.reduceSub, Nat.reduceMul, reduceCtorEq, Int.reduceBEq, Int.reduceLT, Int.reduceLE, Int.reduceAdd, Int.reduceSub, Int.reduceEq, Int.reduceNeg, Int.reduceToNat, Int.reduceGT, Int.reduceGE, hw, hb, h0, h1, hbn, hro, isW_und]
      rw [fin_l _ _ _ (by simp only [go_sem, Nat.reduceLT, Nat.reduceLeDiff, Nat.reduceEqDiff, Nat.reduceAdd, Nat.reduceSub, Nat.reduceMul, reduceCtorEq, Int.reduceBEq, Int.reduceLT, Int.reduceLE, Int.reduceAdd, Int.reduceSub, Int.reduceEq, Int.reduceNeg, Int.reduceToNat, Int.reduceGT, Int.reduceGE]; omega), hput]
      exact ⟨_, lid, rfl, ⟨A.lt, A.ne, _, _, put_blk_same _ _ _, hro, hbn, by simp only [go_sem, Nat.reduceLT, Nat.reduceLeDiff, Nat.reduceEqDiff, Nat.reduceAdd, Nat.reduceSub, Nat.reduceMul, reduceCtorEq, Int.reduceBEq, Int.reduceLT, Int.reduceLE, Int.reduceAdd, Int.reduceSub, Int.reduceEq, Int.reduceNeg, Int.reduceToNat, Int.reduceGT, Int.reduceGE, h0], by simp only [go_sem, Nat.reduceLT, Nat.reduceLeDiff, Nat.reduceEqDiff, Nat.reduceAdd, Nat.reduceSub, Nat.reduceMul, reduceCtorEq, Int.reduceBEq, Int.reduceLT, Int.reduceLE, Int.reduceAdd, Int.reduceSub, Int.reduceEq, Int.reduceNeg, Int.reduceToNat, Int.reduceGT, Int.reduceGE, hbn], hl.mono (Nat.le_refl _) fun hne => by simp only [go_sem, Nat.reduceLT, Nat.reduceLeDiff, Nat.reduceEqDiff, Nat.reduceAdd, Nat.reduceSub, Nat.reduceMul, reduceCtorEq, Int.reduceBEq, Int.reduceLT, Int.reduceLE, Int.reduceAdd, Int.reduceSub, Int.reduceEq, Int.reduceNeg, Int.reduceToNat, Int.reduceGT, Int.reduceGE, (A.ne hne).symm]⟩, ⟨Nat.le_refl _, rfl, fun k h1 h2 h3 => put_get_ne _ _ _ _ h2⟩, .inl rfl, Lw.fin _ _ (by simp only [go_sem, Nat.reduceLT, Nat.reduceLeDiff, Nat.reduceEqDiff, Nat.reduceAdd, Nat.reduceSub, Nat.reduceMul, reduceCtorEq, Int.reduceBEq, Int.reduceLT, Int.reduceLE, Int.reduceAdd, Int.reduceSub, Int.reduceEq, Int.reduceNeg, Int.reduceToNat, Int.reduceGT, Int.reduceGE]; omega), fun q => by cases q⟩
  · simp only [go_sem, Nat.reduceLT, Nat.reduceLeDiff, Nat.reduceEqDiff, Nat.reduceAdd, Nat.reduceSub, Nat.reduceMul, reduceCtorEq, Int.reduceBEq, Int.reduceLT, Int.reduceLE, Int.reduceAdd, Int.reduceSub, Int.reduceEq, Int.reduceNeg, Int.reduceToNat, Int.reduceGT, Int.reduceGE, hw, hb, h0, h1, hbn, hro]
    rw [fin_q _ _ _ rfl (by simp only [go_sem, Nat.reduceLT, Nat.reduceLeDiff, Nat.reduceEqDiff, Nat.reduceAdd, Nat.reduceSub, Nat.reduceMul, reduceCtorEq, Int.reduceBEq, Int.reduceLT, Int.reduceLE, Int.reduceAdd, Int.reduceSub, Int.reduceEq, Int.reduceNeg, Int.reduceToNat, Int.reduceGT, Int.reduceGE]; exact decide_eq_true A.lt)]
    exact ⟨_, lid, rfl, A, WFr.refl _ _ _, .inl rfl, Lw.none _ _, fun _ => rfl⟩

theorem be_len (n k : Nat) : (be n k).length = k := by simp [be]

/-- the end of a method that answers its writer, behind a call of another one -/
theorem wok_fin {h : H} {w lid lid' : Nat} {p : Bool × List Nat} {y : Option H} (A : WrAt (y.getD h.lo) w lid' p.1 p.2) (F : WFr h.lo (y.getD h.lo) w lid) (hl : lid' = lid ∨ h.nx ≤ lid') (hw : w < h.nx) (hy : Lw h.lo w y) (h2 : y = none → p.1 = true) :
    WOk h w lid p (some (fin h (y.getD h.lo) (.ptr w 0))) := by
  cases y with
  | none =>
    rw [fin_q h _ _ rfl (by simp only [go_sem, Nat.reduceLT, Nat.reduceLeDiff, Nat.reduceEqDiff, Nat.reduceAdd, Nat.reduceSub, Nat.reduceMul, reduceCtorEq, Int.reduceBEq, Int.reduceLT, Int.reduceLE, Int.reduceAdd, Int.reduceSub, Int.reduceEq, Int.reduceNeg, Int.reduceToNat, Int.reduceGT, Int.reduceGE]; exact decide_eq_true hw)]
    exact ⟨_, lid', rfl, A.unlo, WFr.refl _ _ _, hl, Lw.none _ _, fun _ => h2 rfl⟩
  | some h1 =>
    have q := hy h1 rfl
    rw [Option.getD_some]
    rw [fin_l h _ _ (Nat.lt_of_le_of_lt q.1 hw)]
    exact ⟨_, lid', rfl, A.up _, ⟨F.nx, F.gn, F.old⟩, hl, Lw.fin _ _ q.1, fun q => by cases q⟩

theorem wok_fin2 {h : H} {w lid lid' : Nat} {p : Bool × List Nat} {y z : Option H} (A : WrAt (z.getD (y.getD h.lo)) w lid' p.1 p.2) (F : WFr h.lo (z.getD (y.getD h.lo)) w lid) (hl : lid' = lid ∨ h.nx ≤ lid') (hw : w < h.nx) (hy : Lw h.lo w y) (hz : Lw (y.getD h.lo) w z) (h2 : z = none → p.1 = true) :
    WOk h w lid p (some (fin h (z.getD (y.getD h.lo)) (.ptr w 0))) := by
  cases z with
  | none => exact wok_fin A F hl hw hy fun _ => h2 rfl
  | some b =>
    refine wok_fin (y := some b) A F hl hw (fun h1 e => ?_) fun q => by cases q
    cases e
    have t := hz _ rfl
    cases y with
    | none => exact t
    | some a =>
      have q := hy _ rfl
      rw [Option.getD_some] at t
      exact ⟨by omega, by omega⟩

theorem flag_run (hσ : ∀ f a h, f ≠ 28 → σ f a h = none) {h : H} {w lid : Nat} {fl : Bool} {bs : List Nat} (A : WrAt h w lid fl bs) (b : Bool) (room : bs.length ≤ 1000000) :
    WOk h w lid (wput (fl, bs) (some [if b then 1 else 0])) ((lim Try.prog σ).call 57 [.ptr w 0, .bool b] h) := by
  have e1 : numB 1 1 = some [1] := rfl
  have e0 : numB 0 1 = some [0] := rfl
  rw [call_eq (hσ _ _ _ (by decide)) fn_57 rfl rfl, Try.ntmps57, Try.results57]
  cases b
  · obtain ⟨y, lid2, e, A2, F2, hl2, hy, hy2⟩ := number_run hσ (A.ext' (Ext.lo h)) 0 (by decide) 1 room
    rw [e0] at A2
    have e' : (lim Try.prog σ).call 52 [.ptr w 0, .int .u64 0, .int .i64 1] h.lo = some (.ptr w 0, y) := e
    simp only [go_sem, Nat.reduceLT, Nat.reduceLeDiff, Nat.reduceEqDiff, Nat.reduceAdd, Nat.reduceSub, Nat.reduceMul, reduceCtorEq, Int.reduceBEq, Int.reduceLT, Int.reduceLE, Int.reduceAdd, Int.reduceSub, Int.reduceEq, Int.reduceNeg, Int.reduceToNat, Int.reduceGT, Int.reduceGE, e']
    exact wok_fin A2 F2 hl2 A.lt hy hy2
  · obtain ⟨y, lid2, e, A2, F2, hl2, hy, hy2⟩ := number_run hσ (A.ext' (Ext.lo h)) 1 (by decide) 1 room
    rw [e1] at A2
    have e' : (lim Try.prog σ).call 52 [.ptr w 0, .int .u64 1, .int .i64 1] h.lo = some (.ptr w 0, y) := e
    simp only [go_sem, Nat.reduceLT, Nat.reduceLeDiff, Nat.reduceEqDiff, Nat.reduceAdd, Nat.reduceSub, Nat.reduceMul, reduceCtorEq, Int.reduceBEq, Int.reduceLT, Int.reduceLE, Int.reduceAdd, Int.reduceSub, Int.reduceEq, Int.reduceNeg, Int.reduceToNat, Int.reduceGT, Int.reduceGE, e']
    exact wok_fin A2 F2 hl2 A.lt hy hy2

theorem bytes_run (hσ : ∀ f a h, f ≠ 28 → σ f a h = none) {h : H} {w lid : Nat} {fl : Bool} {bs : List Nat} (A : WrAt h w lid fl bs) {v : CV} {xs : List Nat} (B : BSl h v (bc xs)) (room : bs.length + xs.length ≤ 1000000) :
    WOk h w lid (wput (fl, bs) (some xs)) ((lim Try.prog σ).call 58 [.ptr w 0, v] h) := by
  obtain ⟨b, s, hb, hro, hbn, h0, h1, hl⟩ := A.blk
  have hlt := A.lt
  rw [call_eq (hσ _ _ _ (by decide)) fn_58 rfl rfl, Try.ntmps58, Try.results58]
  cases fl
  · simp only [go_sem, Nat.reduceLT, Nat.reduceLeDiff, Nat.reduceEqDiff, Nat.reduceAdd, Nat.reduceSub, Nat.reduceMul, reduceCtorEq, Int.reduceBEq, Int.reduceLT, Int.reduceLE, Int.reduceAdd, Int.reduceSub, Int.reduceEq, Int.reduceNeg, Int.reduceToNat, Int.reduceGT, Int.reduceGE, hb, h0, h1, hbn, hro]
    refine appb_step (Q := WOk h w lid _) (hl.ext (Ext.lo _)) (B.ext (Ext.lo _)) (bc_one _) (by rw [bc_len]; omega) ?_
    intro s' lid' h' l' f hlow
    have hb2 := blk_eq (f.old w hlt fun q e => A.ne q e)
    simp only [go_sem, Nat.reduceLT, Nat.reduceLeDiff, Nat.reduceEqDiff, Nat.reduceAdd, Nat.reduceSub, Nat.reduceMul, reduceCtorEq, Int.reduceBEq, Int.reduceLT, Int.reduceLE, Int.reduceAdd, Int.reduceSub, Int.reduceEq, Int.reduceNeg, Int.reduceToNat, Int.reduceGT, Int.reduceGE] at hb2 hlow
    simp only [go_sem, Nat.reduceLT, Nat.reduceLeDiff, Nat.reduceEqDiff, Nat.reduceAdd, Nat.reduceSub, Nat.reduceMul, reduceCtorEq, Int.reduceBEq, Int.reduceLT, Int.reduceLE, Int.reduceAdd, Int.reduceSub, Int.reduceEq, Int.reduceNeg, Int.reduceToNat, Int.reduceGT, Int.reduceGE, hb, hb2, h0, h1, hbn, hro, l'.one]
    have hnx := f.nx
    have hid := f.id
    rw [bc_len] at hid
    simp only [go_sem, Nat.reduceLT, Nat.reduceLeDiff, Nat.reduceEqDiff, Nat.reduceAdd, Nat.reduceSub, Nat.reduceMul, reduceCtorEq, Int.reduceBEq, Int.reduceLT, Int.reduceLE, Int.reduceAdd, Int.reduceSub, Int.reduceEq, Int.reduceNeg, Int.reduceToNat, Int.reduceGT, Int.reduceGE] at hnx hid
    have hne : (bs ++ xs).length ≠ 0 → w ≠ lid' := fun q => by
      rcases hid with ⟨r1, r2⟩ | r
      · rw [r1]; exact A.ne (by rw [List.length_append] at q; omega)
      · omega
    rw [fin_l _ _ _ (by simp only [go_sem, Nat.reduceLT, Nat.reduceLeDiff, Nat.reduceEqDiff, Nat.reduceAdd, Nat.reduceSub, Nat.reduceMul, reduceCtorEq, Int.reduceBEq, Int.reduceLT, Int.reduceLE, Int.reduceAdd, Int.reduceSub, Int.reduceEq, Int.reduceNeg, Int.reduceToNat, Int.reduceGT, Int.reduceGE]; omega)]
    refine ⟨_, lid', rfl, WrAt.up ⟨by simp only [go_sem, Nat.reduceLT, Nat.reduceLeDiff, Nat.reduceEqDiff, Nat.reduceAdd, Nat.reduceSub, Nat.reduceMul, reduceCtorEq, Int.reduceBEq, Int.reduceLT, Int.reduceLE, Int.reduceAdd, Int.reduceSub, Int.reduceEq, Int.reduceNeg, Int.reduceToNat, Int.reduceGT, Int.reduceGE]; omega, hne, _, _, put_blk_same _ _ _, by simp only [go_sem, Nat.reduceLT, Nat.reduceLeDiff, Nat.reduceEqDiff, Nat.reduceAdd, Nat.reduceSub, Nat.reduceMul, reduceCtorEq, Int.reduceBEq, Int.reduceLT, Int.reduceLE, Int.reduceAdd, Int.reduceSub, Int.reduceEq, Int.reduceNeg, Int.reduceToNat, Int.reduceGT, Int.reduceGE, hro], by simp only [go_sem, Nat.reduceLT, Nat.reduceLeDiff, Nat.reduceEqDiff, Nat.reduceAdd, Nat.reduceSub, Nat.reduceMul, reduceCtorEq, Int.reduceBEq, Int.reduceLT, Int.reduceLE, Int.reduceAdd, Int.reduceSub, Int.reduceEq, Int.reduceNeg, Int.reduceToNat, Int.reduceGT, Int.reduceGE, hbn], by simp only [go_sem, Nat.reduceLT, Nat.reduceLeDiff, Nat.reduceEqDiff, Nat.reduceAdd, Nat.reduceSub, Nat.reduceMul, reduceCtorEq, Int.reduceBEq, Int.reduceLT, Int.reduceLE, Int.reduceAdd, Int.reduceSub, Int.reduceEq, Int.reduceNeg, Int.reduceToNat, Int.reduceGT, Int.reduceGE, hbn]; rfl, by simp only [go_sem, Nat.reduceLT, Nat.reduceLeDiff, Nat.reduceEqDiff, Nat.reduceAdd, Nat.reduceSub, Nat.reduceMul, reduceCtorEq, Int.reduceBEq, Int.reduceLT, Int.reduceLE, Int.reduceAdd, Int.reduceSub, Int.reduceEq, Int.reduceNeg, Int.reduceToNat, Int.reduceGT, Int.reduceGE, h1]; rfl, ?_⟩ _, WFr.up ⟨by simp only [go_sem, Nat.reduceLT, Nat.reduceLeDiff, Nat.reduceEqDiff, Nat.reduceAdd, Nat.reduceSub, Nat.reduceMul, reduceCtorEq, Int.reduceBEq, Int.reduceLT, Int.reduceLE, Int.reduceAdd, Int.reduceSub, Int.reduceEq, Int.reduceNeg, Int.reduceToNat, Int.reduceGT, Int.reduceGE]; omega, by simp only [go_sem, Nat.reduceLT, Nat.reduceLeDiff, Nat.reduceEqDiff, Nat.reduceAdd, Nat.reduceSub, Nat.reduceMul, reduceCtorEq, Int.reduceBEq, Int.reduceLT, Int.reduceLE, Int.reduceAdd, Int.reduceSub, Int.reduceEq, Int.reduceNeg, Int.reduceToNat, Int.reduceGT, Int.reduceGE]; exact f.gn, fun k k1 k2 k3 => ?_⟩ _, by omega, Lw.fin _ _ (by simp only [go_sem, Nat.reduceLT, Nat.reduceLeDiff, Nat.reduceEqDiff, Nat.reduceAdd, Nat.reduceSub, Nat.reduceMul, reduceCtorEq, Int.reduceBEq, Int.reduceLT, Int.reduceLE, Int.reduceAdd, Int.reduceSub, Int.reduceEq, Int.reduceNeg, Int.reduceToNat, Int.reduceGT, Int.reduceGE]; omega), fun q => by cases q⟩
    · show Lst _ 1 s' lid' (bs ++ xs).length (bc (bs ++ xs))
      rw [List.length_append, bc_app]
      rw [bc_len] at l'
      refine l'.mono (by rw [put_nx]; exact Nat.le_refl _) fun q => ?_
      have : lid' ≠ w := fun e => hne (by rw [List.length_append]; exact q) e.symm
      simp only [go_sem, Nat.reduceLT, Nat.reduceLeDiff, Nat.reduceEqDiff, Nat.reduceAdd, Nat.reduceSub, Nat.reduceMul, reduceCtorEq, Int.reduceBEq, Int.reduceLT, Int.reduceLE, Int.reduceAdd, Int.reduceSub, Int.reduceEq, Int.reduceNeg, Int.reduceToNat, Int.reduceGT, Int.reduceGE, this]
    · rw [put_get_ne _ _ _ _ k2]
      exact f.old k k1 fun _ => k3
  · simp only [go_sem, Nat.reduceLT, Nat.reduceLeDiff, Nat.reduceEqDiff, Nat.reduceAdd, Nat.reduceSub, Nat.reduceMul, reduceCtorEq, Int.reduceBEq, Int.reduceLT, Int.reduceLE, Int.reduceAdd, Int.reduceSub, Int.reduceEq, Int.reduceNeg, Int.reduceToNat, Int.reduceGT, Int.reduceGE, hb, h0, h1, hbn, hro]
    rw [fin_q _ _ _ rfl (by simp only [go_sem, Nat.reduceLT, Nat.reduceLeDiff, Nat.reduceEqDiff, Nat.reduceAdd, Nat.reduceSub, Nat.reduceMul, reduceCtorEq, Int.reduceBEq, Int.reduceLT, Int.reduceLE, Int.reduceAdd, Int.reduceSub, Int.reduceEq, Int.reduceNeg, Int.reduceToNat, Int.reduceGT, Int.reduceGE]; exact decide_eq_true A.lt)]
    exact ⟨_, lid, rfl, A, WFr.refl _ _ _, .inl rfl, Lw.none _ _, fun _ => rfl⟩

theorem nat_wrap {n : Nat} (h : n < 1000000000000) : IntKind.wrap .u64 (Int.ofNat n) = Int.ofNat n := by
  unfold IntKind.wrap
  simp only [IntKind.bits, IntKind.signed, Bool.false_and, show (2 ^ 64 : Int) = 18446744073709551616 from rfl]
  simp; omega

theorem WFr.ext {h0 h h' : H} {w lid : Nat} (F : WFr h h' w lid) (E : Ext h0 h) (hw : h0.nx ≤ w) (hl : h0.nx ≤ lid) : Ext h0 h' :=
  ⟨Nat.le_trans E.nx F.nx, F.gn.trans E.gn, fun k hk => (F.old k (Nat.lt_of_lt_of_le hk E.nx) (by omega) (by omega)).trans (E.old k hk)⟩

theorem blob_run (hσ : ∀ f a h, f ≠ 28 → σ f a h = none) {h0' h : H} {w lid : Nat} {fl : Bool} {bs : List Nat} (A : WrAt h w lid fl bs) {v : CV} {xs : List Nat} (B : BSl h0' v (bc xs)) (E : Ext h0' h) (hw' : h0'.nx ≤ w) (hl' : h0'.nx ≤ lid) (room : bs.length + xs.length ≤ 900000) (h2 : xs.length ≤ 65535) :
    WOk h w lid (wput (fl, bs) (some (be xs.length 2 ++ xs))) ((lim Try.prog σ).call 53 [.ptr w 0, v] h) := by
  obtain ⟨b, s, hb, hro, hbn, h0, h1, hl⟩ := A.blk
  have hlt := A.lt
  rw [call_eq (hσ _ _ _ (by decide)) fn_53 rfl rfl, Try.ntmps53, Try.results53]
  cases fl
  · have q1 : ¬ Int.ofNat (bc xs).length > 65535 := by rw [bc_len]; simp; omega
    have q2 : IntKind.wrap .u64 (Int.ofNat (bc xs).length) = Int.ofNat xs.length := by rw [bc_len]; exact nat_wrap (by omega)
    have e2 : numB xs.length 2 = some (be xs.length 2) := by
      unfold numB
      rw [show sizeOk 2 = true from rfl, if_pos rfl, if_pos]
      · rfl
      · exact Nat.div_eq_of_lt (show xs.length < 65536 by omega)
    obtain ⟨y, lid2, e, A2, F2, hl2, hy, hy2⟩ := number_run hσ (A.ext' (Ext.lo h)) xs.length (Nat.lt_of_le_of_lt h2 (by decide)) 2 (by omega)
    rw [e2] at A2
    have B2 : BSl (y.getD h.lo) v (bc xs) := B.ext (F2.ext E.lo' hw' hl')
    obtain ⟨z, lid3, e3, A3, F3, hl3, hz, hz2⟩ := bytes_run hσ A2 B2 (by simp [wput, be_len]; omega)
    have e' : (lim Try.prog σ).call 52 [.ptr w 0, .int .u64 (Int.ofNat xs.length), .int .i64 2] h.lo = some (.ptr w 0, y) := e
    simp only [go_sem, Nat.reduceLT, Nat.reduceLeDiff, Nat.reduceEqDiff, Nat.reduceAdd, Nat.reduceSub, Nat.reduceMul, reduceCtorEq, Int.reduceBEq, Int.reduceLT, Int.reduceLE, Int.reduceAdd, Int.reduceSub, Int.reduceEq, Int.reduceNeg, Int.reduceToNat, Int.reduceGT, Int.reduceGE, hb, h0, h1, hbn, hro, B.len, q1, q2, e', e3]
    have hap : wput (wput (false, bs) (some (be xs.length 2))) (some xs) = wput (false, bs) (some (be xs.length 2 ++ xs)) := by simp [wput]
    have hn := F2.nx
    rw [lo_nx] at hn
    have r := wok_fin2 A3 (F2.trans F3 hl2) (by rw [lo_nx] at hl2; omega) A.lt hy hz hz2
    rw [hap] at r
    exact r
  · simp only [go_sem, Nat.reduceLT, Nat.reduceLeDiff, Nat.reduceEqDiff, Nat.reduceAdd, Nat.reduceSub, Nat.reduceMul, reduceCtorEq, Int.reduceBEq, Int.reduceLT, Int.reduceLE, Int.reduceAdd, Int.reduceSub, Int.reduceEq, Int.reduceNeg, Int.reduceToNat, Int.reduceGT, Int.reduceGE, hb, h0, h1, hbn, hro]
    rw [fin_q _ _ _ rfl (by simp only [go_sem, Nat.reduceLT, Nat.reduceLeDiff, Nat.reduceEqDiff, Nat.reduceAdd, Nat.reduceSub, Nat.reduceMul, reduceCtorEq, Int.reduceBEq, Int.reduceLT, Int.reduceLE, Int.reduceAdd, Int.reduceSub, Int.reduceEq, Int.reduceNeg, Int.reduceToNat, Int.reduceGT, Int.reduceGE]; exact decide_eq_true A.lt)]
    exact ⟨_, lid, rfl, A, WFr.refl _ _ _, .inl rfl, Lw.none _ _, fun _ => rfl⟩

theorem count_run (hσ : ∀ f a h, f ≠ 28 → σ f a h = none) {h : H} {w lid : Nat} {fl : Bool} {bs : List Nat} (A : WrAt h w lid fl bs) (n : Int) (room : bs.length ≤ 1000000) :
    WOk h w lid (wput (fl, bs) (if 0 ≤ n ∧ n ≤ 255 then some [n.toNat] else none)) ((lim Try.prog σ).call 59 [.ptr w 0, .int .i64 n] h) := by
  obtain ⟨b, s, hb, hro, hbn, h0, h1, hl⟩ := A.blk
  have hlt := A.lt
  rw [call_eq (hσ _ _ _ (by decide)) fn_59 rfl rfl, Try.ntmps59, Try.results59]
  cases fl
  · by_cases hn : 0 ≤ n ∧ n ≤ 255
    · obtain ⟨k, rfl⟩ : ∃ k : Nat, n = Int.ofNat k := ⟨n.toNat, by simp; omega⟩
      have hk : k ≤ 255 := by have := hn.2; simp at this; omega
      have q2 : IntKind.wrap .u64 (Int.ofNat k) = Int.ofNat k := nat_wrap (by omega)
      have e2 : numB k 1 = some [k] := by
        unfold numB
        rw [show sizeOk 1 = true from rfl, if_pos rfl, if_pos]
        · simp [be, dig]; omega
        · exact Nat.div_eq_of_lt (show k < 256 by omega)
      obtain ⟨y, lid2, e, A2, F2, hl2, hy, hy2⟩ := number_run hσ (A.ext' (Ext.lo h)) k (Nat.lt_of_le_of_lt hk (by decide)) 1 (by omega)
      rw [e2] at A2 hy2
      have q3 : ¬ Int.ofNat k < 0 := by simp
      have q4 : ¬ Int.ofNat k > 255 := by simp; omega
      simp only [go_sem, Nat.reduceLT, Nat.reduceLeDiff, Nat.reduceEqDiff, Nat.reduceAdd, Nat.reduceSub, Nat.reduceMul, reduceCtorEq, Int.reduceBEq, Int.reduceLT, Int.reduceLE, Int.reduceAdd, Int.reduceSub, Int.reduceEq, Int.reduceNeg, Int.reduceToNat, Int.reduceGT, Int.reduceGE, hb, h0, h1, hbn, hro, q2, q3, q4, e]
      rw [if_pos hn]
      exact wok_fin A2 F2 hl2 A.lt hy hy2
    · have hput : wput (false, bs) (if 0 ≤ n ∧ n ≤ 255 then some [n.toNat] else none) = (true, bs) := by rw [if_neg hn]; rfl
      rw [hput]
      by_cases q : n < 0
      case' pos => simp only [go_sem, Nat.reduceLT, Nat.reduceLeDiff, Nat.reduceEqDiff, Nat.reduceAdd, Nat.reduceSub, Nat.reduceMul, reduceCtorEq, Int.reduceBEq, Int.reduceLT, Int.reduceLE, Int.reduceAdd, Int.reduceSub, Int.reduceEq, Int.reduceNeg, Int.reduceToNat, Int.reduceGT, Int.reduceGE, hb, h0, h1, hbn, hro, q, isW_und]
      case' neg => have q' : n > 255 := by omega
      case' neg => simp only [go_sem, Nat.reduceLT, Nat.reduceLeDiff, Nat.reduceEqDiff, Nat.reduceAdd, Nat.reduceSub, Nat.reduceMul, reduceCtorEq, Int.reduceBEq, Int.reduceLT, Int.reduceLE, Int.reduceAdd, Int.reduceSub, Int.reduceEq, Int.reduceNeg, Int.reduceToNat, Int.reduceGT, Int.reduceGE, hb, h0, h1, hbn, hro, q, q', isW_und]
      all_goals
        rw [fin_l _ _ _ (by simp only [go_sem, Nat.reduceLT, Nat.reduceLeDiff, Nat.reduceEqDiff, Nat.reduceAdd, Nat.reduceSub, Nat.reduceMul, reduceCtorEq, Int.reduceBEq, Int.reduceLT, Int.reduceLE, Int.reduceAdd, Int.reduceSub, Int.reduceEq, Int.reduceNeg, Int.reduceToNat, Int.reduceGT, Int.reduceGE]; omega)]
        exact ⟨_, lid, rfl, ⟨A.lt, A.ne, _, _, put_blk_same _ _ _, hro, hbn, by simp only [go_sem, Nat.reduceLT, Nat.reduceLeDiff, Nat.reduceEqDiff, Nat.reduceAdd, Nat.reduceSub, Nat.reduceMul, reduceCtorEq, Int.reduceBEq, Int.reduceLT, Int.reduceLE, Int.reduceAdd, Int.reduceSub, Int.reduceEq, Int.reduceNeg, Int.reduceToNat, Int.reduceGT, Int.reduceGE, h0], by simp only [go_sem, Nat.reduceLT, Nat.reduceLeDiff, Nat.reduceEqDiff, Nat.reduceAdd, Nat.reduceSub, Nat.reduceMul, reduceCtorEq, Int.reduceBEq, Int.reduceLT, Int.reduceLE, Int.reduceAdd, Int.reduceSub, Int.reduceEq, Int.reduceNeg, Int.reduceToNat, Int.reduceGT, Int.reduceGE, hbn], hl.mono (Nat.le_refl _) fun hne => by simp only [go_sem, Nat.reduceLT, Nat.reduceLeDiff, Nat.reduceEqDiff, Nat.reduceAdd, Nat.reduceSub, Nat.reduceMul, reduceCtorEq, Int.reduceBEq, Int.reduceLT, Int.reduceLE, Int.reduceAdd, Int.reduceSub, Int.reduceEq, Int.reduceNeg, Int.reduceToNat, Int.reduceGT, Int.reduceGE, (A.ne hne).symm]⟩, ⟨Nat.le_refl _, rfl, fun k h1 h2 h3 => put_get_ne _ _ _ _ h2⟩, .inl rfl, Lw.fin _ _ (by simp only [go_sem, Nat.reduceLT, Nat.reduceLeDiff, Nat.reduceEqDiff, Nat.reduceAdd, Nat.reduceSub, Nat.reduceMul, reduceCtorEq, Int.reduceBEq, Int.reduceLT, Int.reduceLE, Int.reduceAdd, Int.reduceSub, Int.reduceEq, Int.reduceNeg, Int.reduceToNat, Int.reduceGT, Int.reduceGE]; omega), fun q => by cases q⟩
  · simp only [go_sem, Nat.reduceLT, Nat.reduceLeDiff, Nat.reduceEqDiff, Nat.reduceAdd, Nat.reduceSub, Nat.reduceMul, reduceCtorEq, Int.reduceBEq, Int.reduceLT, Int.reduceLE, Int.reduceAdd, Int.reduceSub, Int.reduceEq, Int.reduceNeg, Int.reduceToNat, Int.reduceGT, Int.reduceGE, hb, h0, h1, hbn, hro]
    rw [fin_q _ _ _ rfl (by simp only [go_sem, Nat.reduceLT, Nat.reduceLeDiff, Nat.reduceEqDiff, Nat.reduceAdd, Nat.reduceSub, Nat.reduceMul, reduceCtorEq, Int.reduceBEq, Int.reduceLT, Int.reduceLE, Int.reduceAdd, Int.reduceSub, Int.reduceEq, Int.reduceNeg, Int.reduceToNat, Int.reduceGT, Int.reduceGE]; exact decide_eq_true A.lt)]
    exact ⟨_, lid, rfl, A, WFr.refl _ _ _, .inl rfl, Lw.none _ _, fun _ => rfl⟩

theorem sl_85 (h : H) (id : Nat) : sliceT Try.prog h 85 (.ptr id 0) none none none = some (.sl id 0 256 (.exact 256)) := by kernel_rfl
theorem block_run (hσ : ∀ f a h, f ≠ 28 → σ f a h = none) {h : H} {w lid : Nat} {fl : Bool} {bs : List Nat} (A : WrAt h w lid fl bs) {xs : List Nat} (hx : xs.length = 256) (room : bs.length ≤ 900000) :
    WOk h w lid (wput (fl, bs) (some xs)) ((lim Try.prog σ).call 60 [.ptr w 0, .agg (bc xs)] h) := by
  have hlt := A.lt
  rw [call_eq (hσ _ _ _ (by decide)) fn_60 rfl rfl, Try.ntmps60, Try.results60]
  have B : BSl ((h.lo).alloc (.cells (newBlk (bc xs)))) (.sl h.nx 0 256 (.exact 256)) (bc xs) := by
    right; right
    refine ⟨_, 0, .exact 256, _, by rw [bc_len, hx]; rfl, by simp only [go_sem, Nat.reduceLT, Nat.reduceLeDiff, Nat.reduceEqDiff, Nat.reduceAdd, Nat.reduceSub, Nat.reduceMul, reduceCtorEq, Int.reduceBEq, Int.reduceLT, Int.reduceLE, Int.reduceAdd, Int.reduceSub, Int.reduceEq, Int.reduceNeg, Int.reduceToNat, Int.reduceGT, Int.reduceGE], alloc_blk_same _ _ _ rfl, loadN_of _ _ _ rfl fun i v hv => by rw [Nat.zero_add, newBlk_get, hv]⟩
  have E : Ext h ((h.lo).alloc (.cells (newBlk (bc xs)))) := (Ext.lo h).alloc' _
  obtain ⟨z, lid3, e3, A3, F3, hl3, hz, hz2⟩ := bytes_run hσ (A.ext' E) B (by omega)
  simp only [go_sem, Nat.reduceLT, Nat.reduceLeDiff, Nat.reduceEqDiff, Nat.reduceAdd, Nat.reduceSub, Nat.reduceMul, reduceCtorEq, Int.reduceBEq, Int.reduceLT, Int.reduceLE, Int.reduceAdd, Int.reduceSub, Int.reduceEq, Int.reduceNeg, Int.reduceToNat, Int.reduceGT, Int.reduceGE, bc_len, hx, bc_one, sl_85, e3]
  cases z with
  | none =>
    have q := hz2 rfl
    have qf : fl = true := by
      cases fl
      · cases q
      · rfl
    subst qf
    rw [Option.getD_none, fin_q _ _ _ rfl (by simp only [go_sem, Nat.reduceLT, Nat.reduceLeDiff, Nat.reduceEqDiff, Nat.reduceAdd, Nat.reduceSub, Nat.reduceMul, reduceCtorEq, Int.reduceBEq, Int.reduceLT, Int.reduceLE, Int.reduceAdd, Int.reduceSub, Int.reduceEq, Int.reduceNeg, Int.reduceToNat, Int.reduceGT, Int.reduceGE]; exact decide_eq_true hlt)]
    exact ⟨_, lid, rfl, A, WFr.refl _ _ _, .inl rfl, Lw.none _ _, fun _ => rfl⟩
  | some z1 =>
    have q := hz z1 rfl
    rw [Option.getD_some, fin_l _ _ _ (Nat.lt_of_le_of_lt q.1 hlt)]
    exact ⟨_, lid3, rfl, A3.up _, WFr.up ⟨Nat.le_trans E.nx F3.nx, F3.gn.trans E.gn, fun k k1 k2 k3 => (F3.old k (Nat.lt_of_lt_of_le k1 E.nx) k2 k3).trans (E.old k k1)⟩ _, by have := E.nx; omega, Lw.fin _ _ q.1, fun q => by cases q⟩

theorem copy_of {h : H} {v : CV} {cs : List CV} (B : BSl h v cs) (ho : cs.all CV.one = true) (hr : cs.length ≤ 70368744177664) {β : Type} {Q : Option β → Prop} {K : Out → Option β}
    (k : ∀ s' h', Ext h h' → BSl h' s' cs → (cs ≠ [] → ∃ lid', s' = .sl lid' 0 cs.length (.opn 1) ∧ h.nx ≤ lid' ∧ Lst h' 1 s' lid' cs.length cs) → (cs = [] → s' = .nils ∧ h' = h) → Q (K (.upd s' h'))) : Q (@thn _ β (builtinT Try.prog h .append [67, 67] [.nils, v]) ⟨K⟩) := by
  rw [B.app]
  by_cases h0 : cs = []
  · subst h0
    rw [show ([] : List CV).length = 0 from rfl, appS_nils0 rfl (by decide)]
    exact k _ _ (Ext.refl _) (.inl ⟨rfl, rfl⟩) (fun q => absurd rfl q) fun _ => ⟨rfl, rfl⟩
  · have hm : 0 < cs.length := List.length_pos_iff.2 h0
    obtain ⟨h', e, l', h1, h2, h3, h4, _⟩ := app_Lst (by_ := 1) (zl := 1) (Lst.nil h 1 0) hm (new := cs) (by simp) ho rfl (by decide) (by omega) (by omega)
    rw [e]
    have l2 : Lst h' 1 (.sl h.nx 0 cs.length (.opn 1)) h.nx cs.length cs := by simpa using l'
    refine k _ _ ⟨by rw [h1]; omega, h2, fun k hk => h3 k hk fun q => absurd rfl q⟩ ?_ (fun _ => ⟨_, by rw [Nat.zero_add], Nat.le_refl _, ?_⟩) fun q => absurd q h0
    · rw [Nat.zero_add]; exact lst_bsl l2
    · rw [Nat.zero_add]; exact l2

def EndOk (h : H) (fl : Bool) (bs : List Nat) (r : Option (CV × Option H)) : Prop :=
  ∃ v x, r = some (.tup [v, .int .i64 (if fl then 2 else 0)], x) ∧ Ext h (x.getD h) ∧ BSl (x.getD h) v (if fl then [] else bc bs) ∧ (fl = false → bs ≠ [] → ∃ id, v = .sl id 0 bs.length (.opn 1) ∧ h.nx ≤ id ∧ Lst (x.getD h) 1 v id bs.length (bc bs))
theorem end_run (hσ : ∀ f a h, f ≠ 28 → σ f a h = none) {h : H} {w lid : Nat} {fl : Bool} {bs : List Nat} (A : WrAt h w lid fl bs) (room : bs.length ≤ 900000) :
    EndOk h fl bs ((lim Try.prog σ).call 31 [.ptr w 0] h) := by
  obtain ⟨b, s, hb, hro, hbn, h0, h1, hl⟩ := A.blk
  rw [call_eq (hσ _ _ _ (by decide)) fn_31 rfl rfl, Try.ntmps31, Try.results31]
  cases fl
  · simp only [go_sem, Nat.reduceLT, Nat.reduceLeDiff, Nat.reduceEqDiff, Nat.reduceAdd, Nat.reduceSub, Nat.reduceMul, reduceCtorEq, Int.reduceBEq, Int.reduceLT, Int.reduceLE, Int.reduceAdd, Int.reduceSub, Int.reduceEq, Int.reduceNeg, Int.reduceToNat, Int.reduceGT, Int.reduceGE, hb, h0, h1, hbn, hro]
    refine copy_of (Q := EndOk h false bs) (cs := bc bs) (lst_bsl (hl.ext (Ext.lo h))) (bc_one _) (by rw [bc_len]; omega) ?_
    intro s' h' E B hne hnil
    simp only [go_sem, Nat.reduceLT, Nat.reduceLeDiff, Nat.reduceEqDiff, Nat.reduceAdd, Nat.reduceSub, Nat.reduceMul, reduceCtorEq, Int.reduceBEq, Int.reduceLT, Int.reduceLE, Int.reduceAdd, Int.reduceSub, Int.reduceEq, Int.reduceNeg, Int.reduceToNat, Int.reduceGT, Int.reduceGE, hb, h0, h1, hbn, hro]
    by_cases q : bs = []
    · subst q
      obtain ⟨rfl, rfl⟩ := hnil rfl
      rw [fin_q _ _ _ rfl rfl]
      exact ⟨_, _, rfl, Ext.refl _, .inl ⟨rfl, rfl⟩, fun _ q => absurd rfl q⟩
    · obtain ⟨lid', hs, hl', L⟩ := hne (by intro e; apply q; simpa [bc] using e)
      subst hs
      rw [lo_nx] at hl'
      rw [fin_new _ _ _ (by simp only [go_sem, Nat.reduceLT, Nat.reduceLeDiff, Nat.reduceEqDiff, Nat.reduceAdd, Nat.reduceSub, Nat.reduceMul, reduceCtorEq, Int.reduceBEq, Int.reduceLT, Int.reduceLE, Int.reduceAdd, Int.reduceSub, Int.reduceEq, Int.reduceNeg, Int.reduceToNat, Int.reduceGT, Int.reduceGE, blt_eq']; exact decide_eq_false (by omega))]
      exact ⟨_, _, rfl, ⟨E.nx, E.gn, E.old⟩, B.ext (Ext.up _ _), fun _ _ => ⟨lid', by rw [bc_len], hl', by rw [bc_len] at L ⊢; exact L.ext (Ext.up _ _)⟩⟩
  · simp only [go_sem, Nat.reduceLT, Nat.reduceLeDiff, Nat.reduceEqDiff, Nat.reduceAdd, Nat.reduceSub, Nat.reduceMul, reduceCtorEq, Int.reduceBEq, Int.reduceLT, Int.reduceLE, Int.reduceAdd, Int.reduceSub, Int.reduceEq, Int.reduceNeg, Int.reduceToNat, Int.reduceGT, Int.reduceGE, hb, h0, h1, hbn, hro]
    rw [fin_q _ _ _ rfl rfl]
    exact ⟨_, _, rfl, Ext.refl _, .inl ⟨rfl, rfl⟩, fun q => by cases q⟩
end Go.Cl.A

namespace Go.Cl.A
variable {σ : Sums}

theorem rsize_run (hσ : ∀ f a h, f ≠ 28 → σ f a h = none) (h : H) (n : Int) : (lim Try.prog σ).call 66 [.int .i64 n] h = some (.bool (decide (n = 1 ∨ n = 2 ∨ n = 4 ∨ n = 8)), none) := by
  rw [call_eq (hσ _ _ _ (by decide)) fn_66 rfl rfl, Try.ntmps66, Try.results66]
  by_cases h1 : n = 1
  · subst h1; simp only [go_sem, Nat.reduceLT, Nat.reduceLeDiff, Nat.reduceEqDiff, Nat.reduceAdd, Nat.reduceSub, Nat.reduceMul, reduceCtorEq, Int.reduceBEq, Int.reduceLT, Int.reduceLE, Int.reduceAdd, Int.reduceSub, Int.reduceEq, Int.reduceNeg, Int.reduceToNat, Int.reduceGT, Int.reduceGE, true_or]; rw [fin_q _ _ _ rfl rfl]
  by_cases h2 : n = 2
  · subst h2; simp only [go_sem, Nat.reduceLT, Nat.reduceLeDiff, Nat.reduceEqDiff, Nat.reduceAdd, Nat.reduceSub, Nat.reduceMul, reduceCtorEq, Int.reduceBEq, Int.reduceLT, Int.reduceLE, Int.reduceAdd, Int.reduceSub, Int.reduceEq, Int.reduceNeg, Int.reduceToNat, Int.reduceGT, Int.reduceGE, true_or, or_true]; rw [fin_q _ _ _ rfl rfl]
  by_cases h4 : n = 4
  · subst h4; simp only [go_sem, Nat.reduceLT, Nat.reduceLeDiff, Nat.reduceEqDiff, Nat.reduceAdd, Nat.reduceSub, Nat.reduceMul, reduceCtorEq, Int.reduceBEq, Int.reduceLT, Int.reduceLE, Int.reduceAdd, Int.reduceSub, Int.reduceEq, Int.reduceNeg, Int.reduceToNat, Int.reduceGT, Int.reduceGE, true_or, or_true]; rw [fin_q _ _ _ rfl rfl]
  by_cases h8 : n = 8
  · subst h8; simp only [go_sem, Nat.reduceLT, Nat.reduceLeDiff, Nat.reduceEqDiff, Nat.reduceAdd, Nat.reduceSub, Nat.reduceMul, reduceCtorEq, Int.reduceBEq, Int.reduceLT, Int.reduceLE, Int.reduceAdd, Int.reduceSub, Int.reduceEq, Int.reduceNeg, Int.reduceToNat, Int.reduceGT, Int.reduceGE, true_or, or_true]; rw [fin_q _ _ _ rfl rfl]
  simp only [go_sem, Nat.reduceLT, Nat.reduceLeDiff, Nat.reduceEqDiff, Nat.reduceAdd, Nat.reduceSub, Nat.reduceMul, reduceCtorEq, Int.reduceBEq, Int.reduceLT, Int.reduceLE, Int.reduceAdd, Int.reduceSub, Int.reduceEq, Int.reduceNeg, Int.reduceToNat, Int.reduceGT, Int.reduceGE, h1, h2, h4, h8, or_self]
  rw [fin_q _ _ _ rfl rfl]

theorem mk8 (h : H) {K : Nat} (hK : K ≤ 1000000) : mkS h 1 1 (some (.int .u8 0)) K K = some (.sl h.nx 0 K (.exact K), h.alloc (.cells { n := K * 1, d := [.int .u8 0], t := .nil })) := by
  unfold mkS
  rw [bind_some']
  have hg : (Nat.ble K K && Nat.ble (K * 1) 70368744177664 && Nat.ble K 70368744177664 && Nat.beq (CV.cells (.int .u8 0)).length 1 && Nat.blt 0 1 && (CV.cells (.int .u8 0)).all CV.one) = true := by
    simp only [blt_eq', ble_eq', beq_eq', Bool.and_eq_true, decide_eq_true_eq]
    refine ⟨⟨⟨⟨⟨by omega, by omega⟩, by omega⟩, rfl⟩, by decide⟩, rfl⟩
  rw [hg, cond_true]
  rfl
theorem tmod_nat (n : Nat) : (Int.ofNat n).tmod 256 = Int.ofNat (n % 256) := rfl
theorem tdiv_nat (n : Nat) : (Int.ofNat n).tdiv 256 = Int.ofNat (n / 256) := rfl
theorem tmod2_nat (n : Nat) : (Int.ofNat n).tmod 2 = Int.ofNat (n % 2) := rfl

theorem storeA_ok (new : List CV) (b : Blk) (off : Nat) (h : off + new.length ≤ b.n) (ho : new.all CV.one = true) : ∃ b', b.storeA off new = some b' ∧ b'.n = b.n ∧ b'.ro = b.ro ∧ ∀ i, b'.get i = if off ≤ i ∧ i < off + new.length then nth new (i - off) else b.get i := by
  have : ∃ b', b.storeA off new = some b' := by
    obtain ⟨b1, e1, _⟩ := storeN_ok new b off h ho
    unfold Blk.storeA
    cases (Nat.blt 24 new.length && Nat.ble (off + new.length) b.n)
    · exact ⟨b1, e1⟩
    · rw [cond_true]
      cases b.loadF 0 b.n with
      | none => exact ⟨b1, e1⟩
      | some l => rw [ho]; exact ⟨_, rfl⟩
  obtain ⟨b', e⟩ := this
  obtain ⟨h1, h2, _, _, h5⟩ := storeA_spec e
  exact ⟨b', e, h1, h2, fun i => by rw [h5]; split <;> simp [nth_eq]⟩
theorem fin_bsl {h s : H} (E : Ext h s) {v : CV} {cs : List CV} (B : BSl s v cs) : ∃ x, fin h s v = (v, x) ∧ Ext h (x.getD h) ∧ BSl (x.getD h) v cs := by
  unfold fin
  cases q : (Nat.beq s.low h.nx && okB h.nx v)
  · exact ⟨_, rfl, E.up' _, B.ext (Ext.up _ _)⟩
  · refine ⟨_, rfl, Ext.refl h, ?_⟩
    rw [Bool.and_eq_true] at q
    rcases B with h1 | h1 | ⟨id, off, c, b, rfl, h2, h3, h4⟩
    · exact .inl h1
    · exact .inr (.inl h1)
    · have : id < h.nx := by have := q.2; simpa [okB, blt_eq'] using this
      exact .inr (.inr ⟨id, off, c, b, rfl, this, (E.blk this).symm.trans h3, h4⟩)
theorem fin_bslT {h s : H} (E : Ext h s) {v : CV} {cs : List CV} (B : BSl s v cs) (g : Bool) : ∃ x, fin h s (.tup [v, .bool g]) = (.tup [v, .bool g], x) ∧ Ext h (x.getD h) ∧ BSl (x.getD h) v cs := by
  unfold fin
  cases q : (Nat.beq s.low h.nx && okB h.nx (.tup [v, .bool g]))
  · exact ⟨_, rfl, E.up' _, B.ext (Ext.up _ _)⟩
  · refine ⟨_, rfl, Ext.refl h, ?_⟩
    rw [Bool.and_eq_true] at q
    rcases B with h1 | h1 | ⟨id, off, c, b, rfl, h2, h3, h4⟩
    · exact .inl h1
    · exact .inr (.inl h1)
    · have : id < h.nx := by have := q.2; simpa [okB, okBL, blt_eq'] using this
      exact .inr (.inr ⟨id, off, c, b, rfl, this, (E.blk this).symm.trans h3, h4⟩)
/-- what a function answers: bytes of one's own or read only, and what it leaves besides -/
def BOk (h : H) (xs : List Nat) (g : Bool) (r : Option (CV × Option H)) : Prop := ∃ v x, r = some (.tup [v, .bool g], x) ∧ Ext h (x.getD h) ∧ BSl (x.getD h) v (bc xs)
def POk (h : H) (xs : List Nat) (g : Bool) (z : Bool) (r : Option (CV × Option H)) : Prop := ∃ v x, r = some (.tup [v, .bool g], x) ∧ Ext h (x.getD h) ∧ BSl (x.getD h) v (bc xs) ∧ (z = true → ∃ id, v = .sl id 0 xs.length (.exact xs.length))

theorem put_run (hσ : ∀ f a h, f ≠ 28 → σ f a h = none) (h : H) (n : Nat) (hn : n < 2 ^ 64) (k : Int) :
    POk h (if sizeOk k then be n k.toNat else []) (sizeOk k && decide (n / 256 ^ k.toNat = 0)) (sizeOk k) ((lim Try.prog σ).call 54 [.int .u64 (Int.ofNat n), .int .i64 k] h) := by
  have hw := rsize_run hσ h.lo k
  rw [call_eq (hσ _ _ _ (by decide)) fn_54 rfl rfl, Try.ntmps54, Try.results54]
  by_cases hs : k = 1 ∨ k = 2 ∨ k = 4 ∨ k = 8
  · have hso : sizeOk k = true := decide_eq_true hs
    rw [decide_eq_true hs] at hw
    obtain ⟨K, rfl, hK, hK8⟩ : ∃ K : Nat, k = Int.ofNat K ∧ 1 ≤ K ∧ K ≤ 8 := by
      rcases hs with rfl | rfl | rfl | rfl
      · exact ⟨1, rfl, by decide, by decide⟩
      · exact ⟨2, rfl, by decide, by decide⟩
      · exact ⟨4, rfl, by decide, by decide⟩
      · exact ⟨8, rfl, by decide, by decide⟩
    have e2 : IntKind.wrap .i64 (Int.ofNat K - 1) = Int.ofNat K - 1 := by
      rw [wrap_i64 (by simp; omega) (by simp; omega)]
    rw [hso, if_pos rfl, Bool.true_and]
    have hd0 : ∀ (x j : Nat), j < K → ({ n := K * 1, d := [CV.int .u8 0], t := .nil } : Blk).get j = some (.int .u8 0) := fun x j hj => by
      simp only [Blk.get, T.get]
      rw [blt_eq', decide_eq_true (by omega)]
      simp [Nat.mod_one]
      rfl
    simp only [go_sem, Nat.reduceLT, Nat.reduceLeDiff, Nat.reduceEqDiff, Nat.reduceAdd, Nat.reduceSub, Nat.reduceMul, reduceCtorEq, Int.reduceBEq, Int.reduceLT, Int.reduceLE, Int.reduceAdd, Int.reduceSub, Int.reduceEq, Int.reduceNeg, Int.reduceToNat, Int.reduceGT, Int.reduceGE, hw, e2, mk8 _ (show K ≤ 1000000 by omega)]
    refine loop_ind (Q := POk h (be n K) (decide (n / 256 ^ K = 0)) true) (fun i env h' => evT env 0 = .int .u64 (Int.ofNat (n / 256 ^ i)) ∧ evT env 6 = .sl h.nx 0 K (.exact K) ∧ evT env 7 = .int .i64 (Int.ofNat K - 1 - Int.ofNat i) ∧ Ext h h' ∧ h.nx < h'.nx ∧ h'.low ≤ h.nx ∧
      ∃ b, h'.blk h.nx = some b ∧ b.ro = false ∧ b.n = K ∧ ∀ j, j < K → K ≤ j + i → b.get j = some (.int .u8 (Int.ofNat (dig n K j)))) K 0 ?_ (Nat.zero_le _) ?_ ?_
    · refine ⟨by simp only [go_sem, Nat.reduceLT, Nat.reduceLeDiff, Nat.reduceEqDiff, Nat.reduceAdd, Nat.reduceSub, Nat.reduceMul, reduceCtorEq, Int.reduceBEq, Int.reduceLT, Int.reduceLE, Int.reduceAdd, Int.reduceSub, Int.reduceEq, Int.reduceNeg, Int.reduceToNat, Int.reduceGT, Int.reduceGE]; simp, by simp only [go_sem, Nat.reduceLT, Nat.reduceLeDiff, Nat.reduceEqDiff, Nat.reduceAdd, Nat.reduceSub, Nat.reduceMul, reduceCtorEq, Int.reduceBEq, Int.reduceLT, Int.reduceLE, Int.reduceAdd, Int.reduceSub, Int.reduceEq, Int.reduceNeg, Int.reduceToNat, Int.reduceGT, Int.reduceGE], ?_, (Ext.lo h).alloc' _, by simp only [go_sem, Nat.reduceLT, Nat.reduceLeDiff, Nat.reduceEqDiff, Nat.reduceAdd, Nat.reduceSub, Nat.reduceMul, reduceCtorEq, Int.reduceBEq, Int.reduceLT, Int.reduceLE, Int.reduceAdd, Int.reduceSub, Int.reduceEq, Int.reduceNeg, Int.reduceToNat, Int.reduceGT, Int.reduceGE], by simp only [go_sem, Nat.reduceLT, Nat.reduceLeDiff, Nat.reduceEqDiff, Nat.reduceAdd, Nat.reduceSub, Nat.reduceMul, reduceCtorEq, Int.reduceBEq, Int.reduceLT, Int.reduceLE, Int.reduceAdd, Int.reduceSub, Int.reduceEq, Int.reduceNeg, Int.reduceToNat, Int.reduceGT, Int.reduceGE]; exact Nat.le_refl _, _, alloc_blk_same _ _ _ rfl, rfl, Nat.mul_one _, fun j h1 h2 => by omega⟩
      simp only [go_sem, Nat.reduceLT, Nat.reduceLeDiff, Nat.reduceEqDiff, Nat.reduceAdd, Nat.reduceSub, Nat.reduceMul, reduceCtorEq, Int.reduceBEq, Int.reduceLT, Int.reduceLE, Int.reduceAdd, Int.reduceSub, Int.reduceEq, Int.reduceNeg, Int.reduceToNat, Int.reduceGT, Int.reduceGE]; congr 1; simp
    · rintro i env h' ⟨q0, q6, q7, E, hnx, hlow, b, hb, hro, hbn, hget⟩ hi next
      obtain ⟨j, hj⟩ : ∃ j, K - 1 - i = j := ⟨_, rfl⟩
      have q7' : evT env 7 = .int .i64 (Int.ofNat j) := by rw [q7]; congr 1; simp; omega
      have c1 : Int.ofNat j ≥ 0 := Int.natCast_nonneg _
      have c3 : IntKind.wrap .i64 (Int.ofNat j - 1) = Int.ofNat K - 1 - Int.ofNat (i + 1) := by
        rw [wrap_i64 (by simp; omega) (by simp; omega)]; simp; omega
      have c4 : IntKind.wrap .u64 (Int.ofNat (n / 256 ^ i / 256)) = Int.ofNat (n / 256 ^ (i + 1)) := by
        rw [Nat.div_div_eq_div_mul, ← Nat.pow_succ]
        exact wrap_u64 (Nat.lt_of_le_of_lt (Nat.div_le_self _ _) hn)
      have c5 : j < K := by omega
      simp only [go_sem, Nat.reduceLT, Nat.reduceLeDiff, Nat.reduceEqDiff, Nat.reduceAdd, Nat.reduceSub, Nat.reduceMul, reduceCtorEq, Int.reduceBEq, Int.reduceLT, Int.reduceLE, Int.reduceAdd, Int.reduceSub, Int.reduceEq, Int.reduceNeg, Int.reduceToNat, Int.reduceGT, Int.reduceGE, q0, q6, q7', c1, c3, c4, c5, hb, hro, hbn, tmod_nat, tdiv_nat, wrap_u8, Nat.mul_one]
      refine next _ _ ⟨by simp only [go_sem, Nat.reduceLT, Nat.reduceLeDiff, Nat.reduceEqDiff, Nat.reduceAdd, Nat.reduceSub, Nat.reduceMul, reduceCtorEq, Int.reduceBEq, Int.reduceLT, Int.reduceLE, Int.reduceAdd, Int.reduceSub, Int.reduceEq, Int.reduceNeg, Int.reduceToNat, Int.reduceGT, Int.reduceGE], by simp only [go_sem, Nat.reduceLT, Nat.reduceLeDiff, Nat.reduceEqDiff, Nat.reduceAdd, Nat.reduceSub, Nat.reduceMul, reduceCtorEq, Int.reduceBEq, Int.reduceLT, Int.reduceLE, Int.reduceAdd, Int.reduceSub, Int.reduceEq, Int.reduceNeg, Int.reduceToNat, Int.reduceGT, Int.reduceGE, q6], by simp only [go_sem, Nat.reduceLT, Nat.reduceLeDiff, Nat.reduceEqDiff, Nat.reduceAdd, Nat.reduceSub, Nat.reduceMul, reduceCtorEq, Int.reduceBEq, Int.reduceLT, Int.reduceLE, Int.reduceAdd, Int.reduceSub, Int.reduceEq, Int.reduceNeg, Int.reduceToNat, Int.reduceGT, Int.reduceGE], E.put _ (Nat.le_refl _), by simp only [go_sem, Nat.reduceLT, Nat.reduceLeDiff, Nat.reduceEqDiff, Nat.reduceAdd, Nat.reduceSub, Nat.reduceMul, reduceCtorEq, Int.reduceBEq, Int.reduceLT, Int.reduceLE, Int.reduceAdd, Int.reduceSub, Int.reduceEq, Int.reduceNeg, Int.reduceToNat, Int.reduceGT, Int.reduceGE, hnx], by simp only [go_sem, Nat.reduceLT, Nat.reduceLeDiff, Nat.reduceEqDiff, Nat.reduceAdd, Nat.reduceSub, Nat.reduceMul, reduceCtorEq, Int.reduceBEq, Int.reduceLT, Int.reduceLE, Int.reduceAdd, Int.reduceSub, Int.reduceEq, Int.reduceNeg, Int.reduceToNat, Int.reduceGT, Int.reduceGE]; omega, _, put_blk_same _ _ _, by simp only [go_sem, Nat.reduceLT, Nat.reduceLeDiff, Nat.reduceEqDiff, Nat.reduceAdd, Nat.reduceSub, Nat.reduceMul, reduceCtorEq, Int.reduceBEq, Int.reduceLT, Int.reduceLE, Int.reduceAdd, Int.reduceSub, Int.reduceEq, Int.reduceNeg, Int.reduceToNat, Int.reduceGT, Int.reduceGE, hro], by simp only [go_sem, Nat.reduceLT, Nat.reduceLeDiff, Nat.reduceEqDiff, Nat.reduceAdd, Nat.reduceSub, Nat.reduceMul, reduceCtorEq, Int.reduceBEq, Int.reduceLT, Int.reduceLE, Int.reduceAdd, Int.reduceSub, Int.reduceEq, Int.reduceNeg, Int.reduceToNat, Int.reduceGT, Int.reduceGE, hbn], fun j' h1 h2 => ?_⟩
      by_cases hjj : j' = j
      · subst hjj
        rw [st_get_same _ _ _ (by omega)]
        congr 2
        unfold dig
        rw [Nat.mod_mod, Nat.pow_mul, show K - 1 - j' = i by omega]
      · rw [st_get_ne _ _ _ _ hjj]
        exact hget j' h1 (by omega)
    · rintro env h' ⟨q0, q6, q7, E, hnx, hlow, b, hb, hro, hbn, hget⟩
      have q7' : evT env 7 = .int .i64 (-1) := by rw [q7]; congr 1; simp; omega
      simp only [go_sem, Nat.reduceLT, Nat.reduceLeDiff, Nat.reduceEqDiff, Nat.reduceAdd, Nat.reduceSub, Nat.reduceMul, reduceCtorEq, Int.reduceBEq, Int.reduceLT, Int.reduceLE, Int.reduceAdd, Int.reduceSub, Int.reduceEq, Int.reduceNeg, Int.reduceToNat, Int.reduceGT, Int.reduceGE, q0, q6, q7']
      rw [show decide (Int.ofNat (n / 256 ^ K) = 0) = decide (n / 256 ^ K = 0) from by
        by_cases q : n / 256 ^ K = 0
        · rw [q]; rfl
        · rw [decide_eq_false q]; exact decide_eq_false fun e => q (Int.ofNat.inj e)]
      have B : BSl h' (.sl h.nx 0 K (.exact K)) (bc (be n K)) := .inr (.inr ⟨h.nx, 0, .exact K, b, by rw [bc_len, be_len], hnx, hb, loadN_of _ _ _ rfl fun i v hv => by
        have hi : i < K := by
          have : i < (bc (be n K)).length := by
            by_cases q : i < (bc (be n K)).length
            · exact q
            · rw [nth_none _ _ (by omega)] at hv; cases hv
          rwa [bc_len, be_len] at this
        rw [Nat.zero_add, hget i hi (by omega), ← hv, nth_eq]
        simp [bc, be, hi]⟩)
      obtain ⟨x, e, E2, B2⟩ := fin_bslT E B (decide (n / 256 ^ K = 0))
      rw [e]
      exact ⟨_, _, rfl, E2, B2, fun _ => ⟨h.nx, by rw [be_len]⟩⟩
  · have hso : sizeOk k = false := decide_eq_false hs
    rw [decide_eq_false hs] at hw
    rw [hso]
    simp only [go_sem, Nat.reduceLT, Nat.reduceLeDiff, Nat.reduceEqDiff, Nat.reduceAdd, Nat.reduceSub, Nat.reduceMul, reduceCtorEq, Int.reduceBEq, Int.reduceLT, Int.reduceLE, Int.reduceAdd, Int.reduceSub, Int.reduceEq, Int.reduceNeg, Int.reduceToNat, Int.reduceGT, Int.reduceGE, hw]
    rw [fin_q _ _ _ rfl rfl]
    exact ⟨_, _, rfl, Ext.refl _, .inl ⟨rfl, rfl⟩, fun q => by cases q⟩

def SOk (h : H) (xs : List Nat) (r : Option (CV × Option H)) : Prop := ∃ v x, r = some (v, x) ∧ Ext h (x.getD h) ∧ BSl (x.getD h) v (bc xs)

theorem rflag_run (hσ : ∀ f a h, f ≠ 28 → σ f a h = none) (h : H) (b : Bool) : SOk h [if b then 1 else 0] ((lim Try.prog σ).call 55 [.bool b] h) := by
  rw [call_eq (hσ _ _ _ (by decide)) fn_55 rfl rfl, Try.ntmps55, Try.results55]
  cases b
  · simp only [go_sem, Nat.reduceLT, Nat.reduceLeDiff, Nat.reduceEqDiff, Nat.reduceAdd, Nat.reduceSub, Nat.reduceMul, reduceCtorEq, Int.reduceBEq, Int.reduceLT, Int.reduceLE, Int.reduceAdd, Int.reduceSub, Int.reduceEq, Int.reduceNeg, Int.reduceToNat, Int.reduceGT, Int.reduceGE]
    rw [fin_new _ _ _ (by simp only [go_sem, Nat.reduceLT, Nat.reduceLeDiff, Nat.reduceEqDiff, Nat.reduceAdd, Nat.reduceSub, Nat.reduceMul, reduceCtorEq, Int.reduceBEq, Int.reduceLT, Int.reduceLE, Int.reduceAdd, Int.reduceSub, Int.reduceEq, Int.reduceNeg, Int.reduceToNat, Int.reduceGT, Int.reduceGE, blt_eq']; exact decide_eq_false (by omega))]
    exact ⟨_, _, rfl, ((Ext.lo h).alloc' _).up' _, .inr (.inr ⟨_, _, _, _, rfl, by simp only [go_sem, Nat.reduceLT, Nat.reduceLeDiff, Nat.reduceEqDiff, Nat.reduceAdd, Nat.reduceSub, Nat.reduceMul, reduceCtorEq, Int.reduceBEq, Int.reduceLT, Int.reduceLE, Int.reduceAdd, Int.reduceSub, Int.reduceEq, Int.reduceNeg, Int.reduceToNat, Int.reduceGT, Int.reduceGE], alloc_blk_same _ _ _ rfl, rfl⟩)⟩
  · simp only [go_sem, Nat.reduceLT, Nat.reduceLeDiff, Nat.reduceEqDiff, Nat.reduceAdd, Nat.reduceSub, Nat.reduceMul, reduceCtorEq, Int.reduceBEq, Int.reduceLT, Int.reduceLE, Int.reduceAdd, Int.reduceSub, Int.reduceEq, Int.reduceNeg, Int.reduceToNat, Int.reduceGT, Int.reduceGE]
    rw [fin_new _ _ _ (by simp only [go_sem, Nat.reduceLT, Nat.reduceLeDiff, Nat.reduceEqDiff, Nat.reduceAdd, Nat.reduceSub, Nat.reduceMul, reduceCtorEq, Int.reduceBEq, Int.reduceLT, Int.reduceLE, Int.reduceAdd, Int.reduceSub, Int.reduceEq, Int.reduceNeg, Int.reduceToNat, Int.reduceGT, Int.reduceGE, blt_eq']; exact decide_eq_false (by omega))]
    exact ⟨_, _, rfl, ((Ext.lo h).alloc' _).up' _, .inr (.inr ⟨_, _, _, _, rfl, by simp only [go_sem, Nat.reduceLT, Nat.reduceLeDiff, Nat.reduceEqDiff, Nat.reduceAdd, Nat.reduceSub, Nat.reduceMul, reduceCtorEq, Int.reduceBEq, Int.reduceLT, Int.reduceLE, Int.reduceAdd, Int.reduceSub, Int.reduceEq, Int.reduceNeg, Int.reduceToNat, Int.reduceGT, Int.reduceGE], alloc_blk_same _ _ _ rfl, rfl⟩)⟩

def NumOk (h : H) (xs : List Nat) (r : Option (CV × Option H)) : Prop := ∃ id x, r = some (.sl id 0 2 (.exact 2), x) ∧ Ext h (x.getD h) ∧ BSl (x.getD h) (.sl id 0 2 (.exact 2)) (bc xs)
theorem rnum_run (hσ : ∀ f a h, f ≠ 28 → σ f a h = none) (h : H) (n : Nat) (hn : n < 65536) : NumOk h (be n 2) ((lim Try.prog σ).call 67 [.int .u64 (Int.ofNat n), .int .i64 2] h) := by
  obtain ⟨v, x, e, E, B, hv⟩ := put_run hσ h.lo n (by omega) 2
  obtain ⟨id, hv⟩ := hv rfl
  have hv : v = .sl id 0 2 (.exact 2) := hv
  subst hv
  rw [call_eq (hσ _ _ _ (by decide)) fn_67 rfl rfl, Try.ntmps67, Try.results67]
  simp only [go_sem, Nat.reduceLT, Nat.reduceLeDiff, Nat.reduceEqDiff, Nat.reduceAdd, Nat.reduceSub, Nat.reduceMul, reduceCtorEq, Int.reduceBEq, Int.reduceLT, Int.reduceLE, Int.reduceAdd, Int.reduceSub, Int.reduceEq, Int.reduceNeg, Int.reduceToNat, Int.reduceGT, Int.reduceGE, e]
  obtain ⟨y, e2, E2, B2⟩ := fin_bsl ((Ext.lo h).trans E) B
  rw [e2]
  exact ⟨id, _, rfl, E2, B2⟩

theorem copy_of' {h : H} {v : CV} {id m : Nat} {b : Blk} {cs : List CV} (B : BSl h v cs) (ho : cs.all CV.one = true) (hb : h.blk id = some b) (hro : b.ro = false) (hbn : b.n = m) {β : Type} {Q : Option β → Prop} {K : Out → Option β}
    (k : ∀ b' : Blk, b'.n = b.n → b'.ro = b.ro → (∀ i, b'.get i = if i < (cs.take m).length then nth cs i else b.get i) → Q (K (.upd (.int .i64 (Int.ofNat (min cs.length m))) (h.put id (.cells b'))))) : Q (@thn _ β (builtinT Try.prog h .copy [67, 67] [.sl id 0 m (.exact m), v]) ⟨K⟩) := by
  have hl : lenC v = some cs.length := by
    rcases B with ⟨rfl, rfl⟩ | ⟨rfl, _, rfl⟩ | ⟨_, _, _, _, rfl, _⟩ <;> rfl
  have hf : firstC h 1 (Nat.min cs.length m) v = some (cs.take m) := by
    rcases B with ⟨rfl, rfl⟩ | ⟨rfl, _, rfl⟩ | ⟨id', off, c, b', rfl, h1, h2, h3⟩
    · simp [firstC]
    · simp [firstC]
    · rw [firstC_sl, h2, bind_some', Nat.mul_one]
      obtain ⟨hl3, hg3⟩ := loadN_spec h3
      exact loadN_of _ _ _ (by rw [List.length_take, Nat.min_comm]) fun i v hv => by
        rw [nth_eq, List.getElem?_take] at hv
        split at hv
        · rename_i q
          have : i < cs.length := (List.getElem?_eq_some_iff.1 hv).1
          rw [hg3 i this, hv]
        · cases hv
  obtain ⟨b', e, hn', hr', hg'⟩ := storeN_ok (cs.take m) b 0 (by rw [List.length_take]; omega) (List.all_eq_true.2 fun x hx => List.all_eq_true.1 ho x (List.mem_of_mem_take hx))
  have : builtinT Try.prog h .copy [67, 67] [.sl id 0 m (.exact m), v] = uv (some (.int .i64 (Int.ofNat (min cs.length m)), h.put id (.cells b'))) := by
    simp only [builtinT, copyT, Try.underlying67, bind_some', sz_5, hl, lenC_sl, hf, hb, hro, cond_false, e]
    rfl
  rw [this]
  exact k b' hn' hr' fun i => by
    rw [hg']
    by_cases q : i < (cs.take m).length
    · rw [if_pos q, if_pos ⟨Nat.zero_le _, by omega⟩, nth_eq, nth_eq, List.getElem?_take, if_pos (by rw [List.length_take] at q; omega)]; rfl
    · rw [if_neg q, if_neg (by omega)]

theorem appE_step {h : H} {v : CV} {id n : Nat} {old cs : List CV} (O : BSl h (.sl id 0 n (.exact n)) old) (B : BSl h v cs) (ho : cs.all CV.one = true) (hr : n + cs.length ≤ 70368744177664) {β : Type} {Q : Option β → Prop} {K : Out → Option β}
    (k : ∀ s' h', Ext h h' → BSl h' s' (old ++ cs) → Q (K (.upd s' h'))) : Q (@thn _ β (builtinT Try.prog h .append [67, 67] [.sl id 0 n (.exact n), v]) ⟨K⟩) := by
  obtain ⟨b, hn, hid, hb, hld⟩ : ∃ b, n = old.length ∧ id < h.nx ∧ h.blk id = some b ∧ b.loadN 0 n = some old := by
    rcases O with ⟨_, h⟩ | ⟨_, _, h⟩ | ⟨id', off, c, b, e, h1, h2, h3⟩
    · cases h
    · cases h
    · cases e; exact ⟨b, rfl, h1, h2, h3⟩
  rw [B.app]
  have hg : (Nat.blt 0 1 && Nat.ble ((n + cs.length) * 1) 70368744177664 && Nat.ble (n + cs.length) 70368744177664 && Nat.beq 1 1 && Nat.beq cs.length (cs.length * 1) && cs.all CV.one) = true := by
    simp only [blt_eq', ble_eq', beq_eq', Bool.and_eq_true, decide_eq_true_eq]
    refine ⟨⟨⟨⟨⟨by decide, by omega⟩, by omega⟩, trivial⟩, by omega⟩, ho⟩
  by_cases h0 : cs = []
  · subst h0
    have : appS h 1 1 1 (.sl id 0 n (.exact n)) ([] : List CV).length (some []) = some (.sl id 0 n (.exact n), h) := by
      unfold appS
      rw [lenC_sl, bind_some', bind_some', hg, cond_true]
      dsimp only [List.length_nil]
      rw [ble_eq', decide_eq_true (by omega)]
      rfl
    rw [this]
    exact k _ _ (Ext.refl _) (by rw [List.append_nil]; exact O)
  · have hm : 0 < cs.length := List.length_pos_iff.2 h0
    have : appS h 1 1 1 (.sl id 0 n (.exact n)) cs.length (some cs) = some (.sl h.nx 0 (n + cs.length) (.opn 1), h.alloc (.cells (fillB ((n + cs.length) * 1) (old ++ cs)))) := by
      unfold appS
      rw [lenC_sl, bind_some', bind_some', hg, cond_true]
      dsimp only
      rw [ble_eq', decide_eq_false (by omega), cond_false, hb, bind_some', Nat.mul_one, hld, bind_some']
      rfl
    rw [this]
    refine k _ _ (Ext.alloc _ _) (.inr (.inr ⟨h.nx, 0, .opn 1, _, by rw [List.length_append, hn], by rw [alloc_nx]; omega, alloc_blk_same _ _ _ rfl, loadN_of _ _ _ rfl fun i v hv => ?_⟩))
    rw [Nat.zero_add, fillB_get _ _ _ (by rw [List.length_append, hn]; omega), hv]

theorem rblob_run (hσ : ∀ f a h, f ≠ 28 → σ f a h = none) {h : H} {v : CV} {xs : List Nat} (B : BSl h v (bc xs)) (h2 : xs.length ≤ 65535) : SOk h (be xs.length 2 ++ xs) ((lim Try.prog σ).call 56 [v] h) := by
  obtain ⟨id, x, e, E, B1⟩ := rnum_run hσ h.lo xs.length (by omega)
  rw [call_eq (hσ _ _ _ (by decide)) fn_56 rfl rfl, Try.ntmps56, Try.results56]
  have q2 : IntKind.wrap .u64 (Int.ofNat (bc xs).length) = Int.ofNat xs.length := by rw [bc_len]; exact nat_wrap (by omega)
  have E1 := (Ext.lo h).trans E
  simp only [go_sem, Nat.reduceLT, Nat.reduceLeDiff, Nat.reduceEqDiff, Nat.reduceAdd, Nat.reduceSub, Nat.reduceMul, reduceCtorEq, Int.reduceBEq, Int.reduceLT, Int.reduceLE, Int.reduceAdd, Int.reduceSub, Int.reduceEq, Int.reduceNeg, Int.reduceToNat, Int.reduceGT, Int.reduceGE, B.len, q2, e]
  refine appE_step (Q := SOk h _) B1 (B.ext E1) (bc_one _) (by rw [bc_len]; omega) ?_
  intro s' h' E3 B3
  simp only [go_sem, Nat.reduceLT, Nat.reduceLeDiff, Nat.reduceEqDiff, Nat.reduceAdd, Nat.reduceSub, Nat.reduceMul, reduceCtorEq, Int.reduceBEq, Int.reduceLT, Int.reduceLE, Int.reduceAdd, Int.reduceSub, Int.reduceEq, Int.reduceNeg, Int.reduceToNat, Int.reduceGT, Int.reduceGE]
  rw [← bc_app] at B3
  obtain ⟨y, e2, E4, B4⟩ := fin_bsl (E1.trans E3) B3
  rw [e2]
  exact ⟨_, _, rfl, E4, B4⟩

theorem ze_85 : zeroT Try.prog 85 = some (.agg (List.replicate 256 (.int .u8 0))) := by kernel_rfl
theorem rep_one : (List.replicate 256 (CV.int .u8 0)).all CV.one = true := by kernel_rfl
theorem okBL_bc (n : Nat) : ∀ xs : List Nat, okBL n (bc xs) = true
  | [] => rfl
  | x :: xs => by rw [show bc (x :: xs) = .int .u8 (Int.ofNat x) :: bc xs from rfl, okBL_cons, okBL_bc n xs]; rfl
def z256 : List Nat := List.replicate 256 0
theorem z256_len : z256.length = 256 := List.length_replicate
theorem z256_at {i : Nat} (h : i < 256) : z256[i]? = some 0 := by unfold z256; rw [List.getElem?_replicate, if_pos h]
def blkL (xs : List Nat) : List Nat := (xs ++ z256).take 256
theorem blkL_len (xs : List Nat) : (blkL xs).length = 256 := by unfold blkL; rw [List.length_take, List.length_append, z256_len]; omega
def BlkOf (xs : List Nat) (r : Option (CV × Option H)) : Prop := r = some (.agg (bc (blkL xs)), none)
theorem nlt {α : Type} {l : List α} {i : Nat} {v : α} (h : nth l i = some v) : i < l.length := by
  by_cases q : i < l.length
  · exact q
  · rw [nth_none _ _ (by omega)] at h; cases h
theorem block_of (hσ : ∀ f a h, f ≠ 28 → σ f a h = none) {h : H} {v : CV} {xs : List Nat} (B : BSl h v (bc xs)) : BlkOf xs ((lim Try.prog σ).call 42 [v] h) := by
  rw [call_eq (hσ _ _ _ (by decide)) fn_42 rfl rfl, Try.ntmps42, Try.results42]
  simp only [go_sem, Nat.reduceLT, Nat.reduceLeDiff, Nat.reduceEqDiff, Nat.reduceAdd, Nat.reduceSub, Nat.reduceMul, reduceCtorEq, Int.reduceBEq, Int.reduceLT, Int.reduceLE, Int.reduceAdd, Int.reduceSub, Int.reduceEq, Int.reduceNeg, Int.reduceToNat, Int.reduceGT, Int.reduceGE, sl_85, ze_85, rep_one]
  obtain ⟨zb, hzb⟩ : ∃ zb, zb = newBlk (List.replicate 256 (CV.int .u8 0)) := ⟨_, rfl⟩
  have hzn : zb.n = 256 := by rw [hzb, wnewBlk_n, List.length_replicate]
  have hzr : zb.ro = false := by rw [hzb, newBlk_ro]
  have hzg : ∀ i, i < 256 → zb.get i = some (.int .u8 0) := fun i hi => by rw [hzb, newBlk_get, nth_eq, List.getElem?_replicate, if_pos hi]
  rw [← hzb]
  clear hzb
  refine copy_of' (Q := BlkOf xs) (b := zb) (B.ext (((Ext.lo h).alloc' _).alloc' _)) (bc_one _) (alloc_blk_same _ _ _ (by rw [alloc_nx, lo_nx])) hzr hzn ?_
  intro b' hn' hr' hg'
  have hld : b'.loadN 0 256 = some (bc (blkL xs)) := loadN_of _ _ _ (by rw [bc_len, blkL_len]) fun i v hv => by
    have hi := nlt hv
    rw [bc_len, blkL_len] at hi
    rw [Nat.zero_add, hg']
    have hv' : (blkL xs)[i]?.map (fun b => CV.int .u8 (Int.ofNat b)) = some v := by rw [← hv, nth_eq]; simp [bc]
    unfold blkL at hv'
    rw [List.getElem?_take, if_pos hi, List.getElem?_append] at hv'
    by_cases q : i < xs.length
    · rw [if_pos q] at hv'
      rw [if_pos (by rw [List.length_take, bc_len]; omega), nth_eq, ← hv']
      simp [bc]
    · rw [if_neg q, z256_at (by omega)] at hv'
      rw [if_neg (by rw [List.length_take, bc_len]; omega), hzg i hi, ← hv']
      rfl
  obtain ⟨b2, e2, hn2, hr2, hg2⟩ := storeA_ok (bc (blkL xs)) zb 0 (by rw [bc_len, blkL_len, hzn]; omega) (bc_one _)
  have hld2 : b2.loadN 0 256 = some (bc (blkL xs)) := loadN_of _ _ _ (by rw [bc_len, blkL_len]) fun i v hv => by
    have hi := nlt hv
    rw [Nat.zero_add, hg2, if_pos ⟨Nat.zero_le _, by omega⟩]
    exact hv
  have hne : h.nx ≠ h.nx + 1 := by omega
  have hlen : (bc (blkL xs)).length = 256 := by rw [bc_len, blkL_len]
  simp only [go_sem, Nat.reduceLT, Nat.reduceLeDiff, Nat.reduceEqDiff, Nat.reduceAdd, Nat.reduceSub, Nat.reduceMul, reduceCtorEq, Int.reduceBEq, Int.reduceLT, Int.reduceLE, Int.reduceAdd, Int.reduceSub, Int.reduceEq, Int.reduceNeg, Int.reduceToNat, Int.reduceGT, Int.reduceGE, hld, hne, hzr, e2, hld2, hlen]
  rw [fin_q _ _ _ (by simp only [go_sem, Nat.reduceLT, Nat.reduceLeDiff, Nat.reduceEqDiff, Nat.reduceAdd, Nat.reduceSub, Nat.reduceMul, reduceCtorEq, Int.reduceBEq, Int.reduceLT, Int.reduceLE, Int.reduceAdd, Int.reduceSub, Int.reduceEq, Int.reduceNeg, Int.reduceToNat, Int.reduceGT, Int.reduceGE]; omega) (by rw [okB_agg]; exact okBL_bc _ _)]
  rfl

/-! ### a part, as the document has it -/
def pB (kind size : Int) (n : Nat) (xs : List Nat) : List Nat :=
  if kind = 1 then (if sizeOk size then be n size.toNat else []) else if kind = 2 then [if n % 2 = 1 then 1 else 0] else if kind = 3 then xs else if kind = 4 then be xs.length 2 ++ xs
  else if kind = 5 then [(size % 256).toNat] else if kind = 6 then blkL xs else []
def pG (kind size : Int) (n : Nat) : Bool := if kind = 1 then sizeOk size && decide (n / 256 ^ size.toNat = 0) else if kind = 5 then decide (0 ≤ size ∧ size ≤ 255) else true
def partC (kind size : Int) (n : Nat) (v : CV) : CV := .agg [.int .i64 kind, .int .i64 size, .int .u64 (Int.ofNat n), v]

theorem wrap_u8i (a : Int) : IntKind.wrap .u8 a = Int.ofNat (a % 256).toNat := by
  unfold IntKind.wrap
  simp only [IntKind.bits, IntKind.signed, Bool.false_and, show (2 ^ 8 : Int) = 256 from rfl]
  simp; omega

set_option maxRecDepth 100000 in
theorem part_run (hσ : ∀ f a h, f ≠ 28 → σ f a h = none) {h : H} {v : CV} {xs : List Nat} (B : BSl h v (bc xs)) (kind size : Int) (n : Nat) (hn : n < 2 ^ 64) (h2 : xs.length ≤ 65535) :
    BOk h (pB kind size n xs) (pG kind size n) ((lim Try.prog σ).call 29 [partC kind size n v] h) := by
  rw [call_eq (hσ _ _ _ (by decide)) fn_29 rfl rfl, Try.ntmps29, Try.results29]
  obtain ⟨v1, v2⟩ := B.one
  obtain ⟨X, hX⟩ : ∃ X, X = h.lo.alloc (.cells (newBlk [.int .i64 kind, .int .i64 size, .int .u64 (Int.ofNat n), v])) := ⟨_, rfl⟩
  have E : Ext h X := by rw [hX]; exact (Ext.lo h).alloc' _
  have hXb : X.blk h.nx = some (newBlk [.int .i64 kind, .int .i64 size, .int .u64 (Int.ofNat n), v]) := by rw [hX]; exact alloc_blk_same _ _ _ rfl
  have hXn : X.nx = h.nx + 1 := by rw [hX]; rfl
  have hXr : h.nx ≠ X.nx := by omega
  have BX := B.ext E
  by_cases k1 : kind = 1
  · subst k1
    obtain ⟨u, x, e, E1, B1, _⟩ := put_run hσ X n hn size
    simp only [partC, go_sem, Nat.reduceLT, Nat.reduceLeDiff, Nat.reduceEqDiff, Nat.reduceAdd, Nat.reduceSub, Nat.reduceMul, reduceCtorEq, Int.reduceBEq, Int.reduceLT, Int.reduceLE, Int.reduceAdd, Int.reduceSub, Int.reduceEq, Int.reduceNeg, Int.reduceToNat, Int.reduceGT, Int.reduceGE, v1, ← hX, hXb, e]
    obtain ⟨y, e2, E2, B2⟩ := fin_bslT (E.trans E1) B1 (sizeOk size && decide (n / 256 ^ size.toNat = 0))
    rw [e2]
    exact ⟨_, _, rfl, E2, B2⟩
  by_cases k2 : kind = 2
  · subst k2
    obtain ⟨u, x, e, E1, B1⟩ := rflag_run hσ X (decide (n % 2 = 1))
    have q : (Int.ofNat n).tmod 2 = Int.ofNat (n % 2) := rfl
    have q2 : decide (Int.ofNat (n % 2) = 1) = decide (n % 2 = 1) := by
      by_cases c : n % 2 = 1
      · rw [c]; rfl
      · rw [decide_eq_false c]; exact decide_eq_false fun e => c (Int.ofNat.inj e)
    simp only [partC, go_sem, Nat.reduceLT, Nat.reduceLeDiff, Nat.reduceEqDiff, Nat.reduceAdd, Nat.reduceSub, Nat.reduceMul, reduceCtorEq, Int.reduceBEq, Int.reduceLT, Int.reduceLE, Int.reduceAdd, Int.reduceSub, Int.reduceEq, Int.reduceNeg, Int.reduceToNat, Int.reduceGT, Int.reduceGE, v1, ← hX, hXb, q, q2, e]
    have B1' : BSl (x.getD X) u (bc (pB 2 size n xs)) := by
      rw [show pB 2 size n xs = [if n % 2 = 1 then 1 else 0] from rfl]
      simpa using B1
    obtain ⟨y, e2, E2, B2⟩ := fin_bslT (E.trans E1) B1' true
    rw [e2]
    exact ⟨_, _, rfl, E2, B2⟩
  by_cases k3 : kind = 3
  · subst k3
    simp only [partC, go_sem, Nat.reduceLT, Nat.reduceLeDiff, Nat.reduceEqDiff, Nat.reduceAdd, Nat.reduceSub, Nat.reduceMul, reduceCtorEq, Int.reduceBEq, Int.reduceLT, Int.reduceLE, Int.reduceAdd, Int.reduceSub, Int.reduceEq, Int.reduceNeg, Int.reduceToNat, Int.reduceGT, Int.reduceGE, v1, ← hX, hXb]
    obtain ⟨y, e2, E2, B2⟩ := fin_bslT (E) BX true
    rw [e2]
    exact ⟨_, _, rfl, E2, B2⟩
  by_cases k4 : kind = 4
  · subst k4
    obtain ⟨u, x, e, E1, B1⟩ := rblob_run hσ BX h2
    simp only [partC, go_sem, Nat.reduceLT, Nat.reduceLeDiff, Nat.reduceEqDiff, Nat.reduceAdd, Nat.reduceSub, Nat.reduceMul, reduceCtorEq, Int.reduceBEq, Int.reduceLT, Int.reduceLE, Int.reduceAdd, Int.reduceSub, Int.reduceEq, Int.reduceNeg, Int.reduceToNat, Int.reduceGT, Int.reduceGE, v1, ← hX, hXb, e]
    obtain ⟨y, e2, E2, B2⟩ := fin_bslT (E.trans E1) B1 true
    rw [e2]
    exact ⟨_, _, rfl, E2, B2⟩
  by_cases k5 : kind = 5
  · subst k5
    simp only [partC, go_sem, Nat.reduceLT, Nat.reduceLeDiff, Nat.reduceEqDiff, Nat.reduceAdd, Nat.reduceSub, Nat.reduceMul, reduceCtorEq, Int.reduceBEq, Int.reduceLT, Int.reduceLE, Int.reduceAdd, Int.reduceSub, Int.reduceEq, Int.reduceNeg, Int.reduceToNat, Int.reduceGT, Int.reduceGE, v1, ← hX, hXb]
    rw [cnd_closed]
    rotate_left
    · kernel_rfl
    have E1 : Ext h (X.alloc (.cells (({ n := 1, d := [.int .u8 0], t := .nil } : Blk).st 0 (.int .u8 (.ofNat (size % 256).toNat))))) := E.alloc' _
    have B1 : BSl (X.alloc (.cells (({ n := 1, d := [.int .u8 0], t := .nil } : Blk).st 0 (.int .u8 (.ofNat (size % 256).toNat))))) (.sl X.nx 0 1 (.exact 1)) (bc [(size % 256).toNat]) :=
      .inr (.inr ⟨_, _, _, _, rfl, by simp only [go_sem, Nat.reduceLT, Nat.reduceLeDiff, Nat.reduceEqDiff, Nat.reduceAdd, Nat.reduceSub, Nat.reduceMul, reduceCtorEq, Int.reduceBEq, Int.reduceLT, Int.reduceLE, Int.reduceAdd, Int.reduceSub, Int.reduceEq, Int.reduceNeg, Int.reduceToNat, Int.reduceGT, Int.reduceGE], alloc_blk_same _ _ _ rfl, rfl⟩)
    by_cases c0 : size ≥ 0
    · simp only [partC, go_sem, Nat.reduceLT, Nat.reduceLeDiff, Nat.reduceEqDiff, Nat.reduceAdd, Nat.reduceSub, Nat.reduceMul, reduceCtorEq, Int.reduceBEq, Int.reduceLT, Int.reduceLE, Int.reduceAdd, Int.reduceSub, Int.reduceEq, Int.reduceNeg, Int.reduceToNat, Int.reduceGT, Int.reduceGE, v1, ← hX, hXb, hXr, c0, wrap_u8i]
      rw [cnd_closed]
      rotate_left
      · kernel_rfl
      simp only [partC, go_sem, Nat.reduceLT, Nat.reduceLeDiff, Nat.reduceEqDiff, Nat.reduceAdd, Nat.reduceSub, Nat.reduceMul, reduceCtorEq, Int.reduceBEq, Int.reduceLT, Int.reduceLE, Int.reduceAdd, Int.reduceSub, Int.reduceEq, Int.reduceNeg, Int.reduceToNat, Int.reduceGT, Int.reduceGE, v1, ← hX, hXb, hXr, c0, wrap_u8i]
      obtain ⟨y, e2, E2, B2⟩ := fin_bslT E1 B1 (decide (size ≤ 255))
      rw [e2, show pG 5 size n = decide (size ≤ 255) from by
        have : (0 ≤ size ∧ size ≤ 255) = (size ≤ 255) := by simp; omega
        simp [pG, this]]
      exact ⟨_, _, rfl, E2, B2⟩
    · simp only [partC, go_sem, Nat.reduceLT, Nat.reduceLeDiff, Nat.reduceEqDiff, Nat.reduceAdd, Nat.reduceSub, Nat.reduceMul, reduceCtorEq, Int.reduceBEq, Int.reduceLT, Int.reduceLE, Int.reduceAdd, Int.reduceSub, Int.reduceEq, Int.reduceNeg, Int.reduceToNat, Int.reduceGT, Int.reduceGE, v1, ← hX, hXb, hXr, c0, wrap_u8i]
      rw [cnd_closed]
      rotate_left
      · kernel_rfl
      simp only [partC, go_sem, Nat.reduceLT, Nat.reduceLeDiff, Nat.reduceEqDiff, Nat.reduceAdd, Nat.reduceSub, Nat.reduceMul, reduceCtorEq, Int.reduceBEq, Int.reduceLT, Int.reduceLE, Int.reduceAdd, Int.reduceSub, Int.reduceEq, Int.reduceNeg, Int.reduceToNat, Int.reduceGT, Int.reduceGE, v1, ← hX, hXb, hXr, c0, wrap_u8i]
      obtain ⟨y, e2, E2, B2⟩ := fin_bslT E1 B1 false
      rw [e2, show pG 5 size n = false from decide_eq_false fun q => c0 q.1]
      exact ⟨_, _, rfl, E2, B2⟩
  by_cases k6 : kind = 6
  · subst k6
    have e : (lim Try.prog σ).call 42 [v] X = some (.agg (bc (blkL xs)), none) := block_of hσ BX
    simp only [partC, go_sem, Nat.reduceLT, Nat.reduceLeDiff, Nat.reduceEqDiff, Nat.reduceAdd, Nat.reduceSub, Nat.reduceMul, reduceCtorEq, Int.reduceBEq, Int.reduceLT, Int.reduceLE, Int.reduceAdd, Int.reduceSub, Int.reduceEq, Int.reduceNeg, Int.reduceToNat, Int.reduceGT, Int.reduceGE, v1, ← hX, hXb, e, ze_85, rep_one]
    obtain ⟨zb, hzb⟩ : ∃ zb, zb = newBlk (List.replicate 256 (CV.int .u8 0)) := ⟨_, rfl⟩
    have hzn : zb.n = 256 := by rw [hzb, wnewBlk_n, List.length_replicate]
    have hzr : zb.ro = false := by rw [hzb, newBlk_ro]
    rw [← hzb]
    clear hzb
    obtain ⟨b2, e2, hn2, hr2, hg2⟩ := storeA_ok (bc (blkL xs)) zb 0 (by rw [bc_len, blkL_len, hzn]; omega) (bc_one _)
    have hlen : (bc (blkL xs)).length = 256 := by rw [bc_len, blkL_len]
    have hld2 : b2.loadN 0 256 = some (bc (blkL xs)) := loadN_of _ _ _ (by rw [bc_len, blkL_len]) fun i v hv => by
      have hi := nlt hv
      rw [Nat.zero_add, hg2, if_pos ⟨Nat.zero_le _, by omega⟩]
      exact hv
    simp only [partC, go_sem, Nat.reduceLT, Nat.reduceLeDiff, Nat.reduceEqDiff, Nat.reduceAdd, Nat.reduceSub, Nat.reduceMul, reduceCtorEq, Int.reduceBEq, Int.reduceLT, Int.reduceLE, Int.reduceAdd, Int.reduceSub, Int.reduceEq, Int.reduceNeg, Int.reduceToNat, Int.reduceGT, Int.reduceGE, v1, ← hX, hXb, e, hzr, hlen, e2, sl_85]
    have E1 : Ext h ((X.alloc (.cells zb)).put X.nx (.cells b2)) := (E.alloc' _).put _ E.nx
    have B1 : BSl ((X.alloc (.cells zb)).put X.nx (.cells b2)) (.sl X.nx 0 256 (.exact 256)) (bc (blkL xs)) :=
      .inr (.inr ⟨_, 0, .exact 256, _, by rw [hlen], by simp only [go_sem, Nat.reduceLT, Nat.reduceLeDiff, Nat.reduceEqDiff, Nat.reduceAdd, Nat.reduceSub, Nat.reduceMul, reduceCtorEq, Int.reduceBEq, Int.reduceLT, Int.reduceLE, Int.reduceAdd, Int.reduceSub, Int.reduceEq, Int.reduceNeg, Int.reduceToNat, Int.reduceGT, Int.reduceGE], put_blk_same _ _ _, by rw [hlen]; exact hld2⟩)
    obtain ⟨y, e2, E2, B2⟩ := fin_bslT E1 B1 true
    rw [e2]
    exact ⟨_, _, rfl, E2, B2⟩
  simp only [partC, go_sem, Nat.reduceLT, Nat.reduceLeDiff, Nat.reduceEqDiff, Nat.reduceAdd, Nat.reduceSub, Nat.reduceMul, reduceCtorEq, Int.reduceBEq, Int.reduceLT, Int.reduceLE, Int.reduceAdd, Int.reduceSub, Int.reduceEq, Int.reduceNeg, Int.reduceToNat, Int.reduceGT, Int.reduceGE, v1, ← hX, hXb, k1, k2, k3, k4, k5, k6]
  obtain ⟨y, e2, E2, B2⟩ := fin_bslT (cs := []) E (.inl ⟨rfl, rfl⟩) true
  rw [e2, show pB kind size n xs = [] by simp [pB, k1, k2, k3, k4, k5, k6], show pG kind size n = true by simp [pG, k1, k5]]
  exact ⟨_, _, rfl, E2, B2⟩
end Go.Cl.A

namespace Go.Cl.A
variable {σ : Sums}

/-- a part: its numbers, its slice's value, its bytes -/
structure Part where
  kind : Int
  size : Int
  n : Nat
  v : CV
  xs : List Nat
def pcells : List Part → List CV
  | [] => []
  | p :: l => .int .i64 p.kind :: .int .i64 p.size :: .int .u64 (Int.ofNat p.n) :: p.v :: pcells l
theorem pcells_at : ∀ (l : List Part) (i : Nat) (p : Part), l[i]? = some p → nth (pcells l) (i * 4) = some (.int .i64 p.kind) ∧ nth (pcells l) (i * 4 + 1) = some (.int .i64 p.size) ∧ nth (pcells l) (i * 4 + 2) = some (.int .u64 (Int.ofNat p.n)) ∧ nth (pcells l) (i * 4 + 3) = some p.v
  | [], i, g, h => by simp at h
  | a :: l, 0, g, h => by simp at h; subst h; exact ⟨rfl, rfl, rfl, rfl⟩
  | a :: l, i + 1, g, h => by
    have := pcells_at l i g (by simpa using h)
    rw [show (i + 1) * 4 = i * 4 + 1 + 1 + 1 + 1 by omega]
    exact this

structure Parts (h : H) (v : CV) (l : List Part) : Prop where
  sl : Sl Try.prog 65 h v 4 l.length (pcells l)
  ok : ∀ p ∈ l, BSl h p.v (bc p.xs) ∧ p.n < 2 ^ 64 ∧ (∀ b ∈ p.xs, b < 256) ∧ p.v.one = true
theorem Parts.at_ {h : H} {v : CV} {l : List Part} (P : Parts h v l) {i : Nat} {p : Part} (hp : l[i]? = some p) :
    ∃ id off b, (∀ kd, indexAddrT Try.prog 65 v (.int kd (Int.ofNat i)) = some (.ptr id off)) ∧ id < h.nx ∧ h.blk id = some b ∧ b.get off = some (.int .i64 p.kind) ∧ b.get (off + 1) = some (.int .i64 p.size) ∧ b.get (off + 2) = some (.int .u64 (Int.ofNat p.n)) ∧ b.get (off + 3) = some p.v := by
  have hi : i < l.length := (List.getElem?_eq_some_iff.1 hp).1
  obtain ⟨id, off, b, h1, h2, h3, _, h5⟩ := P.sl.elt i hi
  obtain ⟨q0, q1, q2, q3⟩ := pcells_at l i p hp
  exact ⟨id, off, b, h1, h2, h3, h5 0 _ (by decide) q0, h5 1 _ (by decide) q1, h5 2 _ (by decide) q2, h5 3 _ (by decide) q3⟩

def total : List Part → Nat
  | [] => 0
  | p :: l => min p.xs.length 20001 + total l
theorem total_app (l k : List Part) : total (l ++ k) = total l + total k := by
  induction l with
  | nil => simp [total]
  | cons a l ih => simp [total, ih]; omega

theorem total_take (l : List Part) (i : Nat) : total (l.take i) ≤ total l := by
  have := total_app (l.take i) (l.drop i)
  rw [List.take_append_drop] at this
  omega
theorem total_mem : ∀ {l : List Part} {p : Part}, p ∈ l → min p.xs.length 20001 ≤ total l
  | a :: l, p, h => by
    rcases List.mem_cons.1 h with rfl | h
    · simp [total]
    · have := total_mem h
      simp [total]; omega
def muchOf (l : List Part) : Bool := decide (40 < l.length) || decide (20000 < total (l.take 41))

theorem bi_min {P : Program} (h : H) (ts : List TypeId) (k k' : IntKind) (a b : Int) : builtinT P h .min ts [.int k a, .int k' b] = some (.val (.int k (if b < a then b else a))) := rfl
def MuchIs (l : List Part) (r : Option (CV × Option H)) : Prop := r = some (.bool (muchOf l), none)
set_option maxRecDepth 100000 in
theorem much_run (hσ : ∀ f a h, f ≠ 28 → σ f a h = none) {h : H} {v : CV} {l : List Part} (P : Parts h v l) :
    MuchIs l ((lim Try.prog σ).call 27 [v] h) := by
  rw [call_eq (hσ _ _ _ (by decide)) fn_27 rfl rfl, Try.ntmps27, Try.results27]
  simp only [go_sem, Nat.reduceLT, Nat.reduceLeDiff, Nat.reduceEqDiff, Nat.reduceAdd, Nat.reduceSub, Nat.reduceMul, reduceCtorEq, Int.reduceBEq, Int.reduceLT, Int.reduceLE, Int.reduceAdd, Int.reduceSub, Int.reduceEq, Int.reduceNeg, Int.reduceToNat, Int.reduceGT, Int.reduceGE]
  refine loop_ind (Q := MuchIs l) (fun i env h' => evT env 0 = v ∧ evT env 4 = .int .i64 (Int.ofNat i) ∧ evT env 3 = .int .i64 (Int.ofNat (total (l.take i))) ∧ h' = h.lo) (min l.length 41) 0 ?_ (Nat.zero_le _) ?_ ?_
  · refine ⟨by simp only [go_sem, Nat.reduceLT, Nat.reduceLeDiff, Nat.reduceEqDiff, Nat.reduceAdd, Nat.reduceSub, Nat.reduceMul, reduceCtorEq, Int.reduceBEq, Int.reduceLT, Int.reduceLE, Int.reduceAdd, Int.reduceSub, Int.reduceEq, Int.reduceNeg, Int.reduceToNat, Int.reduceGT, Int.reduceGE], by simp only [go_sem, Nat.reduceLT, Nat.reduceLeDiff, Nat.reduceEqDiff, Nat.reduceAdd, Nat.reduceSub, Nat.reduceMul, reduceCtorEq, Int.reduceBEq, Int.reduceLT, Int.reduceLE, Int.reduceAdd, Int.reduceSub, Int.reduceEq, Int.reduceNeg, Int.reduceToNat, Int.reduceGT, Int.reduceGE]; rfl, by simp only [go_sem, Nat.reduceLT, Nat.reduceLeDiff, Nat.reduceEqDiff, Nat.reduceAdd, Nat.reduceSub, Nat.reduceMul, reduceCtorEq, Int.reduceBEq, Int.reduceLT, Int.reduceLE, Int.reduceAdd, Int.reduceSub, Int.reduceEq, Int.reduceNeg, Int.reduceToNat, Int.reduceGT, Int.reduceGE]; rfl, by simp only [go_sem, Nat.reduceLT, Nat.reduceLeDiff, Nat.reduceEqDiff, Nat.reduceAdd, Nat.reduceSub, Nat.reduceMul, reduceCtorEq, Int.reduceBEq, Int.reduceLT, Int.reduceLE, Int.reduceAdd, Int.reduceSub, Int.reduceEq, Int.reduceNeg, Int.reduceToNat, Int.reduceGT, Int.reduceGE]⟩
  · rintro i env h' ⟨e0, e4, e3, rfl⟩ hi next
    have hi1 : i < l.length := by omega
    obtain ⟨p, hp⟩ : ∃ p, l[i]? = some p := ⟨_, List.getElem?_eq_getElem hi1⟩
    obtain ⟨id, off, b, hix, hid, hb, g0, g1, g2, g3⟩ := P.at_ hp
    have hpm : p ∈ l := List.mem_of_getElem? hp
    obtain ⟨B, _, _, hone⟩ := P.ok p hpm
    have hlt := ofNat_lt hi1
    have h40 : Int.ofNat i ≤ 40 := by simp; omega
    have hw : IntKind.wrap .i64 (Int.ofNat i + 1) = Int.ofNat (i + 1) := wrap_succ (by omega)
    have htk : l.take (i + 1) = l.take i ++ [p] := by rw [List.take_add_one, hp]; rfl
    have htot : total (l.take i) ≤ 41 * 20001 := by
      have : ∀ k : List Part, total k ≤ k.length * 20001 := fun k => by
        induction k with
        | nil => simp [total]
        | cons a k ih => simp [total]; omega
      have q := this (l.take i)
      have q2 : (l.take i).length ≤ 41 := by rw [List.length_take]; omega
      have := Nat.mul_le_mul_right 20001 q2
      omega
    have hmin : (if (20001 : Int) < Int.ofNat p.xs.length then 20001 else Int.ofNat p.xs.length) = Int.ofNat (min p.xs.length 20001) := by
      simp; split <;> omega
    have hw2 : IntKind.wrap .i64 (Int.ofNat (total (l.take i)) + Int.ofNat (min p.xs.length 20001)) = Int.ofNat (total (l.take (i + 1))) := by
      rw [htk, total_app, wrap_i64 (by simp; omega) (by simp; omega)]
      simp [total]
    simp only [go_sem, Nat.reduceLT, Nat.reduceLeDiff, Nat.reduceEqDiff, Nat.reduceAdd, Nat.reduceSub, Nat.reduceMul, reduceCtorEq, Int.reduceBEq, Int.reduceLT, Int.reduceLE, Int.reduceAdd, Int.reduceSub, Int.reduceEq, Int.reduceNeg, Int.reduceToNat, Int.reduceGT, Int.reduceGE, e0, e4, e3, P.sl.len, hlt, h40, hix, hb, g3, B.len, bc_len, bi_min, hmin, hw, hw2]
    exact next _ _ ⟨by simp only [go_sem, Nat.reduceLT, Nat.reduceLeDiff, Nat.reduceEqDiff, Nat.reduceAdd, Nat.reduceSub, Nat.reduceMul, reduceCtorEq, Int.reduceBEq, Int.reduceLT, Int.reduceLE, Int.reduceAdd, Int.reduceSub, Int.reduceEq, Int.reduceNeg, Int.reduceToNat, Int.reduceGT, Int.reduceGE, e0], by simp only [go_sem, Nat.reduceLT, Nat.reduceLeDiff, Nat.reduceEqDiff, Nat.reduceAdd, Nat.reduceSub, Nat.reduceMul, reduceCtorEq, Int.reduceBEq, Int.reduceLT, Int.reduceLE, Int.reduceAdd, Int.reduceSub, Int.reduceEq, Int.reduceNeg, Int.reduceToNat, Int.reduceGT, Int.reduceGE], by simp only [go_sem, Nat.reduceLT, Nat.reduceLeDiff, Nat.reduceEqDiff, Nat.reduceAdd, Nat.reduceSub, Nat.reduceMul, reduceCtorEq, Int.reduceBEq, Int.reduceLT, Int.reduceLE, Int.reduceAdd, Int.reduceSub, Int.reduceEq, Int.reduceNeg, Int.reduceToNat, Int.reduceGT, Int.reduceGE], by simp only [go_sem, Nat.reduceLT, Nat.reduceLeDiff, Nat.reduceEqDiff, Nat.reduceAdd, Nat.reduceSub, Nat.reduceMul, reduceCtorEq, Int.reduceBEq, Int.reduceLT, Int.reduceLE, Int.reduceAdd, Int.reduceSub, Int.reduceEq, Int.reduceNeg, Int.reduceToNat, Int.reduceGT, Int.reduceGE]⟩
  · rintro env h' ⟨e0, e4, e3, rfl⟩
    by_cases hc : l.length ≤ 41
    · have hmin : min l.length 41 = l.length := by omega
      rw [hmin] at e4 e3
      have hlt := ofNat_nlt (Nat.le_refl l.length)
      rw [List.take_of_length_le (Nat.le_refl _)] at e3
      by_cases h40 : Int.ofNat l.length > 40
      · simp only [go_sem, Nat.reduceLT, Nat.reduceLeDiff, Nat.reduceEqDiff, Nat.reduceAdd, Nat.reduceSub, Nat.reduceMul, reduceCtorEq, Int.reduceBEq, Int.reduceLT, Int.reduceLE, Int.reduceAdd, Int.reduceSub, Int.reduceEq, Int.reduceNeg, Int.reduceToNat, Int.reduceGT, Int.reduceGE, e0, e4, e3, P.sl.len, hlt, h40]
        rw [fin_q _ _ _ rfl rfl]
        exact congrArg (fun b => some (CV.bool b, none)) (show true = muchOf l by
          unfold muchOf; rw [decide_eq_true (show 40 < l.length by simp at h40; omega)]; rfl)
      · simp only [go_sem, Nat.reduceLT, Nat.reduceLeDiff, Nat.reduceEqDiff, Nat.reduceAdd, Nat.reduceSub, Nat.reduceMul, reduceCtorEq, Int.reduceBEq, Int.reduceLT, Int.reduceLE, Int.reduceAdd, Int.reduceSub, Int.reduceEq, Int.reduceNeg, Int.reduceToNat, Int.reduceGT, Int.reduceGE, e0, e4, e3, P.sl.len, hlt, h40]
        rw [fin_q _ _ _ rfl rfl]
        exact congrArg (fun b => some (CV.bool b, none)) (show _ = muchOf l by
          unfold muchOf
          rw [decide_eq_false (show ¬ 40 < l.length by simp at h40; omega), Bool.false_or, List.take_of_length_le hc]
          by_cases q : 20000 < total l
          · rw [decide_eq_true q]; exact decide_eq_true (by simp; omega)
          · rw [decide_eq_false q]; exact decide_eq_false (by simp; omega))
    · have hmin : min l.length 41 = 41 := by omega
      rw [hmin] at e4 e3
      have hlt : Int.ofNat 41 < Int.ofNat l.length := ofNat_lt (by omega)
      have h41 : ¬ Int.ofNat 41 ≤ 40 := by decide
      have h40 : Int.ofNat l.length > 40 := by simp; omega
      simp only [go_sem, Nat.reduceLT, Nat.reduceLeDiff, Nat.reduceEqDiff, Nat.reduceAdd, Nat.reduceSub, Nat.reduceMul, reduceCtorEq, Int.reduceBEq, Int.reduceLT, Int.reduceLE, Int.reduceAdd, Int.reduceSub, Int.reduceEq, Int.reduceNeg, Int.reduceToNat, Int.reduceGT, Int.reduceGE, e0, e4, e3, P.sl.len, hlt, h41, h40]
      rw [fin_q _ _ _ rfl rfl]
      exact congrArg (fun b => some (CV.bool b, none)) (show true = muchOf l by
        unfold muchOf; rw [decide_eq_true (show 40 < l.length by omega)]; rfl)

/-- what the writer makes of a part -/
def pW (p : Part) : Option (List Nat) :=
  if p.kind = 1 then numB p.n p.size else if p.kind = 2 then some [if p.n % 2 = 1 then 1 else 0] else if p.kind = 3 then some p.xs else if p.kind = 4 then some (be p.xs.length 2 ++ p.xs)
  else if p.kind = 5 then (if 0 ≤ p.size ∧ p.size ≤ 255 then some [p.size.toNat] else none) else if p.kind = 6 then some (blkL p.xs) else some []
def wAll (l : List Part) : Bool × List Nat := l.foldl (fun s p => wput s (pW p)) (false, [])
theorem wAll_app (l : List Part) (p : Part) : wAll (l ++ [p]) = wput (wAll l) (pW p) := by simp [wAll]

theorem pW_len (p : Part) (xs : List Nat) (e : pW p = some xs) : xs.length ≤ p.xs.length + 256 := by
  unfold pW numB sizeOk at e
  repeat' split at e
  all_goals (first | cases e | skip)
  all_goals (first | (simp [be_len, blkL_len]; done) | (simp [be_len, blkL_len]; omega) | skip)
  rename_i h1 h2 h3
  have : p.size = 1 ∨ p.size = 2 ∨ p.size = 4 ∨ p.size = 8 := of_decide_eq_true h2
  rw [be_len]; omega
theorem wput_len (s : Bool × List Nat) (p : Part) : (wput s (pW p)).2.length ≤ s.2.length + p.xs.length + 256 := by
  unfold wput
  split
  · omega
  · cases e : pW p with
    | none => simp; omega
    | some xs => have := pW_len p xs e; simp; omega

theorem wok_step {β : Type} {Q : Option β → Prop} {X : H} {w lid : Nat} {s : Bool × List Nat} {r : Option (CV × Option H)} {K : CV → Option H → Option β} (W : WOk X w lid s r)
    (k : ∀ x lid', WrAt (x.getD X) w lid' s.1 s.2 → WFr X (x.getD X) w lid → (lid' = lid ∨ X.nx ≤ lid') → Q (K (.ptr w 0) x)) : Q (@thn _ β r ⟨KP K⟩) := by
  obtain ⟨x, lid', rfl, A, F, hl, _⟩ := W
  exact k x lid' A F hl

structure PutI (h : H) (v : CV) (env : T CV) (h' : H) (s : Bool × List Nat) : Prop where
  e0 : evT env 0 = v
  e3 : evT env 3 = .ptr h.nx 0
  w : ∃ lid, h.nx ≤ lid ∧ WrAt h' h.nx lid s.1 s.2
  ext : Ext h h'

def PutOk (h : H) (s : Bool × List Nat) (r : Option (CV × Option H)) : Prop := ∃ h' lid, r = some (.ptr h.nx 0, some h') ∧ h.nx ≤ lid ∧ WrAt h' h.nx lid s.1 s.2 ∧ Ext h h'

set_option maxRecDepth 100000 in
theorem puts_run (hσ : ∀ f a h, f ≠ 28 → σ f a h = none) {h : H} {v : CV} {l : List Part} (P : Parts h v l) (h40 : l.length ≤ 40) (htot : total l ≤ 20000) :
    PutOk h (wAll l) ((lim Try.prog σ).call 30 [v] h) := by
  rw [call_eq (hσ _ _ _ (by decide)) fn_30 rfl rfl, Try.ntmps30, Try.results30]
  simp only [go_sem, Nat.reduceLT, Nat.reduceLeDiff, Nat.reduceEqDiff, Nat.reduceAdd, Nat.reduceSub, Nat.reduceMul, reduceCtorEq, Int.reduceBEq, Int.reduceLT, Int.reduceLE, Int.reduceAdd, Int.reduceSub, Int.reduceEq, Int.reduceNeg, Int.reduceToNat, Int.reduceGT, Int.reduceGE]
  refine loop_ind (Q := PutOk h (wAll l)) (fun i env h' => evT env 4 = .int .i64 (Int.ofNat i) ∧ PutI h v env h' (wAll (l.take i)) ∧ (wAll (l.take i)).2.length ≤ total (l.take i) + 256 * i) l.length 0 ?_ (Nat.zero_le _) ?_ ?_
  · refine ⟨by simp only [go_sem, Nat.reduceLT, Nat.reduceLeDiff, Nat.reduceEqDiff, Nat.reduceAdd, Nat.reduceSub, Nat.reduceMul, reduceCtorEq, Int.reduceBEq, Int.reduceLT, Int.reduceLE, Int.reduceAdd, Int.reduceSub, Int.reduceEq, Int.reduceNeg, Int.reduceToNat, Int.reduceGT, Int.reduceGE]; rfl, ⟨by simp only [go_sem, Nat.reduceLT, Nat.reduceLeDiff, Nat.reduceEqDiff, Nat.reduceAdd, Nat.reduceSub, Nat.reduceMul, reduceCtorEq, Int.reduceBEq, Int.reduceLT, Int.reduceLE, Int.reduceAdd, Int.reduceSub, Int.reduceEq, Int.reduceNeg, Int.reduceToNat, Int.reduceGT, Int.reduceGE], by simp only [go_sem, Nat.reduceLT, Nat.reduceLeDiff, Nat.reduceEqDiff, Nat.reduceAdd, Nat.reduceSub, Nat.reduceMul, reduceCtorEq, Int.reduceBEq, Int.reduceLT, Int.reduceLE, Int.reduceAdd, Int.reduceSub, Int.reduceEq, Int.reduceNeg, Int.reduceToNat, Int.reduceGT, Int.reduceGE], ⟨h.nx, Nat.le_refl _, by simp only [go_sem, Nat.reduceLT, Nat.reduceLeDiff, Nat.reduceEqDiff, Nat.reduceAdd, Nat.reduceSub, Nat.reduceMul, reduceCtorEq, Int.reduceBEq, Int.reduceLT, Int.reduceLE, Int.reduceAdd, Int.reduceSub, Int.reduceEq, Int.reduceNeg, Int.reduceToNat, Int.reduceGT, Int.reduceGE], fun q => absurd rfl q, _, _, alloc_blk_same _ _ _ rfl, rfl, rfl, rfl, rfl, Lst.nil _ _ _⟩, (Ext.lo h).alloc' _⟩, Nat.le_refl _⟩
  · rintro i env h' ⟨e4, I, hlen⟩ hi next
    have e0 := I.e0
    have e3 := I.e3
    obtain ⟨lid, hlid, A⟩ := I.w
    obtain ⟨p, hp⟩ : ∃ p, l[i]? = some p := ⟨_, List.getElem?_eq_getElem hi⟩
    obtain ⟨id, off, b, hix, hid, hb, g0, g1, g2, g3⟩ := P.at_ hp
    have hpm : p ∈ l := List.mem_of_getElem? hp
    obtain ⟨B, hn, hby, hone⟩ := P.ok p hpm
    have hlt := ofNat_lt hi
    have hw : IntKind.wrap .i64 (Int.ofNat i + 1) = Int.ofNat (i + 1) := wrap_succ (by omega)
    have hb' : h'.blk id = some b := (I.ext.blk hid).trans hb
    have w2 : p.xs.length ≤ 20000 := by
      have := total_mem hpm
      omega
    have w3 := total_take l i
    have eX : ∀ o o2, Ext h' ((h'.alloc o).put h'.nx o2) := fun o o2 => ((Ext.refl _).alloc' _).put _ (Nat.le_refl _)
    have key : ∀ (X : H) (x : Option H) (lid' : Nat), Ext h' X → WrAt (x.getD X) h.nx lid' (wput (wAll (l.take i)) (pW p)).1 (wput (wAll (l.take i)) (pW p)).2 → WFr X (x.getD X) h.nx lid → (lid' = lid ∨ X.nx ≤ lid') →
        ∀ env', evT env' 0 = v → evT env' 3 = .ptr h.nx 0 → PutI h v env' (x.getD X) (wAll (l.take (i + 1))) ∧ (wAll (l.take (i + 1))).2.length ≤ total (l.take (i + 1)) + 256 * (i + 1) := by
      intro X x lid' E A' F hl' env' q0 q3
      have htk : l.take (i + 1) = l.take i ++ [p] := by rw [List.take_add_one, hp]; rfl
      rw [htk, wAll_app]
      have := E.nx
      have := I.ext.nx
      refine ⟨⟨q0, q3, ⟨lid', by omega, A'⟩, F.ext (I.ext.trans E) (Nat.le_refl _) hlid⟩, ?_⟩
      have w1 := wput_len (wAll (l.take i)) p
      rw [total_app]
      simp [total]
      omega
    by_cases k1 : p.kind = 1
    · have hpW : pW p = numB p.n p.size := by unfold pW; simp [k1]
      simp only [go_sem, Nat.reduceLT, Nat.reduceLeDiff, Nat.reduceEqDiff, Nat.reduceAdd, Nat.reduceSub, Nat.reduceMul, reduceCtorEq, Int.reduceBEq, Int.reduceLT, Int.reduceLE, Int.reduceAdd, Int.reduceSub, Int.reduceEq, Int.reduceNeg, Int.reduceToNat, Int.reduceGT, Int.reduceGE, e0, e4, e3, P.sl.len, hlt, hix, hb', g0, g1, g2, g3, hone, k1]
      refine wok_step (Q := PutOk h (wAll l)) (number_run hσ (A.ext' (eX _ _)) _ hn _ (by omega)) ?_
      intro x lid' A' F' hl'
      simp only [go_sem, Nat.reduceLT, Nat.reduceLeDiff, Nat.reduceEqDiff, Nat.reduceAdd, Nat.reduceSub, Nat.reduceMul, reduceCtorEq, Int.reduceBEq, Int.reduceLT, Int.reduceLE, Int.reduceAdd, Int.reduceSub, Int.reduceEq, Int.reduceNeg, Int.reduceToNat, Int.reduceGT, Int.reduceGE, e0, e4, e3, hw]
      exact next _ _ ⟨by simp only [go_sem, Nat.reduceLT, Nat.reduceLeDiff, Nat.reduceEqDiff, Nat.reduceAdd, Nat.reduceSub, Nat.reduceMul, reduceCtorEq, Int.reduceBEq, Int.reduceLT, Int.reduceLE, Int.reduceAdd, Int.reduceSub, Int.reduceEq, Int.reduceNeg, Int.reduceToNat, Int.reduceGT, Int.reduceGE], key _ x lid' (eX _ _) (by rw [hpW]; exact A') F' hl' _ (by simp only [go_sem, Nat.reduceLT, Nat.reduceLeDiff, Nat.reduceEqDiff, Nat.reduceAdd, Nat.reduceSub, Nat.reduceMul, reduceCtorEq, Int.reduceBEq, Int.reduceLT, Int.reduceLE, Int.reduceAdd, Int.reduceSub, Int.reduceEq, Int.reduceNeg, Int.reduceToNat, Int.reduceGT, Int.reduceGE, e0]) (by simp only [go_sem, Nat.reduceLT, Nat.reduceLeDiff, Nat.reduceEqDiff, Nat.reduceAdd, Nat.reduceSub, Nat.reduceMul, reduceCtorEq, Int.reduceBEq, Int.reduceLT, Int.reduceLE, Int.reduceAdd, Int.reduceSub, Int.reduceEq, Int.reduceNeg, Int.reduceToNat, Int.reduceGT, Int.reduceGE])⟩
    by_cases k2 : p.kind = 2
    · have hpW : pW p = some [if p.n % 2 = 1 then 1 else 0] := by unfold pW; simp [k2]
      have q : (Int.ofNat p.n).tmod 2 = Int.ofNat (p.n % 2) := rfl
      have q2 : decide (Int.ofNat (p.n % 2) = 1) = decide (p.n % 2 = 1) := by
        by_cases c : p.n % 2 = 1
        · rw [c]; rfl
        · rw [decide_eq_false c]; exact decide_eq_false fun e => c (Int.ofNat.inj e)
      simp only [go_sem, Nat.reduceLT, Nat.reduceLeDiff, Nat.reduceEqDiff, Nat.reduceAdd, Nat.reduceSub, Nat.reduceMul, reduceCtorEq, Int.reduceBEq, Int.reduceLT, Int.reduceLE, Int.reduceAdd, Int.reduceSub, Int.reduceEq, Int.reduceNeg, Int.reduceToNat, Int.reduceGT, Int.reduceGE, e0, e4, e3, P.sl.len, hlt, hix, hb', g0, g1, g2, g3, hone, k2, q, q2]
      refine wok_step (Q := PutOk h (wAll l)) (flag_run hσ (A.ext' (eX _ _)) (decide (p.n % 2 = 1)) (by omega)) ?_
      intro x lid' A' F' hl'
      simp only [go_sem, Nat.reduceLT, Nat.reduceLeDiff, Nat.reduceEqDiff, Nat.reduceAdd, Nat.reduceSub, Nat.reduceMul, reduceCtorEq, Int.reduceBEq, Int.reduceLT, Int.reduceLE, Int.reduceAdd, Int.reduceSub, Int.reduceEq, Int.reduceNeg, Int.reduceToNat, Int.reduceGT, Int.reduceGE, e0, e4, e3, hw]
      exact next _ _ ⟨by simp only [go_sem, Nat.reduceLT, Nat.reduceLeDiff, Nat.reduceEqDiff, Nat.reduceAdd, Nat.reduceSub, Nat.reduceMul, reduceCtorEq, Int.reduceBEq, Int.reduceLT, Int.reduceLE, Int.reduceAdd, Int.reduceSub, Int.reduceEq, Int.reduceNeg, Int.reduceToNat, Int.reduceGT, Int.reduceGE], key _ x lid' (eX _ _) (by rw [hpW]; simpa using A') F' hl' _ (by simp only [go_sem, Nat.reduceLT, Nat.reduceLeDiff, Nat.reduceEqDiff, Nat.reduceAdd, Nat.reduceSub, Nat.reduceMul, reduceCtorEq, Int.reduceBEq, Int.reduceLT, Int.reduceLE, Int.reduceAdd, Int.reduceSub, Int.reduceEq, Int.reduceNeg, Int.reduceToNat, Int.reduceGT, Int.reduceGE, e0]) (by simp only [go_sem, Nat.reduceLT, Nat.reduceLeDiff, Nat.reduceEqDiff, Nat.reduceAdd, Nat.reduceSub, Nat.reduceMul, reduceCtorEq, Int.reduceBEq, Int.reduceLT, Int.reduceLE, Int.reduceAdd, Int.reduceSub, Int.reduceEq, Int.reduceNeg, Int.reduceToNat, Int.reduceGT, Int.reduceGE])⟩
    by_cases k3 : p.kind = 3
    · have hpW : pW p = some p.xs := by unfold pW; simp [k3]
      simp only [go_sem, Nat.reduceLT, Nat.reduceLeDiff, Nat.reduceEqDiff, Nat.reduceAdd, Nat.reduceSub, Nat.reduceMul, reduceCtorEq, Int.reduceBEq, Int.reduceLT, Int.reduceLE, Int.reduceAdd, Int.reduceSub, Int.reduceEq, Int.reduceNeg, Int.reduceToNat, Int.reduceGT, Int.reduceGE, e0, e4, e3, P.sl.len, hlt, hix, hb', g0, g1, g2, g3, hone, k3]
      refine wok_step (Q := PutOk h (wAll l)) (bytes_run hσ (A.ext' (eX _ _)) (B.ext (I.ext.trans (eX _ _))) (by omega)) ?_
      intro x lid' A' F' hl'
      simp only [go_sem, Nat.reduceLT, Nat.reduceLeDiff, Nat.reduceEqDiff, Nat.reduceAdd, Nat.reduceSub, Nat.reduceMul, reduceCtorEq, Int.reduceBEq, Int.reduceLT, Int.reduceLE, Int.reduceAdd, Int.reduceSub, Int.reduceEq, Int.reduceNeg, Int.reduceToNat, Int.reduceGT, Int.reduceGE, e0, e4, e3, hw]
      exact next _ _ ⟨by simp only [go_sem, Nat.reduceLT, Nat.reduceLeDiff, Nat.reduceEqDiff, Nat.reduceAdd, Nat.reduceSub, Nat.reduceMul, reduceCtorEq, Int.reduceBEq, Int.reduceLT, Int.reduceLE, Int.reduceAdd, Int.reduceSub, Int.reduceEq, Int.reduceNeg, Int.reduceToNat, Int.reduceGT, Int.reduceGE], key _ x lid' (eX _ _) (by rw [hpW]; exact A') F' hl' _ (by simp only [go_sem, Nat.reduceLT, Nat.reduceLeDiff, Nat.reduceEqDiff, Nat.reduceAdd, Nat.reduceSub, Nat.reduceMul, reduceCtorEq, Int.reduceBEq, Int.reduceLT, Int.reduceLE, Int.reduceAdd, Int.reduceSub, Int.reduceEq, Int.reduceNeg, Int.reduceToNat, Int.reduceGT, Int.reduceGE, e0]) (by simp only [go_sem, Nat.reduceLT, Nat.reduceLeDiff, Nat.reduceEqDiff, Nat.reduceAdd, Nat.reduceSub, Nat.reduceMul, reduceCtorEq, Int.reduceBEq, Int.reduceLT, Int.reduceLE, Int.reduceAdd, Int.reduceSub, Int.reduceEq, Int.reduceNeg, Int.reduceToNat, Int.reduceGT, Int.reduceGE])⟩
    by_cases k4 : p.kind = 4
    · have hpW : pW p = some (be p.xs.length 2 ++ p.xs) := by unfold pW; simp [k4]
      simp only [go_sem, Nat.reduceLT, Nat.reduceLeDiff, Nat.reduceEqDiff, Nat.reduceAdd, Nat.reduceSub, Nat.reduceMul, reduceCtorEq, Int.reduceBEq, Int.reduceLT, Int.reduceLE, Int.reduceAdd, Int.reduceSub, Int.reduceEq, Int.reduceNeg, Int.reduceToNat, Int.reduceGT, Int.reduceGE, e0, e4, e3, P.sl.len, hlt, hix, hb', g0, g1, g2, g3, hone, k4]
      refine wok_step (Q := PutOk h (wAll l)) (blob_run hσ (A.ext' (eX _ _)) B (I.ext.trans (eX _ _)) (Nat.le_refl _) hlid (by omega) (by omega)) ?_
      intro x lid' A' F' hl'
      simp only [go_sem, Nat.reduceLT, Nat.reduceLeDiff, Nat.reduceEqDiff, Nat.reduceAdd, Nat.reduceSub, Nat.reduceMul, reduceCtorEq, Int.reduceBEq, Int.reduceLT, Int.reduceLE, Int.reduceAdd, Int.reduceSub, Int.reduceEq, Int.reduceNeg, Int.reduceToNat, Int.reduceGT, Int.reduceGE, e0, e4, e3, hw]
      exact next _ _ ⟨by simp only [go_sem, Nat.reduceLT, Nat.reduceLeDiff, Nat.reduceEqDiff, Nat.reduceAdd, Nat.reduceSub, Nat.reduceMul, reduceCtorEq, Int.reduceBEq, Int.reduceLT, Int.reduceLE, Int.reduceAdd, Int.reduceSub, Int.reduceEq, Int.reduceNeg, Int.reduceToNat, Int.reduceGT, Int.reduceGE], key _ x lid' (eX _ _) (by rw [hpW]; exact A') F' hl' _ (by simp only [go_sem, Nat.reduceLT, Nat.reduceLeDiff, Nat.reduceEqDiff, Nat.reduceAdd, Nat.reduceSub, Nat.reduceMul, reduceCtorEq, Int.reduceBEq, Int.reduceLT, Int.reduceLE, Int.reduceAdd, Int.reduceSub, Int.reduceEq, Int.reduceNeg, Int.reduceToNat, Int.reduceGT, Int.reduceGE, e0]) (by simp only [go_sem, Nat.reduceLT, Nat.reduceLeDiff, Nat.reduceEqDiff, Nat.reduceAdd, Nat.reduceSub, Nat.reduceMul, reduceCtorEq, Int.reduceBEq, Int.reduceLT, Int.reduceLE, Int.reduceAdd, Int.reduceSub, Int.reduceEq, Int.reduceNeg, Int.reduceToNat, Int.reduceGT, Int.reduceGE])⟩
    by_cases k5 : p.kind = 5
    · have hpW : pW p = (if 0 ≤ p.size ∧ p.size ≤ 255 then some [p.size.toNat] else none) := by unfold pW; simp [k5]
      simp only [go_sem, Nat.reduceLT, Nat.reduceLeDiff, Nat.reduceEqDiff, Nat.reduceAdd, Nat.reduceSub, Nat.reduceMul, reduceCtorEq, Int.reduceBEq, Int.reduceLT, Int.reduceLE, Int.reduceAdd, Int.reduceSub, Int.reduceEq, Int.reduceNeg, Int.reduceToNat, Int.reduceGT, Int.reduceGE, e0, e4, e3, P.sl.len, hlt, hix, hb', g0, g1, g2, g3, hone, k5]
      refine wok_step (Q := PutOk h (wAll l)) (count_run hσ (A.ext' (eX _ _)) _ (by omega)) ?_
      intro x lid' A' F' hl'
      simp only [go_sem, Nat.reduceLT, Nat.reduceLeDiff, Nat.reduceEqDiff, Nat.reduceAdd, Nat.reduceSub, Nat.reduceMul, reduceCtorEq, Int.reduceBEq, Int.reduceLT, Int.reduceLE, Int.reduceAdd, Int.reduceSub, Int.reduceEq, Int.reduceNeg, Int.reduceToNat, Int.reduceGT, Int.reduceGE, e0, e4, e3, hw]
      exact next _ _ ⟨by simp only [go_sem, Nat.reduceLT, Nat.reduceLeDiff, Nat.reduceEqDiff, Nat.reduceAdd, Nat.reduceSub, Nat.reduceMul, reduceCtorEq, Int.reduceBEq, Int.reduceLT, Int.reduceLE, Int.reduceAdd, Int.reduceSub, Int.reduceEq, Int.reduceNeg, Int.reduceToNat, Int.reduceGT, Int.reduceGE], key _ x lid' (eX _ _) (by rw [hpW]; exact A') F' hl' _ (by simp only [go_sem, Nat.reduceLT, Nat.reduceLeDiff, Nat.reduceEqDiff, Nat.reduceAdd, Nat.reduceSub, Nat.reduceMul, reduceCtorEq, Int.reduceBEq, Int.reduceLT, Int.reduceLE, Int.reduceAdd, Int.reduceSub, Int.reduceEq, Int.reduceNeg, Int.reduceToNat, Int.reduceGT, Int.reduceGE, e0]) (by simp only [go_sem, Nat.reduceLT, Nat.reduceLeDiff, Nat.reduceEqDiff, Nat.reduceAdd, Nat.reduceSub, Nat.reduceMul, reduceCtorEq, Int.reduceBEq, Int.reduceLT, Int.reduceLE, Int.reduceAdd, Int.reduceSub, Int.reduceEq, Int.reduceNeg, Int.reduceToNat, Int.reduceGT, Int.reduceGE])⟩
    by_cases k6 : p.kind = 6
    · have hpW : pW p = some (blkL p.xs) := by unfold pW; simp [k6]
      have eB : ∀ o o2, (lim Try.prog σ).call 42 [p.v] ((h'.alloc o).put h'.nx o2) = some (.agg (bc (blkL p.xs)), none) := fun o o2 => block_of hσ (B.ext (I.ext.trans (eX o o2)))
      simp only [go_sem, Nat.reduceLT, Nat.reduceLeDiff, Nat.reduceEqDiff, Nat.reduceAdd, Nat.reduceSub, Nat.reduceMul, reduceCtorEq, Int.reduceBEq, Int.reduceLT, Int.reduceLE, Int.reduceAdd, Int.reduceSub, Int.reduceEq, Int.reduceNeg, Int.reduceToNat, Int.reduceGT, Int.reduceGE, e0, e4, e3, P.sl.len, hlt, hix, hb', g0, g1, g2, g3, hone, k6, eB]
      refine wok_step (Q := PutOk h (wAll l)) (block_run hσ (A.ext' (eX _ _)) (blkL_len _) (by omega)) ?_
      intro x lid' A' F' hl'
      simp only [go_sem, Nat.reduceLT, Nat.reduceLeDiff, Nat.reduceEqDiff, Nat.reduceAdd, Nat.reduceSub, Nat.reduceMul, reduceCtorEq, Int.reduceBEq, Int.reduceLT, Int.reduceLE, Int.reduceAdd, Int.reduceSub, Int.reduceEq, Int.reduceNeg, Int.reduceToNat, Int.reduceGT, Int.reduceGE, e0, e4, e3, hw]
      exact next _ _ ⟨by simp only [go_sem, Nat.reduceLT, Nat.reduceLeDiff, Nat.reduceEqDiff, Nat.reduceAdd, Nat.reduceSub, Nat.reduceMul, reduceCtorEq, Int.reduceBEq, Int.reduceLT, Int.reduceLE, Int.reduceAdd, Int.reduceSub, Int.reduceEq, Int.reduceNeg, Int.reduceToNat, Int.reduceGT, Int.reduceGE], key _ x lid' (eX _ _) (by rw [hpW]; exact A') F' hl' _ (by simp only [go_sem, Nat.reduceLT, Nat.reduceLeDiff, Nat.reduceEqDiff, Nat.reduceAdd, Nat.reduceSub, Nat.reduceMul, reduceCtorEq, Int.reduceBEq, Int.reduceLT, Int.reduceLE, Int.reduceAdd, Int.reduceSub, Int.reduceEq, Int.reduceNeg, Int.reduceToNat, Int.reduceGT, Int.reduceGE, e0]) (by simp only [go_sem, Nat.reduceLT, Nat.reduceLeDiff, Nat.reduceEqDiff, Nat.reduceAdd, Nat.reduceSub, Nat.reduceMul, reduceCtorEq, Int.reduceBEq, Int.reduceLT, Int.reduceLE, Int.reduceAdd, Int.reduceSub, Int.reduceEq, Int.reduceNeg, Int.reduceToNat, Int.reduceGT, Int.reduceGE])⟩
    have hpW : pW p = some [] := by unfold pW; simp [k1, k2, k3, k4, k5, k6]
    simp only [go_sem, Nat.reduceLT, Nat.reduceLeDiff, Nat.reduceEqDiff, Nat.reduceAdd, Nat.reduceSub, Nat.reduceMul, reduceCtorEq, Int.reduceBEq, Int.reduceLT, Int.reduceLE, Int.reduceAdd, Int.reduceSub, Int.reduceEq, Int.reduceNeg, Int.reduceToNat, Int.reduceGT, Int.reduceGE, e0, e4, e3, P.sl.len, hlt, hix, hb', g0, g1, g2, g3, hone, k1, k2, k3, k4, k5, k6, hw]
    have hp0 : wput (wAll (l.take i)) (pW p) = wAll (l.take i) := by
      rw [hpW]
      generalize wAll (l.take i) = s
      obtain ⟨f, bs⟩ := s
      cases f <;> simp [wput]
    exact next _ _ ⟨by simp only [go_sem, Nat.reduceLT, Nat.reduceLeDiff, Nat.reduceEqDiff, Nat.reduceAdd, Nat.reduceSub, Nat.reduceMul, reduceCtorEq, Int.reduceBEq, Int.reduceLT, Int.reduceLE, Int.reduceAdd, Int.reduceSub, Int.reduceEq, Int.reduceNeg, Int.reduceToNat, Int.reduceGT, Int.reduceGE], key _ none lid (eX _ _) (by rw [hp0]; exact A.ext' (eX _ _)) (WFr.refl _ _ _) (.inl rfl) _ (by simp only [go_sem, Nat.reduceLT, Nat.reduceLeDiff, Nat.reduceEqDiff, Nat.reduceAdd, Nat.reduceSub, Nat.reduceMul, reduceCtorEq, Int.reduceBEq, Int.reduceLT, Int.reduceLE, Int.reduceAdd, Int.reduceSub, Int.reduceEq, Int.reduceNeg, Int.reduceToNat, Int.reduceGT, Int.reduceGE, e0]) (by simp only [go_sem, Nat.reduceLT, Nat.reduceLeDiff, Nat.reduceEqDiff, Nat.reduceAdd, Nat.reduceSub, Nat.reduceMul, reduceCtorEq, Int.reduceBEq, Int.reduceLT, Int.reduceLE, Int.reduceAdd, Int.reduceSub, Int.reduceEq, Int.reduceNeg, Int.reduceToNat, Int.reduceGT, Int.reduceGE, e3])⟩
  · rintro env h' ⟨e4, I, hlen⟩
    have e0 := I.e0
    have e3 := I.e3
    have hlt := ofNat_nlt (Nat.le_refl l.length)
    simp only [go_sem, Nat.reduceLT, Nat.reduceLeDiff, Nat.reduceEqDiff, Nat.reduceAdd, Nat.reduceSub, Nat.reduceMul, reduceCtorEq, Int.reduceBEq, Int.reduceLT, Int.reduceLE, Int.reduceAdd, Int.reduceSub, Int.reduceEq, Int.reduceNeg, Int.reduceToNat, Int.reduceGT, Int.reduceGE, e0, e4, e3, P.sl.len, hlt]
    obtain ⟨lid, hlid, A⟩ := I.w
    rw [fin_new _ _ _ (by simp only [go_sem, Nat.reduceLT, Nat.reduceLeDiff, Nat.reduceEqDiff, Nat.reduceAdd, Nat.reduceSub, Nat.reduceMul, reduceCtorEq, Int.reduceBEq, Int.reduceLT, Int.reduceLE, Int.reduceAdd, Int.reduceSub, Int.reduceEq, Int.reduceNeg, Int.reduceToNat, Int.reduceGT, Int.reduceGE]; exact decide_eq_false (by omega))]
    rw [List.take_of_length_le (Nat.le_refl _)] at A
    exact ⟨_, lid, rfl, hlid, A.up _, I.ext.up' _⟩
end Go.Cl.A

namespace Go.Cl.A
variable {σ : Sums}

def gP (p : Part) : Bool := pG p.kind p.size p.n
def bP (p : Part) : List Nat := pB p.kind p.size p.n p.xs
def flat (l : List Part) : List Nat := l.flatMap bP
theorem pW_eq (p : Part) : pW p = if gP p then some (bP p) else none := by
  unfold pW gP bP pG pB numB
  by_cases k1 : p.kind = 1
  · simp only [k1, if_true]
    cases sizeOk p.size <;> simp
  by_cases k5 : p.kind = 5
  · simp only [k5]
    simp
    split
    · congr 2; congr 1; omega
    · rfl
  simp only [k1, k5, if_false]
  simp
  repeat' split
  all_goals rfl
theorem fold_good : ∀ (l : List Part) (bs : List Nat), l.all gP = true → l.foldl (fun s p => wput s (pW p)) (false, bs) = (false, bs ++ flat l)
  | [], bs, _ => by simp [flat]
  | p :: l, bs, h => by
    simp only [List.all_cons, Bool.and_eq_true] at h
    rw [List.foldl_cons, pW_eq, h.1, show wput (false, bs) (if true = true then some (bP p) else none) = (false, bs ++ bP p) from rfl, fold_good l _ h.2]
    simp [flat]
theorem fold_true : ∀ (l : List Part) (bs : List Nat), l.foldl (fun s p => wput s (pW p)) (true, bs) = (true, bs)
  | [], bs => rfl
  | p :: l, bs => by rw [List.foldl_cons]; exact fold_true l bs
theorem fold_bad : ∀ (l : List Part) (bs : List Nat), l.all gP = false → (l.foldl (fun s p => wput s (pW p)) (false, bs)).1 = true
  | [], bs, h => by cases h
  | p :: l, bs, h => by
    rw [List.foldl_cons, pW_eq]
    cases hg : gP p
    · rw [show wput (false, bs) (if false = true then some (bP p) else none) = (true, bs) from rfl, fold_true]
    · rw [show wput (false, bs) (if true = true then some (bP p) else none) = (false, bs ++ bP p) from rfl]
      exact fold_bad l _ (by simpa [hg] using h)
theorem fold_len : ∀ (l : List Part) (s : Bool × List Nat), (∀ p ∈ l, p.xs.length ≤ 20000) → (l.foldl (fun s p => wput s (pW p)) s).2.length ≤ s.2.length + total l + 256 * l.length
  | [], s, _ => by simp [total]
  | p :: l, s, h => by
    rw [List.foldl_cons]
    have h1 := fold_len l (wput s (pW p)) fun q hq => h q (List.mem_cons_of_mem _ hq)
    have h2 := wput_len s p
    have h3 := h p List.mem_cons_self
    simp only [total, List.length_cons]
    omega
theorem num32_run (hσ : ∀ f a h, f ≠ 28 → σ f a h = none) (h : H) (n : Int) : (lim Try.prog σ).call 32 [.int .i64 n] h = some (.int .i64 n, none) := by
  rw [call_eq (hσ _ _ _ (by decide)) fn_32 rfl rfl, Try.ntmps32, Try.results32]
  simp only [go_sem, Nat.reduceLT, Nat.reduceLeDiff, Nat.reduceEqDiff, Nat.reduceAdd, Nat.reduceSub, Nat.reduceMul, reduceCtorEq, Int.reduceBEq, Int.reduceLT, Int.reduceLE, Int.reduceAdd, Int.reduceSub, Int.reduceEq, Int.reduceNeg, Int.reduceToNat, Int.reduceGT, Int.reduceGE]
  rw [fin_q _ _ _ rfl rfl]
theorem be_lt (n k : Nat) : ∀ b ∈ be n k, b < 256 := fun b hb => by
  obtain ⟨j, _, rfl⟩ := List.mem_map.1 hb
  exact Nat.mod_lt _ (by decide)
theorem blkL_lt {xs : List Nat} (h : ∀ b ∈ xs, b < 256) : ∀ b ∈ blkL xs, b < 256 := fun b hb => by
  rcases List.mem_append.1 (List.mem_of_mem_take hb) with h1 | h1
  · exact h b h1
  · unfold z256 at h1; have := List.eq_of_mem_replicate h1; omega
theorem bP_lt {p : Part} (h : ∀ b ∈ p.xs, b < 256) : ∀ b ∈ bP p, b < 256 := by
  unfold bP pB
  repeat' split
  · exact be_lt _ _
  · simp
  · intro b hb; simp at hb; omega
  · intro b hb; simp at hb; omega
  · exact h
  · intro b hb
    rcases List.mem_append.1 hb with h1 | h1
    · exact be_lt _ _ b h1
    · exact h b h1
  · intro b hb; simp at hb; omega
  · exact blkL_lt h
  · simp
theorem bP_len (p : Part) : (bP p).length ≤ p.xs.length + 256 := by
  unfold bP pB
  repeat' split
  all_goals (try simp [be_len, blkL_len])
  all_goals (try omega)
  rename_i h1 h2
  have : p.size = 1 ∨ p.size = 2 ∨ p.size = 4 ∨ p.size = 8 := of_decide_eq_true h2
  omega
theorem flat_app (l : List Part) (p : Part) : flat (l ++ [p]) = flat l ++ bP p := by simp [flat]

theorem Parts.ext {h h' : H} {v : CV} {l : List Part} (P : Parts h v l) (E : Ext h h') : Parts h' v l :=
  ⟨⟨P.sl.len, fun i hi => by
    obtain ⟨id, off, b, h1, h2, h3, h4, h5⟩ := P.sl.elt i hi
    exact ⟨id, off, b, h1, Nat.lt_of_lt_of_le h2 E.nx, (E.blk h2).trans h3, h4, h5⟩⟩, fun p hp => by
    obtain ⟨h1, h2, h3, h4⟩ := P.ok p hp
    exact ⟨h1.ext E, h2, h3, h4⟩⟩

structure WI (h : H) (v : CV) (l : List Part) (i : Nat) (env : T CV) (h' : H) : Prop where
  e0 : evT env 0 = v
  e5 : evT env 5 = .int .i64 (Int.ofNat i)
  e4 : evT env 4 = .bool ((l.take i).all gP)
  e3 : ∃ lid n, Lst h' 1 (evT env 3) lid n (bc (flat (l.take i))) ∧ h.nx ≤ lid
  ext : Ext h h'
  len : (flat (l.take i)).length ≤ total (l.take i) + 256 * i

set_option maxRecDepth 100000 in
theorem writes_run (hσ : ∀ f a h, f ≠ 28 → σ f a h = none) (hk : ∀ h, (lim Try.prog σ).call 28 [] h = some (.bool true, none)) {h : H} {v : CV} {l : List Part} (P : Parts h v l) :
    Tru ((lim Try.prog σ).call 7 [v] h) := by
  rw [call_eq (hσ _ _ _ (by decide)) fn_7 rfl rfl, Try.ntmps7, Try.results7]
  have hm : ∀ h', Ext h h' → (lim Try.prog σ).call 27 [v] h' = some (.bool (muchOf l), none) := fun h' E => much_run hσ (P.ext E)
  cases hmu : muchOf l
  · have h40 : l.length ≤ 40 := by
      unfold muchOf at hmu
      simp at hmu
      omega
    have htot : total l ≤ 20000 := by
      unfold muchOf at hmu
      simp at hmu
      rw [List.take_of_length_le (by omega)] at hmu
      omega
    simp only [go_sem, Nat.reduceLT, Nat.reduceLeDiff, Nat.reduceEqDiff, Nat.reduceAdd, Nat.reduceSub, Nat.reduceMul, reduceCtorEq, Int.reduceBEq, Int.reduceLT, Int.reduceLE, Int.reduceAdd, Int.reduceSub, Int.reduceEq, Int.reduceNeg, Int.reduceToNat, Int.reduceGT, Int.reduceGE, hm _ (Ext.lo h), hmu]
    refine loop_ind (Q := Tru) (fun i env h' => WI h v l i env h') l.length 0 ?_ (Nat.zero_le _) ?_ ?_
    · refine ⟨by simp only [go_sem, Nat.reduceLT, Nat.reduceLeDiff, Nat.reduceEqDiff, Nat.reduceAdd, Nat.reduceSub, Nat.reduceMul, reduceCtorEq, Int.reduceBEq, Int.reduceLT, Int.reduceLE, Int.reduceAdd, Int.reduceSub, Int.reduceEq, Int.reduceNeg, Int.reduceToNat, Int.reduceGT, Int.reduceGE], by simp only [go_sem, Nat.reduceLT, Nat.reduceLeDiff, Nat.reduceEqDiff, Nat.reduceAdd, Nat.reduceSub, Nat.reduceMul, reduceCtorEq, Int.reduceBEq, Int.reduceLT, Int.reduceLE, Int.reduceAdd, Int.reduceSub, Int.reduceEq, Int.reduceNeg, Int.reduceToNat, Int.reduceGT, Int.reduceGE]; rfl, by simp only [go_sem, Nat.reduceLT, Nat.reduceLeDiff, Nat.reduceEqDiff, Nat.reduceAdd, Nat.reduceSub, Nat.reduceMul, reduceCtorEq, Int.reduceBEq, Int.reduceLT, Int.reduceLE, Int.reduceAdd, Int.reduceSub, Int.reduceEq, Int.reduceNeg, Int.reduceToNat, Int.reduceGT, Int.reduceGE]; rfl, ⟨h.nx, 0, by simp only [go_sem, Nat.reduceLT, Nat.reduceLeDiff, Nat.reduceEqDiff, Nat.reduceAdd, Nat.reduceSub, Nat.reduceMul, reduceCtorEq, Int.reduceBEq, Int.reduceLT, Int.reduceLE, Int.reduceAdd, Int.reduceSub, Int.reduceEq, Int.reduceNeg, Int.reduceToNat, Int.reduceGT, Int.reduceGE]; exact Lst.nil _ _ _, Nat.le_refl _⟩, Ext.lo h, Nat.le_refl _⟩
    · rintro i env h' I hi next
      obtain ⟨e0, e5, e4, ⟨lid, n, L, hlid⟩, E, hlen⟩ := I
      obtain ⟨p, hp⟩ : ∃ p, l[i]? = some p := ⟨_, List.getElem?_eq_getElem hi⟩
      obtain ⟨id, off, b, hix, hid, hb, g0, g1, g2, g3⟩ := P.at_ hp
      have hpm : p ∈ l := List.mem_of_getElem? hp
      obtain ⟨B, hn, hby, hone⟩ := P.ok p hpm
      have hlt := ofNat_lt hi
      have hw : IntKind.wrap .i64 (Int.ofNat i + 1) = Int.ofNat (i + 1) := wrap_succ (by omega)
      have hb' : h'.blk id = some b := (E.blk hid).trans hb
      have w2 : p.xs.length ≤ 20000 := by
        have := total_mem hpm
        omega
      have w3 := total_take l i
      obtain ⟨u, x, er, E1, B1⟩ := part_run hσ (B.ext E) p.kind p.size p.n hn (by omega)
      have er' : (lim Try.prog σ).call 29 [.agg [.int .i64 p.kind, .int .i64 p.size, .int .u64 (Int.ofNat p.n), p.v]] h' = some (.tup [u, .bool (gP p)], x) := er
      have hbl := bP_len p
      have htk : l.take (i + 1) = l.take i ++ [p] := by rw [List.take_add_one, hp]; rfl
      have hn2 : n = (flat (l.take i)).length := by have := L.len; rw [bc_len] at this; omega
      simp only [go_sem, Nat.reduceLT, Nat.reduceLeDiff, Nat.reduceEqDiff, Nat.reduceAdd, Nat.reduceSub, Nat.reduceMul, reduceCtorEq, Int.reduceBEq, Int.reduceLT, Int.reduceLE, Int.reduceAdd, Int.reduceSub, Int.reduceEq, Int.reduceNeg, Int.reduceToNat, Int.reduceGT, Int.reduceGE, e0, e4, e5, P.sl.len, hlt, hix, hb', g0, g1, g2, g3, hone, er']
      have hall : (l.take (i + 1)).all gP = ((l.take i).all gP && gP p) := by rw [htk]; simp
      have fin : ∀ env' h2, evT env' 0 = v → evT env' 5 = .int .i64 (Int.ofNat (i + 1)) → evT env' 4 = .bool ((l.take i).all gP && gP p) → ∀ s' lid' , evT env' 3 = s' → Lst h2 1 s' lid' (n + (bc (bP p)).length) (bc (flat (l.take i)) ++ bc (bP p)) → AppFr (x.getD h') h2 lid n lid' (bc (bP p)).length →
          WI h v l (i + 1) env' h2 := by
        intro env' h2 q0 q5 q4 s' lid' q3 L2 F2
        have hq := E.nx
        have hq1 := E1.nx
        refine ⟨q0, q5, by rw [q4, hall], ⟨lid', _, by rw [q3, htk, flat_app, bc_app]; exact L2, by have := F2.id; omega⟩, ⟨by have := F2.nx; omega, F2.gn.trans (E1.gn.trans E.gn), fun k hk => ?_⟩, ?_⟩
        · rw [F2.old k (by omega) (by omega), E1.old k (by omega), E.old k hk]
        · rw [htk, flat_app, total_app]; simp [total]; omega
      cases hg : (l.take i).all gP
      · rw [hg] at e4 fin
        simp only [go_sem, Nat.reduceLT, Nat.reduceLeDiff, Nat.reduceEqDiff, Nat.reduceAdd, Nat.reduceSub, Nat.reduceMul, reduceCtorEq, Int.reduceBEq, Int.reduceLT, Int.reduceLE, Int.reduceAdd, Int.reduceSub, Int.reduceEq, Int.reduceNeg, Int.reduceToNat, Int.reduceGT, Int.reduceGE, e0, e4, e5, er', hw]
        refine appb_step (Q := Tru) (L.ext E1) B1 (bc_one _) (by rw [bc_len]; show n + (bP p).length ≤ _; omega) ?_
        intro s' lid' h2 L2 F2 _
        simp only [go_sem, Nat.reduceLT, Nat.reduceLeDiff, Nat.reduceEqDiff, Nat.reduceAdd, Nat.reduceSub, Nat.reduceMul, reduceCtorEq, Int.reduceBEq, Int.reduceLT, Int.reduceLE, Int.reduceAdd, Int.reduceSub, Int.reduceEq, Int.reduceNeg, Int.reduceToNat, Int.reduceGT, Int.reduceGE, e0, e4, e5, er', hw]
        exact next _ _ (fin _ _ (by simp only [go_sem, Nat.reduceLT, Nat.reduceLeDiff, Nat.reduceEqDiff, Nat.reduceAdd, Nat.reduceSub, Nat.reduceMul, reduceCtorEq, Int.reduceBEq, Int.reduceLT, Int.reduceLE, Int.reduceAdd, Int.reduceSub, Int.reduceEq, Int.reduceNeg, Int.reduceToNat, Int.reduceGT, Int.reduceGE, e0]) (by simp only [go_sem, Nat.reduceLT, Nat.reduceLeDiff, Nat.reduceEqDiff, Nat.reduceAdd, Nat.reduceSub, Nat.reduceMul, reduceCtorEq, Int.reduceBEq, Int.reduceLT, Int.reduceLE, Int.reduceAdd, Int.reduceSub, Int.reduceEq, Int.reduceNeg, Int.reduceToNat, Int.reduceGT, Int.reduceGE]) (by simp only [go_sem, Nat.reduceLT, Nat.reduceLeDiff, Nat.reduceEqDiff, Nat.reduceAdd, Nat.reduceSub, Nat.reduceMul, reduceCtorEq, Int.reduceBEq, Int.reduceLT, Int.reduceLE, Int.reduceAdd, Int.reduceSub, Int.reduceEq, Int.reduceNeg, Int.reduceToNat, Int.reduceGT, Int.reduceGE]) s' lid' (by simp only [go_sem, Nat.reduceLT, Nat.reduceLeDiff, Nat.reduceEqDiff, Nat.reduceAdd, Nat.reduceSub, Nat.reduceMul, reduceCtorEq, Int.reduceBEq, Int.reduceLT, Int.reduceLE, Int.reduceAdd, Int.reduceSub, Int.reduceEq, Int.reduceNeg, Int.reduceToNat, Int.reduceGT, Int.reduceGE]) L2 F2)
      · rw [hg] at e4 fin
        simp only [go_sem, Nat.reduceLT, Nat.reduceLeDiff, Nat.reduceEqDiff, Nat.reduceAdd, Nat.reduceSub, Nat.reduceMul, reduceCtorEq, Int.reduceBEq, Int.reduceLT, Int.reduceLE, Int.reduceAdd, Int.reduceSub, Int.reduceEq, Int.reduceNeg, Int.reduceToNat, Int.reduceGT, Int.reduceGE, e0, e4, e5, er', hw]
        refine appb_step (Q := Tru) (L.ext E1) B1 (bc_one _) (by rw [bc_len]; show n + (bP p).length ≤ _; omega) ?_
        intro s' lid' h2 L2 F2 _
        simp only [go_sem, Nat.reduceLT, Nat.reduceLeDiff, Nat.reduceEqDiff, Nat.reduceAdd, Nat.reduceSub, Nat.reduceMul, reduceCtorEq, Int.reduceBEq, Int.reduceLT, Int.reduceLE, Int.reduceAdd, Int.reduceSub, Int.reduceEq, Int.reduceNeg, Int.reduceToNat, Int.reduceGT, Int.reduceGE, e0, e4, e5, er', hw]
        exact next _ _ (fin _ _ (by simp only [go_sem, Nat.reduceLT, Nat.reduceLeDiff, Nat.reduceEqDiff, Nat.reduceAdd, Nat.reduceSub, Nat.reduceMul, reduceCtorEq, Int.reduceBEq, Int.reduceLT, Int.reduceLE, Int.reduceAdd, Int.reduceSub, Int.reduceEq, Int.reduceNeg, Int.reduceToNat, Int.reduceGT, Int.reduceGE, e0]) (by simp only [go_sem, Nat.reduceLT, Nat.reduceLeDiff, Nat.reduceEqDiff, Nat.reduceAdd, Nat.reduceSub, Nat.reduceMul, reduceCtorEq, Int.reduceBEq, Int.reduceLT, Int.reduceLE, Int.reduceAdd, Int.reduceSub, Int.reduceEq, Int.reduceNeg, Int.reduceToNat, Int.reduceGT, Int.reduceGE]) (by simp only [go_sem, Nat.reduceLT, Nat.reduceLeDiff, Nat.reduceEqDiff, Nat.reduceAdd, Nat.reduceSub, Nat.reduceMul, reduceCtorEq, Int.reduceBEq, Int.reduceLT, Int.reduceLE, Int.reduceAdd, Int.reduceSub, Int.reduceEq, Int.reduceNeg, Int.reduceToNat, Int.reduceGT, Int.reduceGE]) s' lid' (by simp only [go_sem, Nat.reduceLT, Nat.reduceLeDiff, Nat.reduceEqDiff, Nat.reduceAdd, Nat.reduceSub, Nat.reduceMul, reduceCtorEq, Int.reduceBEq, Int.reduceLT, Int.reduceLE, Int.reduceAdd, Int.reduceSub, Int.reduceEq, Int.reduceNeg, Int.reduceToNat, Int.reduceGT, Int.reduceGE]) L2 F2)
    · rintro env0 h' I
      obtain ⟨e0, e5, e4, ⟨lid, n, L, hlid⟩, E, hlen⟩ := I
      have hlt := ofNat_nlt (Nat.le_refl l.length)
      rw [List.take_of_length_le (Nat.le_refl _)] at L hlen e4
      obtain ⟨h1, lw, ep, hlw, A, E1⟩ := puts_run hσ (P.ext E) h40 htot
      cases hg : l.all gP
      · rw [hg] at e4
        have hbad : (wAll l).1 = true := fold_bad l [] hg
        rw [hbad] at A
        simp only [go_sem, Nat.reduceLT, Nat.reduceLeDiff, Nat.reduceEqDiff, Nat.reduceAdd, Nat.reduceSub, Nat.reduceMul, reduceCtorEq, Int.reduceBEq, Int.reduceLT, Int.reduceLE, Int.reduceAdd, Int.reduceSub, Int.reduceEq, Int.reduceNeg, Int.reduceToNat, Int.reduceGT, Int.reduceGE, e0, e4, e5, P.sl.len, hlt, ep]
        have hwl : (wAll l).2.length ≤ 900000 := by
          have h1 : (wAll l).2.length ≤ ([] : List Nat).length + total l + 256 * l.length := fold_len l (false, []) fun p hp => by
            have := total_mem hp
            omega
          simp at h1; omega
        obtain ⟨u, x, ee, E2, B2, _⟩ := end_run hσ A hwl
        have ee : (lim Try.prog σ).call 31 [.ptr h'.nx 0] h1 = some (.tup [u, .int .i64 2], x) := ee
        have B3 : BSl (x.getD h1) u [] := B2
        have b3 : ∀ h', builtinT Try.prog h' .len [67] [u] = some (.val (.int .i64 0)) := B3.len
        simp only [go_sem, Nat.reduceLT, Nat.reduceLeDiff, Nat.reduceEqDiff, Nat.reduceAdd, Nat.reduceSub, Nat.reduceMul, reduceCtorEq, Int.reduceBEq, Int.reduceLT, Int.reduceLE, Int.reduceAdd, Int.reduceSub, Int.reduceEq, Int.reduceNeg, Int.reduceToNat, Int.reduceGT, Int.reduceGE, e0, e4, e5, P.sl.len, hlt, ep, ee, b3, num32_run hσ, hk, tru_fin]
      · rw [hg] at e4
        have hgood : wAll l = (false, flat l) := fold_good l [] hg
        rw [hgood] at A
        simp only [go_sem, Nat.reduceLT, Nat.reduceLeDiff, Nat.reduceEqDiff, Nat.reduceAdd, Nat.reduceSub, Nat.reduceMul, reduceCtorEq, Int.reduceBEq, Int.reduceLT, Int.reduceLE, Int.reduceAdd, Int.reduceSub, Int.reduceEq, Int.reduceNeg, Int.reduceToNat, Int.reduceGT, Int.reduceGE, e0, e4, e5, P.sl.len, hlt, ep]
        obtain ⟨u, x, ee, E2, B2, hu⟩ := end_run hσ A (show (flat l).length ≤ 900000 by omega)
        have ee : (lim Try.prog σ).call 31 [.ptr h'.nx 0] h1 = some (.tup [u, .int .i64 0], x) := ee
        simp only [go_sem, Nat.reduceLT, Nat.reduceLeDiff, Nat.reduceEqDiff, Nat.reduceAdd, Nat.reduceSub, Nat.reduceMul, reduceCtorEq, Int.reduceBEq, Int.reduceLT, Int.reduceLE, Int.reduceAdd, Int.reduceSub, Int.reduceEq, Int.reduceNeg, Int.reduceToNat, Int.reduceGT, Int.reduceGE, e0, e4, e5, P.sl.len, hlt, ep, ee]
        have hlen2 := bc_len (flat l)
        refine copy_of (Q := Tru) B2 (bc_one _) (by show (bc (flat l)).length ≤ _; omega) ?_
        intro s' h2 E3 B3 hne hnil
        have hul : ∀ h', builtinT Try.prog h' .len [67] [u] = some (.val (.int .i64 (Int.ofNat (flat l).length))) := fun h' => by
          rw [B2.len]; show some (Out.val (CV.int .i64 (Int.ofNat (bc (flat l)).length))) = _; rw [bc_len]
        simp only [go_sem, Nat.reduceLT, Nat.reduceLeDiff, Nat.reduceEqDiff, Nat.reduceAdd, Nat.reduceSub, Nat.reduceMul, reduceCtorEq, Int.reduceBEq, Int.reduceLT, Int.reduceLE, Int.reduceAdd, Int.reduceSub, Int.reduceEq, Int.reduceNeg, Int.reduceToNat, Int.reduceGT, Int.reduceGE, e0, e4, e5, P.sl.len, hlt, ep, ee]
        obtain ⟨id, hid⟩ : ∃ id, flat l ≠ [] → u = .sl id 0 (flat l).length (.opn 1) ∧ h1.nx ≤ id ∧ Lst (x.getD h1) 1 u id (flat l).length (bc (flat l)) := by
          by_cases q : flat l = []
          · exact ⟨0, fun q2 => absurd q q2⟩
          · obtain ⟨id, q1, q2, q3⟩ := hu rfl q
            exact ⟨id, fun _ => ⟨q1, q2, q3⟩⟩
        have hE2 := E2.nx
        have hE3 := E3.nx
        have hE1 := E1.nx
        refine loop_ind (Q := Tru) (fun i env h3 => evT env 8 = .ptr h'.nx 0 ∧ evT env 3 = evT env0 3 ∧ evT env 9 = u ∧ evT env 10 = .int .i64 0 ∧ evT env 11 = s' ∧ evT env 12 = .int .i64 (Int.ofNat i) ∧ h2.nx = h3.nx ∧ h3.gn = h2.gn ∧ (∀ k, (flat l ≠ [] → k ≠ id) → h3.t.get k = h2.t.get k) ∧
          (flat l ≠ [] → ∃ b, h3.blk id = some b ∧ b.ro = false ∧ b.n = (flat l).length ∧ ∀ j, j < (flat l).length → ∃ m, b.get j = some (.int .u8 m))) (flat l).length 0 ?_ (Nat.zero_le _) ?_ ?_
        · refine ⟨by simp only [go_sem, Nat.reduceLT, Nat.reduceLeDiff, Nat.reduceEqDiff, Nat.reduceAdd, Nat.reduceSub, Nat.reduceMul, reduceCtorEq, Int.reduceBEq, Int.reduceLT, Int.reduceLE, Int.reduceAdd, Int.reduceSub, Int.reduceEq, Int.reduceNeg, Int.reduceToNat, Int.reduceGT, Int.reduceGE], by simp only [go_sem, Nat.reduceLT, Nat.reduceLeDiff, Nat.reduceEqDiff, Nat.reduceAdd, Nat.reduceSub, Nat.reduceMul, reduceCtorEq, Int.reduceBEq, Int.reduceLT, Int.reduceLE, Int.reduceAdd, Int.reduceSub, Int.reduceEq, Int.reduceNeg, Int.reduceToNat, Int.reduceGT, Int.reduceGE], by simp only [go_sem, Nat.reduceLT, Nat.reduceLeDiff, Nat.reduceEqDiff, Nat.reduceAdd, Nat.reduceSub, Nat.reduceMul, reduceCtorEq, Int.reduceBEq, Int.reduceLT, Int.reduceLE, Int.reduceAdd, Int.reduceSub, Int.reduceEq, Int.reduceNeg, Int.reduceToNat, Int.reduceGT, Int.reduceGE], by simp only [go_sem, Nat.reduceLT, Nat.reduceLeDiff, Nat.reduceEqDiff, Nat.reduceAdd, Nat.reduceSub, Nat.reduceMul, reduceCtorEq, Int.reduceBEq, Int.reduceLT, Int.reduceLE, Int.reduceAdd, Int.reduceSub, Int.reduceEq, Int.reduceNeg, Int.reduceToNat, Int.reduceGT, Int.reduceGE], by simp only [go_sem, Nat.reduceLT, Nat.reduceLeDiff, Nat.reduceEqDiff, Nat.reduceAdd, Nat.reduceSub, Nat.reduceMul, reduceCtorEq, Int.reduceBEq, Int.reduceLT, Int.reduceLE, Int.reduceAdd, Int.reduceSub, Int.reduceEq, Int.reduceNeg, Int.reduceToNat, Int.reduceGT, Int.reduceGE], by simp only [go_sem, Nat.reduceLT, Nat.reduceLeDiff, Nat.reduceEqDiff, Nat.reduceAdd, Nat.reduceSub, Nat.reduceMul, reduceCtorEq, Int.reduceBEq, Int.reduceLT, Int.reduceLE, Int.reduceAdd, Int.reduceSub, Int.reduceEq, Int.reduceNeg, Int.reduceToNat, Int.reduceGT, Int.reduceGE]; rfl, rfl, rfl, fun _ _ => rfl, fun q => ?_⟩
          obtain ⟨r1, r2, r3⟩ := hid q
          have r4 := (r3.ext E3)
          rcases r4.val with ⟨r5, _⟩ | ⟨_, _, _, b, r5, r6, r7, r8⟩
          · exact absurd (List.length_eq_zero_iff.1 r5) q
          · refine ⟨b, r5, r6, by omega, fun j hj => ?_⟩
            rw [r8, nth_eq]
            simp [bc, hj]
        · rintro i env h3 ⟨q8, q3, q9, q10, q11, q12, hnx, hgn, hold, hcell⟩ hi next
          have hne : flat l ≠ [] := fun q => by rw [q] at hi; simp at hi
          obtain ⟨r1, r2, r3⟩ := hid hne
          obtain ⟨b, hb, hro, hbn, hget⟩ := hcell hne
          obtain ⟨m, hm⟩ := hget i hi
          have hlt := ofNat_lt hi
          have hw : IntKind.wrap .i64 (Int.ofNat i + 1) = Int.ofNat (i + 1) := wrap_succ (by omega)
          rw [r1] at q9 hul
          simp only [go_sem, Nat.reduceLT, Nat.reduceLeDiff, Nat.reduceEqDiff, Nat.reduceAdd, Nat.reduceSub, Nat.reduceMul, reduceCtorEq, Int.reduceBEq, Int.reduceLT, Int.reduceLE, Int.reduceAdd, Int.reduceSub, Int.reduceEq, Int.reduceNeg, Int.reduceToNat, Int.reduceGT, Int.reduceGE, q8, q9, q12, hul, hlt, hb, hro, hbn, hm, hi, Nat.mul_one, hw]
          refine next _ _ ⟨by simp only [go_sem, Nat.reduceLT, Nat.reduceLeDiff, Nat.reduceEqDiff, Nat.reduceAdd, Nat.reduceSub, Nat.reduceMul, reduceCtorEq, Int.reduceBEq, Int.reduceLT, Int.reduceLE, Int.reduceAdd, Int.reduceSub, Int.reduceEq, Int.reduceNeg, Int.reduceToNat, Int.reduceGT, Int.reduceGE, q8], by simp only [go_sem, Nat.reduceLT, Nat.reduceLeDiff, Nat.reduceEqDiff, Nat.reduceAdd, Nat.reduceSub, Nat.reduceMul, reduceCtorEq, Int.reduceBEq, Int.reduceLT, Int.reduceLE, Int.reduceAdd, Int.reduceSub, Int.reduceEq, Int.reduceNeg, Int.reduceToNat, Int.reduceGT, Int.reduceGE, q3], by simp only [go_sem, Nat.reduceLT, Nat.reduceLeDiff, Nat.reduceEqDiff, Nat.reduceAdd, Nat.reduceSub, Nat.reduceMul, reduceCtorEq, Int.reduceBEq, Int.reduceLT, Int.reduceLE, Int.reduceAdd, Int.reduceSub, Int.reduceEq, Int.reduceNeg, Int.reduceToNat, Int.reduceGT, Int.reduceGE, q9, r1], by simp only [go_sem, Nat.reduceLT, Nat.reduceLeDiff, Nat.reduceEqDiff, Nat.reduceAdd, Nat.reduceSub, Nat.reduceMul, reduceCtorEq, Int.reduceBEq, Int.reduceLT, Int.reduceLE, Int.reduceAdd, Int.reduceSub, Int.reduceEq, Int.reduceNeg, Int.reduceToNat, Int.reduceGT, Int.reduceGE, q10], by simp only [go_sem, Nat.reduceLT, Nat.reduceLeDiff, Nat.reduceEqDiff, Nat.reduceAdd, Nat.reduceSub, Nat.reduceMul, reduceCtorEq, Int.reduceBEq, Int.reduceLT, Int.reduceLE, Int.reduceAdd, Int.reduceSub, Int.reduceEq, Int.reduceNeg, Int.reduceToNat, Int.reduceGT, Int.reduceGE, q11], by simp only [go_sem, Nat.reduceLT, Nat.reduceLeDiff, Nat.reduceEqDiff, Nat.reduceAdd, Nat.reduceSub, Nat.reduceMul, reduceCtorEq, Int.reduceBEq, Int.reduceLT, Int.reduceLE, Int.reduceAdd, Int.reduceSub, Int.reduceEq, Int.reduceNeg, Int.reduceToNat, Int.reduceGT, Int.reduceGE], by simp only [go_sem, Nat.reduceLT, Nat.reduceLeDiff, Nat.reduceEqDiff, Nat.reduceAdd, Nat.reduceSub, Nat.reduceMul, reduceCtorEq, Int.reduceBEq, Int.reduceLT, Int.reduceLE, Int.reduceAdd, Int.reduceSub, Int.reduceEq, Int.reduceNeg, Int.reduceToNat, Int.reduceGT, Int.reduceGE, hnx], by simp only [go_sem, Nat.reduceLT, Nat.reduceLeDiff, Nat.reduceEqDiff, Nat.reduceAdd, Nat.reduceSub, Nat.reduceMul, reduceCtorEq, Int.reduceBEq, Int.reduceLT, Int.reduceLE, Int.reduceAdd, Int.reduceSub, Int.reduceEq, Int.reduceNeg, Int.reduceToNat, Int.reduceGT, Int.reduceGE, hgn], fun k hk => ?_, fun _ => ⟨_, put_blk_same _ _ _, by simp only [go_sem, Nat.reduceLT, Nat.reduceLeDiff, Nat.reduceEqDiff, Nat.reduceAdd, Nat.reduceSub, Nat.reduceMul, reduceCtorEq, Int.reduceBEq, Int.reduceLT, Int.reduceLE, Int.reduceAdd, Int.reduceSub, Int.reduceEq, Int.reduceNeg, Int.reduceToNat, Int.reduceGT, Int.reduceGE, hro], by simp only [go_sem, Nat.reduceLT, Nat.reduceLeDiff, Nat.reduceEqDiff, Nat.reduceAdd, Nat.reduceSub, Nat.reduceMul, reduceCtorEq, Int.reduceBEq, Int.reduceLT, Int.reduceLE, Int.reduceAdd, Int.reduceSub, Int.reduceEq, Int.reduceNeg, Int.reduceToNat, Int.reduceGT, Int.reduceGE, hbn], fun j hj => ?_⟩⟩
          · rw [put_get_ne _ _ _ _ (hk hne)]; exact hold k hk
          · by_cases c : j = i
            · subst c; exact ⟨_, st_get_same _ _ _ (by omega)⟩
            · obtain ⟨m', hm'⟩ := hget j hj
              exact ⟨m', by rw [st_get_ne _ _ _ _ c]; exact hm'⟩
        · rintro env h3 ⟨q8, q3, q9, q10, q11, q12, hnx, hgn, hold, hcell⟩
          have hlt := ofNat_nlt (Nat.le_refl (flat l).length)
          have E13 : Ext h1 h3 := ⟨by omega, by rw [hgn]; exact E3.gn.trans E2.gn, fun k hk => by
            rw [hold k fun q e => by have := (hid q).2.1; omega, E3.old k (by omega), E2.old k hk]⟩
          have A3 := A.ext' E13
          obtain ⟨c, y, ec, E4, B4, _⟩ := end_run hσ A3 (show (flat l).length ≤ 900000 by omega)
          have ec : (lim Try.prog σ).call 31 [.ptr h'.nx 0] h3 = some (.tup [c, .int .i64 0], y) := ec
          have hfb : ∀ b ∈ flat l, b < 256 := fun b hb => by
            obtain ⟨p, hp, hbp⟩ := List.mem_flatMap.1 hb
            exact bP_lt (P.ok p hp).2.2.1 b hbp
          have c1 := BSl.str (B4 : BSl (y.getD h3) c (bc (flat l))) hfb
          have c2 := BSl.str ((lst_bsl L).ext ((E1.trans E13).trans E4)) hfb
          have B5 : BSl h3 s' (bc (flat l)) := by
            by_cases q : flat l = []
            · obtain ⟨q1, q2⟩ := hnil (by rw [show (bc (flat l)) = [] by rw [q]; rfl]; rfl)
              rw [q1, q]; exact .inl ⟨rfl, rfl⟩
            · obtain ⟨k, q1, q2, q3⟩ := hne (by intro e; apply q; simpa [bc] using e)
              obtain ⟨_, _, r3⟩ := hid q
              have hk := r3.lt (fun e => q (List.length_eq_zero_iff.1 e))
              exact lst_bsl (q3.mono (by omega) fun _ => blk_eq (hold k fun _ e => by omega))
          have c3 := BSl.str (B5.ext E4) hfb
          have w0 : IntKind.wrap .i64 0 = 0 := by decide
          simp only [go_sem, Nat.reduceLT, Nat.reduceLeDiff, Nat.reduceEqDiff, Nat.reduceAdd, Nat.reduceSub, Nat.reduceMul, reduceCtorEq, Int.reduceBEq, Int.reduceLT, Int.reduceLE, Int.reduceAdd, Int.reduceSub, Int.reduceEq, Int.reduceNeg, Int.reduceToNat, Int.reduceGT, Int.reduceGE, q8, q9, q12, hul, hlt, ec, q3, q10, q11, c1, c2, c3, num32_run hσ, w0, hk, tru_fin]
  · simp only [go_sem, Nat.reduceLT, Nat.reduceLeDiff, Nat.reduceEqDiff, Nat.reduceAdd, Nat.reduceSub, Nat.reduceMul, reduceCtorEq, Int.reduceBEq, Int.reduceLT, Int.reduceLE, Int.reduceAdd, Int.reduceSub, Int.reduceEq, Int.reduceNeg, Int.reduceToNat, Int.reduceGT, Int.reduceGE, hm _ (Ext.lo h), hmu, hk, tru_fin]
end Go.Cl.A

namespace Go.Cl.A

theorem cellsOf_5 : Try.prog.cellsOf 5 = 1 := by kernel_rfl
theorem cellsOf_3w : Try.prog.cellsOf 3 = 1 := by kernel_rfl
theorem cellsOf_50 : Try.prog.cellsOf 50 = 1 := by kernel_rfl
theorem cellsOf_67 : Try.prog.cellsOf 67 = 1 := by kernel_rfl

theorem bsl_of {h : H} {v : CV} (r : Rd Try.prog h 67 [v]) : ∃ bs : List Nat, BSl h v (bc bs) ∧ (∀ b ∈ bs, b < 256) ∧ v.one = true := by
  generalize hcs : [v] = cs at r
  cases r with
  | nils ht => simp at hcs; subst hcs; exact ⟨[], .inl ⟨rfl, rfl⟩, by simp, rfl⟩
  | sl0 id ht hid => simp at hcs; subst hcs; exact ⟨[], .inr (.inl ⟨rfl, id, rfl⟩), by simp, rfl⟩
  | sl id len cap b xs ht hid hl hcap hb hro hxl hxg hx =>
    simp at hcs; subst hcs
    rw [Try.underlying67] at ht; cases ht
    rw [cellsOf_5] at hxl hxg
    obtain ⟨l, hll, hq⟩ := list_of (Q := fun i (m : Nat) => xs i = [.int .u8 (Int.ofNat m)] ∧ m < 256) len fun i hi => by
      obtain ⟨m, e, h1, h2⟩ := (hx i hi).int_inv Try.underlying5
      have h1 : 0 ≤ m := h1
      have h2 : m ≤ 255 := h2
      exact ⟨m.toNat, by rw [e]; congr 2; simp; omega, by omega⟩
    refine ⟨l, .inr (.inr ⟨id, 0, _, b, by rw [bc_len, hll], hid, hb, loadN_of _ _ _ rfl fun i v hv => ?_⟩), fun b hb => ?_, rfl⟩
    · have hi := nlt hv
      rw [bc_len, hll] at hi
      obtain ⟨m, hm⟩ : ∃ m, l[i]? = some m := ⟨_, List.getElem?_eq_getElem (by omega)⟩
      have e := (hq i m hm).1
      have := hxg i 0 (.int .u8 (Int.ofNat m)) hi (by rw [e]; rfl)
      rw [Nat.zero_add]
      rw [nth_eq] at hv
      simp [bc, hm] at hv
      rw [← hv]
      simpa using this
    · obtain ⟨i, hi, rfl⟩ := List.getElem_of_mem hb
      exact (hq i _ (List.getElem?_eq_getElem hi)).2
  | _ => simp_all

set_option maxRecDepth 100000 in
theorem part_of {h : H} {xs : List CV} (hl : xs.length = 4) (r : Rd Try.prog h 71 xs) : ∃ p : Part, xs = [.int .i64 p.kind, .int .i64 p.size, .int .u64 (Int.ofNat p.n), p.v] ∧ BSl h p.v (bc p.xs) ∧ p.n < 2 ^ 64 ∧ (∀ b ∈ p.xs, b < 256) ∧ p.v.one = true := by
  obtain ⟨_, hf⟩ := r.struct_inv Try.underlying71
  have h0 := hf _ (List.mem_cons_self)
  have h1 := hf _ (List.mem_cons_of_mem _ List.mem_cons_self)
  have h2 := hf _ (List.mem_cons_of_mem _ (List.mem_cons_of_mem _ List.mem_cons_self))
  have h3 := hf _ (List.mem_cons_of_mem _ (List.mem_cons_of_mem _ (List.mem_cons_of_mem _ List.mem_cons_self)))
  simp only [cellsOf_3w, cellsOf_50, cellsOf_67] at h0 h1 h2 h3
  obtain ⟨kind, e0, _⟩ := h0.int_inv Try.underlying3
  obtain ⟨size, e1, _⟩ := h1.int_inv Try.underlying3
  obtain ⟨n, e2, n1, n2⟩ := h2.int_inv Try.underlying50
  have n1 : 0 ≤ n := n1
  have n2 : n ≤ 18446744073709551615 := n2
  match xs, hl with
  | [x, y, z, w], _ =>
    simp at e0 e1 e2
    subst e0 e1 e2
    have h3' : Rd Try.prog h 67 [w] := h3
    obtain ⟨bs, q1, q2, q3⟩ := bsl_of h3'
    refine ⟨⟨kind, size, n.toNat, w, bs⟩, by simp; omega, q1, by show n.toNat < 2 ^ 64; omega, q2, q3⟩

theorem parts_of {h : H} {c : CV} (a : Arg Try.prog h 65 c) : ∃ l : List Part, Parts h c l := by
  have h1 : c.one = true := by rcases a.one with ⟨_, h⟩ | ⟨_, _, h⟩ | h; rw [Try.underlying65] at h; cases h; rw [Try.underlying65] at h; cases h; exact h
  have r := a.rd
  rw [cells_one h1] at r
  obtain ⟨n, xs, _, hx, hs⟩ := r.slice_inv Try.underlying65 sz_71
  obtain ⟨l, hl, hq⟩ := list_of (Q := fun i (p : Part) => xs i = [.int .i64 p.kind, .int .i64 p.size, .int .u64 (Int.ofNat p.n), p.v] ∧ BSl h p.v (bc p.xs) ∧ p.n < 2 ^ 64 ∧ (∀ b ∈ p.xs, b < 256) ∧ p.v.one = true) n fun i hi => part_of (hx i hi).1 (hx i hi).2
  subst hl
  refine ⟨l, hs _ fun i j x hi hj hn => ?_, fun p hp => ?_⟩
  · obtain ⟨g, hg⟩ : ∃ g, l[i]? = some g := ⟨_, List.getElem?_eq_getElem hi⟩
    obtain ⟨g0, g1, g2, g3⟩ := pcells_at l i g hg
    rw [(hq i g hg).1]
    match j, hj with
    | 0, _ => rw [Nat.add_zero, g0] at hn; cases hn; rfl
    | 1, _ => rw [g1] at hn; cases hn; rfl
    | 2, _ => rw [g2] at hn; cases hn; rfl
    | 3, _ => rw [g3] at hn; cases hn; rfl
  · obtain ⟨i, hi, rfl⟩ := List.getElem_of_mem hp
    exact (hq i _ (List.getElem?_eq_getElem hi)).2
end Go.Cl.A

namespace Go.Proofs.Ytbdokmhibgpjhaa
open Go.ChangeShapes Go.WideShapes Go.ChangeAt Go.RowKit Go.Cl Go.Cl.A

theorem wireWrites_own : ownKnob Try.prog.godebug = none := by kernel_rfl
theorem wireWrites_mixed : Try.prog.follows .mixedOrders = true := by kernel_rfl
theorem wireWrites_plain : plainB Try.prog = true := by kernel_rfl
theorem wireWrites_laidOut : laidOutB Try.prog = true := by kernel_rfl
set_option maxRecDepth 1000000 in
theorem wireWrites_known : (callK Try.prog noSums 10000000 28 [] (h0 0)).map Prod.fst = some (.bool true) := by kernel_rfl

set_option maxRecDepth 100000 in
theorem wireWrites_lifted (os : Os) (started : os.Started) (H : Type) (enc : TypeId × Value → H) :
    ReturnsInHanded {} Try.checked os 7 .any (Rows.wireWritesSpec.pre6 enc Try.prog Try.f7 Rows.wireWritesRow.domain false) (Rows.wireWritesSpec.post enc Try.prog Try.f7 false true false false) := by
  refine returnsInHanded_of_change (C := Try.checked) wireWrites_own started (by kernel_rfl) Try.func7
    (ChangeSpec.witness6 (enc := enc) (C := Try.checked) false ⟨#[], #[.slice none 0 0], []⟩ 8 (by kernel_rfl) (by kernel_rfl) (by kernel_rfl) (by kernel_rfl)) ?_
  intro W base args ds gs before hval hW _ _
  have hW' := hW
  obtain ⟨p, q, hA0, hV, hpq, hfz, _⟩ := hW
  have hlt := hW'.lt
  have hA : DataW.TrodAll enc Try.prog W 0 (fun _ => true) true Try.f7.params.toList args.toList ds p := hA0
  rw [Try.params7] at hA
  obtain ⟨v0, d0, rfl, rfl, t0⟩ := trodAll_one hA
  obtain ⟨rfl, rfl⟩ := trodVars_none hV
  subst hpq
  have hv : ∀ (j : Nat) t v, (#[65] : Array Nat)[j]? = some t → (#[v0] : Array Value)[j]? = some v → Value.okWide Try.prog W .any base t v := by
    intro j t v hj hvj
    exact hval j t v (by rw [Try.params7]; exact hj) hvj
  have rel := rel0 W
  have a0 : ∀ id o, (h0 0).t.get id = some o → o.ro = true := fun id o ho => by rw [show (h0 0).t = T.nil from rfl, T.get_nil] at ho; cases ho
  obtain ⟨h1, f1, c0, r1, g1, e0, A0⟩ := layArg (n := 8) (t := 65) (by kernel_rfl) (hv 0 65 v0 rfl rfl) t0 rel a0
  have b1 := g1.all a0
  have B0 := A0
  obtain ⟨l, P0⟩ := parts_of B0
  have run := writes_run (σ := tell 28 (.bool true)) tell_other tell_self P0
  have hc := open_calls wireWrites_plain wireWrites_mixed (tell_ok wireWrites_plain wireWrites_mixed wireWrites_known rfl) r1 b1 (args := [c0]) (by simp only [okL]; exact ⟨B0.ok, trivial⟩) run
  have hr : (renL f1 [c0]).toArray = #[v0] := by
    rw [← e0]
    simp only [renL]
  rw [hr] at hc
  refine hc.mono fun e W' ⟨he, hb⟩ => ?_
  subst he
  refine ⟨_, rfl, ?_⟩
  have hl : ∀ x ∈ (p) ++ [], x.block < W.heap.size := hW'.lt
  exact ⟨_, _, _, [], _, [], hW', trodAll_mk1 (shut_bool Try.underlying4 _),
    trodAll_mk1 (Below.trod wireWrites_laidOut (by kernel_rfl) (of_decide_eq_true (by kernel_rfl)) t0 hb fun x hx => hl x (by simp [hx])), rfl, hb.frame _, fun h => by cases h⟩

theorem wireWrites_holds : Rows.WireWritesSaid :=
  OpenClaim.holds_of_wide 7 Try.f7 rfl rfl rfl rfl rfl rfl rfl ⟨rfl, rfl, rfl, rfl, rfl⟩ rfl rfl rfl rfl rfl (by kernel_rfl) Try.func7 (by kernel_rfl)
    (of_decide_eq_true (by kernel_rfl)) (by unfold Func.isWrapper; rw [if_neg (by decide +kernel)]; exact ⟨rfl, rfl⟩)
    (fun os started H enc _ => wireWrites_lifted os started H enc)
#print axioms wireWrites_holds
end Go.Proofs.Ytbdokmhibgpjhaa
