/- gemel, the law WireMeans: the given statement 'WireMeansSaid': whatever the parts and the two numbers, the call returns true in every run, and each argument reads as it did. Conditions: none.
   How: the evaluator's run by rewriting (the texts before), the arguments laid (ClArg), and callC_sound. -/
import Derived.Test.YtbdokmhibgpjhaaRows
import Derived.Test.YtbdokmhibgpjhaaClH
set_option linter.all false
open Go Go.Cl Go.Proofs
namespace Go.Cl.A
variable {σ : Sums}

def bc (l : List Nat) : List CV := l.map fun b => .int .u8 (Int.ofNat b)
theorem bc_len (l : List Nat) : (bc l).length = l.length := by simp [bc]
theorem bc_app (a b : List Nat) : bc (a ++ b) = bc a ++ bc b := by simp [bc]
theorem bc_one (l : List Nat) : (bc l).all CV.one = true := List.all_eq_true.2 fun x hx => by
  obtain ⟨b, _, rfl⟩ := List.mem_map.1 hx; rfl

structure WrAt (h : H) (w lid : Nat) (failed : Bool) (bs : List Nat) : Prop where
  lt : w < h.nx
  ne : bs.length ≠ 0 → w ≠ lid
  blk : ∃ b v, h.blk w = some b ∧ b.ro = false ∧ b.n = 2 ∧ b.get 0 = some v ∧ b.get 1 = some (.bool failed) ∧ Lst h 1 v lid bs.length (bc bs)

structure WFr (h h' : H) (w lid : Nat) : Prop where
  nx : h.nx ≤ h'.nx
  gn : h'.gn = h.gn
  old : ∀ id, id < h.nx → id ≠ w → id ≠ lid → h'.t.get id = h.t.get id
theorem WrAt.ext' {h h' : H} {w lid : Nat} {fl : Bool} {bs : List Nat} (A : WrAt h w lid fl bs) (e : Ext h h') : WrAt h' w lid fl bs := by
  obtain ⟨b, v, hb, hro, hbn, h0, h1, hl⟩ := A.blk
  exact ⟨Nat.lt_of_lt_of_le A.lt e.nx, A.ne, b, v, (e.blk A.lt).trans hb, hro, hbn, h0, h1, hl.ext e⟩
theorem WrAt.unlo {h : H} {w lid : Nat} {fl : Bool} {bs : List Nat} (A : WrAt h.lo w lid fl bs) : WrAt h w lid fl bs := by
  obtain ⟨b, v, hb, hro, hbn, h0, h1, hl⟩ := A.blk
  exact ⟨A.lt, A.ne, b, v, hb, hro, hbn, h0, h1, hl.mono (Nat.le_refl _) fun _ => rfl⟩
theorem WFr.refl (h : H) (w lid : Nat) : WFr h h w lid := ⟨Nat.le_refl _, rfl, fun _ _ _ _ => rfl⟩

theorem wsize_run (hσ : ∀ f a h, f ≠ 28 → σ f a h = none) (h : H) (n : Int) : (lim Try.prog σ).call 62 [.int .i64 n] h = some (.bool (decide (n = 1 ∨ n = 2 ∨ n = 4 ∨ n = 8)), none) := by
  rw [call_eq (hσ _ _ _ (by decide)) fn_62 rfl rfl, Try.ntmps62, Try.results62]
  by_cases h1 : n = 1
  · subst h1; simp only [go_sem, Nat.reduceLT, Nat.reduceLeDiff, Nat.reduceEqDiff, Nat.reduceAdd, Nat.reduceSub, Nat.reduceMul, reduceCtorEq, Int.reduceBEq, Int.reduceLT, Int.reduceLE, Int.reduceAdd, Int.reduceSub, Int.reduceEq, Int.reduceNeg, Int.reduceToNat, Int.reduceGT, Int.reduceGE, true_or]; rw [fin_q _ _ _ rfl rfl]
  by_cases h2 : n = 2
  · subst h2; simp only [go_sem, Nat.reduceLT, Nat.reduceLeDiff, Nat.reduceEqDiff, Nat.reduceAdd, Nat.reduceSub, Nat.reduceMul, reduceCtorEq, Int.reduceBEq, Int.reduceLT, Int.reduceLE, Int.reduceAdd, Int.reduceSub, Int.reduceEq, Int.reduceNeg, Int.reduceToNat, Int.reduceGT, Int.reduceGE, true_or, or_true]; rw [fin_q _ _ _ rfl rfl]
  by_cases h4 : n = 4
  · subst h4; simp only [go_sem, Nat.reduceLT, Nat.reduceLeDiff, Nat.reduceEqDiff, Nat.reduceAdd, Nat.reduceSub, Nat.reduceMul, reduceCtorEq, Int.reduceBEq, Int.reduceLT, Int.reduceLE, Int.reduceAdd, Int.reduceSub, Int.reduceEq, Int.reduceNeg, Int.reduceToNat, Int.reduceGT, Int.reduceGE, true_or, or_true]; rw [fin_q _ _ _ rfl rfl]
  by_cases h8 : n = 8
  · subst h8; simp only [go_sem, Nat.reduceLT, Nat.reduceLeDiff, Nat.reduceEqDiff, Nat.reduceAdd, Nat.reduceSub, Nat.reduceMul, reduceCtorEq, Int.reduceBEq, Int.reduceLT, Int.reduceLE, Int.reduceAdd, Int.reduceSub, Int.reduceEq, Int.reduceNeg, Int.reduceToNat, Int.reduceGT, Int.reduceGE, true_or, or_true]; rw [fin_q _ _ _ rfl rfl]
  simp only [go_sem, Nat.reduceLT, Nat.reduceLeDiff, Nat.reduceEqDiff, Nat.reduceAdd, Nat.reduceSub, Nat.reduceMul, reduceCtorEq, Int.reduceBEq, Int.reduceLT, Int.reduceLE, Int.reduceAdd, Int.reduceSub, Int.reduceEq, Int.reduceNeg, Int.reduceToNat, Int.reduceGT, Int.reduceGE, h1, h2, h4, h8, or_self]
  rw [fin_q _ _ _ rfl rfl]

/-- a digit, from the highest one -/
def dig (n k j : Nat) : Nat := n / 2 ^ (8 * (k - 1 - j)) % 256
def be (n k : Nat) : List Nat := (List.range k).map (dig n k)

/-! ### slices of bytes, whosesoever -/
def BSl (h : H) (v : CV) (cs : List CV) : Prop := (cs = [] ∧ v = .nils) ∨ (cs = [] ∧ ∃ id a b c, v = .sl0 id a b c) ∨ ∃ id off c b, v = .sl id off cs.length c ∧ id < h.nx ∧ h.blk id = some b ∧ b.loadN off cs.length = some cs
theorem BSl.ext {h h' : H} {v : CV} {cs : List CV} (B : BSl h v cs) (e : Ext h h') : BSl h' v cs := by
  rcases B with h1 | h1 | ⟨id, off, c, b, h1, h2, h3, h4⟩
  · exact .inl h1
  · exact .inr (.inl h1)
  · exact .inr (.inr ⟨id, off, c, b, h1, Nat.lt_of_lt_of_le h2 e.nx, (e.blk h2).trans h3, h4⟩)
theorem BSl.len {h : H} {v : CV} {cs : List CV} (B : BSl h v cs) (h' : H) : builtinT Try.prog h' .len [67] [v] = some (.val (.int .i64 (Int.ofNat cs.length))) := by
  rcases B with ⟨rfl, rfl⟩ | ⟨rfl, id, x1, x2, x3, rfl⟩ | ⟨id, off, c, b, rfl, _⟩ <;> simp [builtinT, Try.underlying67, lenC]
theorem BSl.one {h : H} {v : CV} {cs : List CV} (B : BSl h v cs) : v.one = true ∧ v.cells = [v] := by
  rcases B with ⟨rfl, rfl⟩ | ⟨rfl, id, x1, x2, x3, rfl⟩ | ⟨id, off, c, b, rfl, _⟩ <;> exact ⟨rfl, rfl⟩
theorem lst_bsl {h : H} {v : CV} {id n : Nat} {cs : List CV} (l : Lst h 1 v id n cs) : BSl h v cs := by
  have hl := l.len
  rcases l.val with ⟨h0, rfl⟩ | ⟨h0, rfl, h1, b, h2, h3, h4, h5⟩
  · subst h0; left; exact ⟨List.length_eq_zero_iff.1 (by simpa using hl), rfl⟩
  · right; right; refine ⟨id, 0, _, b, by rw [hl, Nat.mul_one], h1, h2, loadN_of _ _ _ rfl fun i v hv => by rw [Nat.zero_add, h5, hv]⟩
theorem app_67_sl0 (h : H) (s : CV) (a b c d : Nat) : builtinT Try.prog h .append [67, 67] [s, .sl0 a b c d] = uv (appS h 1 1 1 s 0 (some [])) := by kernel_rfl
theorem BSl.app {h : H} {v : CV} {cs : List CV} (B : BSl h v cs) (s : CV) : builtinT Try.prog h .append [67, 67] [s, v] = uv (appS h 1 1 1 s cs.length (some cs)) := by
  rcases B with ⟨rfl, rfl⟩ | ⟨rfl, id, x1, x2, x3, rfl⟩ | ⟨id, off, c, b, rfl, h1, h2, h3⟩
  · rw [app_67_n, ap_67_n]; rfl
  · exact app_67_sl0 _ _ _ _ _ _
  · rw [app_67, ap_67, firstC_sl, h2, bind_some', Nat.mul_one, h3]
theorem bytesOf_bc : ∀ bs : List Nat, (∀ b ∈ bs, b < 256) → bytesOf (bc bs) = some bs
  | [], _ => rfl
  | b :: bs, h => by
    have := bytesOf_bc bs fun x hx => h x (List.mem_cons_of_mem _ hx)
    rw [bc] at this
    simp only [bc, bytesOf, List.map_cons, Int.ofNat_eq_natCast, Int.toNat_natCast] at this ⊢
    rw [this]; simp [blt_eq', h b List.mem_cons_self]
theorem BSl.str {h : H} {v : CV} {bs : List Nat} (B : BSl h v (bc bs)) (hb : ∀ b ∈ bs, b < 256) : convT Try.prog h 67 9 v = some (.val (.str bs)) := by
  rcases B with ⟨e, rfl⟩ | ⟨e, id, x1, x2, x3, rfl⟩ | ⟨id, off, c, b, rfl, h1, h2, h3⟩
  · have : bs = [] := by simpa [bc] using e
    subst this; rw [cv_67_9_n]
  · have : bs = [] := by simpa [bc] using e
    subst this; rw [cv_67_9_z]
  · rw [cv_67_9, h2]
    show (b.loadN _ _).bind _ = _
    rw [h3]
    simp [bytesOf_bc _ hb]

/-- what a growing leaves -/
structure AppFr (h h' : H) (lid n lid' m : Nat) : Prop where
  nx : h.nx ≤ h'.nx
  gn : h'.gn = h.gn
  old : ∀ k, k < h.nx → (n ≠ 0 → k ≠ lid) → h'.t.get k = h.t.get k
  id : (lid' = lid ∧ m = 0) ∨ h.nx ≤ lid'

theorem app_any {h : H} {v : CV} {id n : Nat} {cs : List CV} (l : Lst h 1 v id n cs) {new : List CV} (ho : new.all CV.one = true) (hr : n + new.length ≤ 70368744177664) :
    ∃ v' id' h', appS h 1 1 1 v new.length (some new) = some (v', h') ∧ Lst h' 1 v' id' (n + new.length) (cs ++ new) ∧ AppFr h h' id n id' new.length ∧ h'.low ≤ h.low := by
  by_cases h0 : new = []
  · subst h0
    have hg : (Nat.blt 0 1 && Nat.ble ((n + 0) * 1) 70368744177664 && Nat.ble (n + 0) 70368744177664 && Nat.beq 1 1 && Nat.beq ([] : List CV).length (0 * 1) && ([] : List CV).all CV.one) = true := by
      simp only [blt_eq', ble_eq', beq_eq', Bool.and_eq_true, decide_eq_true_eq]
      simp at hr
      simp; omega
    rcases l.val with ⟨rfl, rfl⟩ | ⟨hn, rfl, hid, b, hb, hro, hbn, hbg⟩
    · refine ⟨.nils, id, h, ?_, by simpa using l, ⟨Nat.le_refl _, rfl, fun _ _ _ => rfl, .inl ⟨rfl, rfl⟩⟩, Nat.le_refl _⟩
      unfold appS
      rw [lenC_nils, bind_some', bind_some']
      rfl
    · refine ⟨.sl id 0 n (.opn 1), id, h.put id (.cells b), ?_, ?_, ⟨Nat.le_refl _, rfl, fun k _ hk => put_get_ne _ _ _ _ (hk (by omega)), .inl ⟨rfl, rfl⟩⟩, Nat.min_le_left _ _⟩
      · unfold appS
        rw [lenC_sl, bind_some', bind_some']
        show cond (Nat.blt 0 1 && Nat.ble ((n + 0) * 1) 70368744177664 && Nat.ble (n + 0) 70368744177664 && Nat.beq 1 1 && Nat.beq ([] : List CV).length (0 * 1) && ([] : List CV).all CV.one) _ _ = _
        rw [hg, cond_true]
        dsimp only [List.length_nil]
        rw [beq_eq', decide_eq_true rfl, cond_true, hb, bind_some', hro, cond_false, ble_eq', decide_eq_true (by omega), cond_true, storeN_nil]
        rfl
      · simp only [List.length_nil, Nat.add_zero, List.append_nil]
        exact ⟨l.len, .inr ⟨hn, rfl, hid, b, put_blk_same _ _ _, hro, hbn, hbg⟩⟩
  · have hm : 0 < new.length := List.length_pos_iff.2 h0
    obtain ⟨h', e, l', h1, h2, h3, h4, _⟩ := app_Lst (by_ := 1) (zl := 1) l hm (new := new) (by simp) ho rfl (by decide) (by omega) hr
    exact ⟨_, _, h', e, l', ⟨by omega, h2, h3, .inr (Nat.le_refl _)⟩, h4⟩

theorem appb_step {β : Type} {Q : Option β → Prop} {X : H} {s v : CV} {lid n : Nat} {old cs : List CV} {K : Out → Option β} (l : Lst X 1 s lid n old) (B : BSl X v cs) (ho : cs.all CV.one = true) (hr : n + cs.length ≤ 70368744177664)
    (k : ∀ s' lid' h', Lst h' 1 s' lid' (n + cs.length) (old ++ cs) → AppFr X h' lid n lid' cs.length → h'.low ≤ X.low → Q (K (.upd s' h'))) : Q (@thn _ β (builtinT Try.prog X .append [67, 67] [s, v]) ⟨K⟩) := by
  obtain ⟨v', id', h', e, l', f, hlow⟩ := app_any l ho hr
  rw [B.app, e]
  exact k _ _ _ l' f hlow

theorem lst_beq {h : H} {size : Nat} {v : CV} {id n : Nat} {cs : List CV} (l : Lst h size v id n cs) : beqC v v = true := by
  rcases l.val with ⟨_, rfl⟩ | ⟨_, rfl, _⟩
  · rfl
  · exact beqC_sl _ _ _ _
/-! ### the writer's methods -/
theorem WFr.up {a b : H} {w l : Nat} (x : WFr a b w l) (m : Nat) : WFr a (b.up m) w l := ⟨x.nx, x.gn, x.old⟩
theorem WrAt.up {h : H} {w lid : Nat} {fl : Bool} {bs : List Nat} (A : WrAt h w lid fl bs) (m : Nat) : WrAt (h.up m) w lid fl bs := A.ext' (Ext.up h m)
theorem WFr.trans {a b c : H} {w l l' : Nat} (x : WFr a b w l) (y : WFr b c w l') (hl : l' = l ∨ a.nx ≤ l') : WFr a c w l :=
  ⟨Nat.le_trans x.nx y.nx, y.gn.trans x.gn, fun k h1 h2 h3 => by
    rw [y.old k (Nat.lt_of_lt_of_le h1 x.nx) h2 (by omega)]; exact x.old k h1 h2 h3⟩

/-- a writer's state behind so much -/
def wput (s : Bool × List Nat) (p : Option (List Nat)) : Bool × List Nat := if s.1 then s else match p with | none => (true, s.2) | some l => (false, s.2 ++ l)

/-- what is handed on was changed below -/
def Lw (h : H) (w : Nat) (x : Option H) : Prop := ∀ h1, x = some h1 → h1.low ≤ w ∧ h1.low ≤ h.low
theorem Lw.none (h : H) (w : Nat) : Lw h w none := fun _ e => by cases e
theorem Lw.fin (h s : H) {w : Nat} (e : s.low ≤ w) : Lw h w (some (s.up (min h.low s.low))) := fun h1 q => by
  cases q; rw [up_low]; omega
def WOk (h : H) (w lid : Nat) (s : Bool × List Nat) (r : Option (CV × Option H)) : Prop :=
  ∃ x lid', r = some (.ptr w 0, x) ∧ WrAt (x.getD h) w lid' s.1 s.2 ∧ WFr h (x.getD h) w lid ∧ (lid' = lid ∨ h.nx ≤ lid') ∧ Lw h w x ∧ (x = none → s.1 = true)

def sizeOk (n : Int) : Bool := decide (n = 1 ∨ n = 2 ∨ n = 4 ∨ n = 8)
def numB (n : Nat) (k : Int) : Option (List Nat) := if sizeOk k then (if n / 256 ^ k.toNat = 0 then some (be n k.toNat) else none) else none

set_option maxRecDepth 100000 in
theorem number_run (hσ : ∀ f a h, f ≠ 28 → σ f a h = none) {h : H} {w lid : Nat} {fl : Bool} {bs : List Nat} (A : WrAt h w lid fl bs) (n : Nat) (hn : n < 2 ^ 64) (k : Int) (room : bs.length ≤ 1000000) :
    WOk h w lid (wput (fl, bs) (numB n k)) ((lim Try.prog σ).call 52 [.ptr w 0, .int .u64 (Int.ofNat n), .int .i64 k] h) := by
  obtain ⟨b, v, hb, hro, hbn, h0, h1, hl⟩ := A.blk
  have hw := wsize_run hσ h.lo k
  rw [call_eq (hσ _ _ _ (by decide)) fn_52 rfl rfl, Try.ntmps52, Try.results52]
  have hlt := A.lt
  cases fl
  · by_cases hs : k = 1 ∨ k = 2 ∨ k = 4 ∨ k = 8
    · rw [decide_eq_true hs] at hw
      obtain ⟨K, rfl, hK, hK8⟩ : ∃ K : Nat, k = Int.ofNat K ∧ 1 ≤ K ∧ K ≤ 8 := by
        rcases hs with rfl | rfl | rfl | rfl
        · exact ⟨1, rfl, by decide, by decide⟩
        · exact ⟨2, rfl, by decide, by decide⟩
        · exact ⟨4, rfl, by decide, by decide⟩
        · exact ⟨8, rfl, by decide, by decide⟩
      have e1 : IntKind.wrap .i64 (8 * Int.ofNat K) = Int.ofNat (8 * K) := by
        rw [wrap_i64 (by simp; omega) (by simp; omega)]; simp
      have e2 : IntKind.wrap .i64 (Int.ofNat K - 1) = Int.ofNat K - 1 := by
        rw [wrap_i64 (by simp; omega) (by simp; omega)]
      have e3 : 2 ^ (8 * K) = 256 ^ K := by rw [Nat.pow_mul]
      have hmin : min (8 * K) 64 = 8 * K := by omega
      have hn0 : numB n (Int.ofNat K) = if n / 256 ^ K = 0 then some (be n K) else none := by
        unfold numB
        rw [show sizeOk (Int.ofNat K) = true from decide_eq_true hs]
        rfl
      by_cases hz : n / 256 ^ K = 0
      · have hput : wput (false, bs) (numB n (Int.ofNat K)) = (false, bs ++ be n K) := by rw [hn0, if_pos hz]; rfl
        rw [hput]
        have hfit : Int.ofNat K < 8 ∨ ¬ Int.ofNat K < 8 := Classical.em _
        have hz' : Int.ofNat (n / 2 ^ (8 * K)) = 0 := by rw [e3, hz]; rfl
        rcases hfit with h8 | h8
        case' inl => simp only [go_sem, Nat.reduceLT, Nat.reduceLeDiff, Nat.reduceEqDiff, Nat.reduceAdd, Nat.reduceSub, Nat.reduceMul, reduceCtorEq, Int.reduceBEq, Int.reduceLT, Int.reduceLE, Int.reduceAdd, Int.reduceSub, Int.reduceEq, Int.reduceNeg, Int.reduceToNat, Int.reduceGT, Int.reduceGE, hw, hb, h0, h1, hbn, hro, bin_shr, fdiv_nat, e1, e2, isW_und, h8, IntKind.bits, hmin, hz']
        case' inr => simp only [go_sem, Nat.reduceLT, Nat.reduceLeDiff, Nat.reduceEqDiff, Nat.reduceAdd, Nat.reduceSub, Nat.reduceMul, reduceCtorEq, Int.reduceBEq, Int.reduceLT, Int.reduceLE, Int.reduceAdd, Int.reduceSub, Int.reduceEq, Int.reduceNeg, Int.reduceToNat, Int.reduceGT, Int.reduceGE, hw, hb, h0, h1, hbn, hro, bin_shr, fdiv_nat, e1, e2, isW_und, h8]
        all_goals
          refine loop_ind (Q := WOk h w lid (false, bs ++ be n K)) (fun i env h' => evT env 0 = .ptr w 0 ∧ evT env 1 = .int .u64 (Int.ofNat n) ∧ evT env 7 = .int .i64 (Int.ofNat K - 1 - Int.ofNat i) ∧ ∃ lid', WrAt h' w lid' false (bs ++ (be n K).take i) ∧ WFr h h' w lid ∧ (lid' = lid ∨ h.nx ≤ lid') ∧ (0 < i → h'.low ≤ w)) K 0 ?_ (Nat.zero_le _) ?_ ?_
          · refine ⟨by simp only [go_sem, Nat.reduceLT, Nat.reduceLeDiff, Nat.reduceEqDiff, Nat.reduceAdd, Nat.reduceSub, Nat.reduceMul, reduceCtorEq, Int.reduceBEq, Int.reduceLT, Int.reduceLE, Int.reduceAdd, Int.reduceSub, Int.reduceEq, Int.reduceNeg, Int.reduceToNat, Int.reduceGT, Int.reduceGE], by simp only [go_sem, Nat.reduceLT, Nat.reduceLeDiff, Nat.reduceEqDiff, Nat.reduceAdd, Nat.reduceSub, Nat.reduceMul, reduceCtorEq, Int.reduceBEq, Int.reduceLT, Int.reduceLE, Int.reduceAdd, Int.reduceSub, Int.reduceEq, Int.reduceNeg, Int.reduceToNat, Int.reduceGT, Int.reduceGE], ?_, lid, ?_, ⟨Nat.le_refl _, rfl, fun _ _ _ _ => rfl⟩, .inl rfl, fun h => absurd h (by decide)⟩
            · simp only [go_sem, Nat.reduceLT, Nat.reduceLeDiff, Nat.reduceEqDiff, Nat.reduceAdd, Nat.reduceSub, Nat.reduceMul, reduceCtorEq, Int.reduceBEq, Int.reduceLT, Int.reduceLE, Int.reduceAdd, Int.reduceSub, Int.reduceEq, Int.reduceNeg, Int.reduceToNat, Int.reduceGT, Int.reduceGE]; congr 1; simp
            · simp only [List.take_zero, List.append_nil]; exact A.ext' (Ext.lo h)
          · rintro i env h' ⟨q0, q1, q7, lid', A', F', hl', _⟩ hi next
            obtain ⟨b', v', hb', hro', hbn', h0', h1', hls⟩ := A'.blk
            obtain ⟨j, hj⟩ : ∃ j, K - 1 - i = j := ⟨_, rfl⟩
            have q7' : evT env 7 = .int .i64 (Int.ofNat j) := by rw [q7]; congr 1; simp; omega
            have c1 : Int.ofNat j ≥ 0 := Int.natCast_nonneg _
            have c2 : IntKind.wrap .i64 (8 * Int.ofNat j) = Int.ofNat (8 * j) := by
              rw [wrap_i64 (by simp; omega) (by simp; omega)]; simp
            simp only [go_sem, Nat.reduceLT, Nat.reduceLeDiff, Nat.reduceEqDiff, Nat.reduceAdd, Nat.reduceSub, Nat.reduceMul, reduceCtorEq, Int.reduceBEq, Int.reduceLT, Int.reduceLE, Int.reduceAdd, Int.reduceSub, Int.reduceEq, Int.reduceNeg, Int.reduceToNat, Int.reduceGT, Int.reduceGE, q0, q1, q7', c1, c2, hb', h0', h1', hro', hbn', bin_shr, fdiv_nat, wrap_u8]
            rw [cnd_closed]
            rotate_left
            · kernel_rfl
            simp only [go_sem, Nat.reduceLT, Nat.reduceLeDiff, Nat.reduceEqDiff, Nat.reduceAdd, Nat.reduceSub, Nat.reduceMul, reduceCtorEq, Int.reduceBEq, Int.reduceLT, Int.reduceLE, Int.reduceAdd, Int.reduceSub, Int.reduceEq, Int.reduceNeg, Int.reduceToNat, Int.reduceGT, Int.reduceGE, q0, q1, q7', c1, c2, hb', h0', h1', hro', hbn', bin_shr, fdiv_nat, wrap_u8]
            have hlen : (bs ++ (be n K).take i).length ≤ 1000008 := by simp [be]; omega
            have hlt' := A'.lt
            have hnw := A'.ne
            refine app_step (Q := WOk h w lid (false, bs ++ be n K)) (m := 1) (by_ := 1) (hls.ext (Ext.alloc _ _)) (by decide) rfl rfl rfl (by decide) (by omega) (by omega) ?_
            intro h2 l2 hnx2 hgn2 hold2 hlow2 _
            have hb2 := blk_eq (hold2 w (by simp only [go_sem, Nat.reduceLT, Nat.reduceLeDiff, Nat.reduceEqDiff, Nat.reduceAdd, Nat.reduceSub, Nat.reduceMul, reduceCtorEq, Int.reduceBEq, Int.reduceLT, Int.reduceLE, Int.reduceAdd, Int.reduceSub, Int.reduceEq, Int.reduceNeg, Int.reduceToNat, Int.reduceGT, Int.reduceGE]; omega) fun q e => hnw (by omega) e)
            have hne1 : w ≠ h'.nx := by omega
            simp only [go_sem, Nat.reduceLT, Nat.reduceLeDiff, Nat.reduceEqDiff, Nat.reduceAdd, Nat.reduceSub, Nat.reduceMul, reduceCtorEq, Int.reduceBEq, Int.reduceLT, Int.reduceLE, Int.reduceAdd, Int.reduceSub, Int.reduceEq, Int.reduceNeg, Int.reduceToNat, Int.reduceGT, Int.reduceGE, hne1] at l2 hnx2 hgn2 hold2 hlow2 hb2
            rw [hb'] at hb2
            have c3 : IntKind.wrap .i64 (Int.ofNat j - 1) = Int.ofNat K - 1 - Int.ofNat (i + 1) := by
              rw [wrap_i64 (by simp; omega) (by simp; omega)]; simp; omega
            simp only [go_sem, Nat.reduceLT, Nat.reduceLeDiff, Nat.reduceEqDiff, Nat.reduceAdd, Nat.reduceSub, Nat.reduceMul, reduceCtorEq, Int.reduceBEq, Int.reduceLT, Int.reduceLE, Int.reduceAdd, Int.reduceSub, Int.reduceEq, Int.reduceNeg, Int.reduceToNat, Int.reduceGT, Int.reduceGE, q0, q1, q7', c1, c2, c3, hb', hb2, h0', h1', hro', hbn', l2.one, hne1, bin_shr, fdiv_nat, wrap_u8, lst_beq hls]
            rw [cnd_closed]
            rotate_left
            · kernel_rfl
            simp only [go_sem, Nat.reduceLT, Nat.reduceLeDiff, Nat.reduceEqDiff, Nat.reduceAdd, Nat.reduceSub, Nat.reduceMul, reduceCtorEq, Int.reduceBEq, Int.reduceLT, Int.reduceLE, Int.reduceAdd, Int.reduceSub, Int.reduceEq, Int.reduceNeg, Int.reduceToNat, Int.reduceGT, Int.reduceGE, q0, q1, q7', c1, c2, c3, hb', hb2, h0', h1', hro', hbn', l2.one, hne1, bin_shr, fdiv_nat, wrap_u8, lst_beq hls]
            rw [cond_al (i := 4) (d := [10, 11, 14])]
            rotate_left
            · kernel_rfl
            simp only [go_sem, Nat.reduceLT, Nat.reduceLeDiff, Nat.reduceEqDiff, Nat.reduceAdd, Nat.reduceSub, Nat.reduceMul, reduceCtorEq, Int.reduceBEq, Int.reduceLT, Int.reduceLE, Int.reduceAdd, Int.reduceSub, Int.reduceEq, Int.reduceNeg, Int.reduceToNat, Int.reduceGT, Int.reduceGE, q0, q1, q7', c1, c2, c3, hb', hb2, h0', h1', hro', hbn', l2.one, hne1, bin_shr, fdiv_nat, wrap_u8, lst_beq hls]
            refine next _ _ ⟨by simp only [go_sem, Nat.reduceLT, Nat.reduceLeDiff, Nat.reduceEqDiff, Nat.reduceAdd, Nat.reduceSub, Nat.reduceMul, reduceCtorEq, Int.reduceBEq, Int.reduceLT, Int.reduceLE, Int.reduceAdd, Int.reduceSub, Int.reduceEq, Int.reduceNeg, Int.reduceToNat, Int.reduceGT, Int.reduceGE, q0], by simp only [go_sem, Nat.reduceLT, Nat.reduceLeDiff, Nat.reduceEqDiff, Nat.reduceAdd, Nat.reduceSub, Nat.reduceMul, reduceCtorEq, Int.reduceBEq, Int.reduceLT, Int.reduceLE, Int.reduceAdd, Int.reduceSub, Int.reduceEq, Int.reduceNeg, Int.reduceToNat, Int.reduceGT, Int.reduceGE, q1], by simp only [go_sem, Nat.reduceLT, Nat.reduceLeDiff, Nat.reduceEqDiff, Nat.reduceAdd, Nat.reduceSub, Nat.reduceMul, reduceCtorEq, Int.reduceBEq, Int.reduceLT, Int.reduceLE, Int.reduceAdd, Int.reduceSub, Int.reduceEq, Int.reduceNeg, Int.reduceToNat, Int.reduceGT, Int.reduceGE], h'.nx + 1, ?_, ?_, .inr (by have := F'.nx; omega), fun _ => ?_⟩
            · simp only [go_sem, Nat.reduceLT, Nat.reduceLeDiff, Nat.reduceEqDiff, Nat.reduceAdd, Nat.reduceSub, Nat.reduceMul, reduceCtorEq, Int.reduceBEq, Int.reduceLT, Int.reduceLE, Int.reduceAdd, Int.reduceSub, Int.reduceEq, Int.reduceNeg, Int.reduceToNat, Int.reduceGT, Int.reduceGE]
              have hdig : n / 2 ^ min (8 * j) 64 % 256 = dig n K i := by
                unfold dig; rw [hj, show min (8 * j) 64 = 8 * j by omega]
              have htk : bs ++ (be n K).take (i + 1) = (bs ++ (be n K).take i) ++ [dig n K i] := by
                rw [List.append_assoc]; congr 1
                rw [List.take_add_one]
                simp [be, hi]
              rw [hdig] at l2
              rw [htk]
              refine ⟨by first | (simp only [go_sem, Nat.reduceLT, Nat.reduceLeDiff, Nat.reduceEqDiff, Nat.reduceAdd, Nat.reduceSub, Nat.reduceMul, reduceCtorEq, Int.reduceBEq, Int.reduceLT, Int.reduceLE, Int.reduceAdd, Int.reduceSub, Int.reduceEq, Int.reduceNeg, Int.reduceToNat, Int.reduceGT, Int.reduceGE]; omega) | simp only [go_sem, Nat.reduceLT, Nat.reduceLeDiff, Nat.reduceEqDiff, Nat.reduceAdd, Nat.reduceSub, Nat.reduceMul, reduceCtorEq, Int.reduceBEq, Int.reduceLT, Int.reduceLE, Int.reduceAdd, Int.reduceSub, Int.reduceEq, Int.reduceNeg, Int.reduceToNat, Int.reduceGT, Int.reduceGE], fun _ => (by omega : w ≠ h'.nx + 1), _, _, put_blk_same _ _ _, by simp only [go_sem, Nat.reduceLT, Nat.reduceLeDiff, Nat.reduceEqDiff, Nat.reduceAdd, Nat.reduceSub, Nat.reduceMul, reduceCtorEq, Int.reduceBEq, Int.reduceLT, Int.reduceLE, Int.reduceAdd, Int.reduceSub, Int.reduceEq, Int.reduceNeg, Int.reduceToNat, Int.reduceGT, Int.reduceGE, hro'], by simp only [go_sem, Nat.reduceLT, Nat.reduceLeDiff, Nat.reduceEqDiff, Nat.reduceAdd, Nat.reduceSub, Nat.reduceMul, reduceCtorEq, Int.reduceBEq, Int.reduceLT, Int.reduceLE, Int.reduceAdd, Int.reduceSub, Int.reduceEq, Int.reduceNeg, Int.reduceToNat, Int.reduceGT, Int.reduceGE, hbn'], by simp only [go_sem, Nat.reduceLT, Nat.reduceLeDiff, Nat.reduceEqDiff, Nat.reduceAdd, Nat.reduceSub, Nat.reduceMul, reduceCtorEq, Int.reduceBEq, Int.reduceLT, Int.reduceLE, Int.reduceAdd, Int.reduceSub, Int.reduceEq, Int.reduceNeg, Int.reduceToNat, Int.reduceGT, Int.reduceGE, hbn']; rfl, by simp only [go_sem, Nat.reduceLT, Nat.reduceLeDiff, Nat.reduceEqDiff, Nat.reduceAdd, Nat.reduceSub, Nat.reduceMul, reduceCtorEq, Int.reduceBEq, Int.reduceLT, Int.reduceLE, Int.reduceAdd, Int.reduceSub, Int.reduceEq, Int.reduceNeg, Int.reduceToNat, Int.reduceGT, Int.reduceGE, h1'], ?_⟩
              rw [show (bs ++ List.take i (be n K) ++ [dig n K i]).length = (bs ++ List.take i (be n K)).length + 1 by rw [List.length_append (bs := [dig n K i])]; rfl, bc_app (bs ++ List.take i (be n K))]
              have hne2 : h'.nx + 1 ≠ w := by omega
              exact Lst.mono (h := h2) l2 (by first | (simp only [go_sem, Nat.reduceLT, Nat.reduceLeDiff, Nat.reduceEqDiff, Nat.reduceAdd, Nat.reduceSub, Nat.reduceMul, reduceCtorEq, Int.reduceBEq, Int.reduceLT, Int.reduceLE, Int.reduceAdd, Int.reduceSub, Int.reduceEq, Int.reduceNeg, Int.reduceToNat, Int.reduceGT, Int.reduceGE]; omega) | simp only [go_sem, Nat.reduceLT, Nat.reduceLeDiff, Nat.reduceEqDiff, Nat.reduceAdd, Nat.reduceSub, Nat.reduceMul, reduceCtorEq, Int.reduceBEq, Int.reduceLT, Int.reduceLE, Int.reduceAdd, Int.reduceSub, Int.reduceEq, Int.reduceNeg, Int.reduceToNat, Int.reduceGT, Int.reduceGE]) fun _ => by simp only [go_sem, Nat.reduceLT, Nat.reduceLeDiff, Nat.reduceEqDiff, Nat.reduceAdd, Nat.reduceSub, Nat.reduceMul, reduceCtorEq, Int.reduceBEq, Int.reduceLT, Int.reduceLE, Int.reduceAdd, Int.reduceSub, Int.reduceEq, Int.reduceNeg, Int.reduceToNat, Int.reduceGT, Int.reduceGE, hne2]
            · simp only [go_sem, Nat.reduceLT, Nat.reduceLeDiff, Nat.reduceEqDiff, Nat.reduceAdd, Nat.reduceSub, Nat.reduceMul, reduceCtorEq, Int.reduceBEq, Int.reduceLT, Int.reduceLE, Int.reduceAdd, Int.reduceSub, Int.reduceEq, Int.reduceNeg, Int.reduceToNat, Int.reduceGT, Int.reduceGE]
              refine ⟨by have := F'.nx; simp only [go_sem, Nat.reduceLT, Nat.reduceLeDiff, Nat.reduceEqDiff, Nat.reduceAdd, Nat.reduceSub, Nat.reduceMul, reduceCtorEq, Int.reduceBEq, Int.reduceLT, Int.reduceLE, Int.reduceAdd, Int.reduceSub, Int.reduceEq, Int.reduceNeg, Int.reduceToNat, Int.reduceGT, Int.reduceGE]; omega, by simp only [go_sem, Nat.reduceLT, Nat.reduceLeDiff, Nat.reduceEqDiff, Nat.reduceAdd, Nat.reduceSub, Nat.reduceMul, reduceCtorEq, Int.reduceBEq, Int.reduceLT, Int.reduceLE, Int.reduceAdd, Int.reduceSub, Int.reduceEq, Int.reduceNeg, Int.reduceToNat, Int.reduceGT, Int.reduceGE]; rw [hgn2]; exact F'.gn, fun k k1 k2 k3 => ?_⟩
              have := F'.nx
              rw [put_get_ne _ _ _ _ k2, hold2 k (by omega) (by omega), alloc_get_ne _ _ _ (by omega)]
              exact F'.old k k1 k2 k3
            · simp only [go_sem, Nat.reduceLT, Nat.reduceLeDiff, Nat.reduceEqDiff, Nat.reduceAdd, Nat.reduceSub, Nat.reduceMul, reduceCtorEq, Int.reduceBEq, Int.reduceLT, Int.reduceLE, Int.reduceAdd, Int.reduceSub, Int.reduceEq, Int.reduceNeg, Int.reduceToNat, Int.reduceGT, Int.reduceGE]
              omega
          · rintro env h' ⟨q0, q1, q7, lid', A', F', hl', hlow⟩
            have q7' : evT env 7 = .int .i64 (-1) := by rw [q7]; congr 1; simp; omega
            have htk : (be n K).take K = be n K := List.take_of_length_le (by simp [be])
            simp only [go_sem, Nat.reduceLT, Nat.reduceLeDiff, Nat.reduceEqDiff, Nat.reduceAdd, Nat.reduceSub, Nat.reduceMul, reduceCtorEq, Int.reduceBEq, Int.reduceLT, Int.reduceLE, Int.reduceAdd, Int.reduceSub, Int.reduceEq, Int.reduceNeg, Int.reduceToNat, Int.reduceGT, Int.reduceGE, q0, q1, q7']
            rw [fin_l _ _ _ (Nat.lt_of_le_of_lt (hlow (by omega)) hlt)]
            rw [htk] at A'; exact ⟨_, lid', rfl, A'.up _, F'.up _, hl', Lw.fin _ _ (hlow (by omega)), fun q => by cases q⟩
      · have hput : wput (false, bs) (numB n (Int.ofNat K)) = (true, bs) := by rw [hn0, if_neg hz]; rfl
        rw [hput]
        have h8 : Int.ofNat K < 8 := by
          by_cases q : K = 8
          · subst q; exact absurd (Nat.div_eq_of_lt (by simpa using hn)) hz
          · simp; omega
        have hz' : ¬ Int.ofNat (n / 2 ^ (8 * K)) = 0 := by rw [e3]; intro q; exact hz (Int.ofNat.inj q)
        simp only [go_sem, Nat.reduceLT, Nat.reduceLeDiff, Nat.reduceEqDiff, Nat.reduceAdd, Nat.reduceSub, Nat.reduceMul, reduceCtorEq, Int.reduceBEq, Int.reduceLT, Int.reduceLE, Int.reduceAdd, Int.reduceSub, Int.reduceEq, Int.reduceNeg, Int.reduceToNat, Int.reduceGT, Int.reduceGE, hw, hb, h0, h1, hbn, hro, bin_shr, fdiv_nat, e1, e2, isW_und, h8, IntKind.bits, hmin, hz']
        rw [fin_l _ _ _ (by simp only [go_sem, Nat.reduceLT, Nat.reduceLeDiff, Nat.reduceEqDiff, Nat.reduceAdd, Nat.reduceSub, Nat.reduceMul, reduceCtorEq, Int.reduceBEq, Int.reduceLT, Int.reduceLE, Int.reduceAdd, Int.reduceSub, Int.reduceEq, Int.reduceNeg, Int.reduceToNat, Int.reduceGT, Int.reduceGE]; omega)]
        exact ⟨_, lid, rfl, ⟨A.lt, A.ne, _, _, put_blk_same _ _ _, hro, hbn, by simp only [go_sem, Nat.reduceLT, Nat.reduceLeDiff, Nat.reduceEqDiff, Nat.reduceAdd, Nat.reduceSub, Nat.reduceMul, reduceCtorEq, Int.reduceBEq, Int.reduceLT, Int.reduceLE, Int.reduceAdd, Int.reduceSub, Int.reduceEq, Int.reduceNeg, Int.reduceToNat, Int.reduceGT, Int.reduceGE, h0], by simp only [go_sem, Nat.reduceLT, Nat.reduceLeDiff, Nat.reduceEqDiff, Nat.reduceAdd, Nat.reduceSub, Nat.reduceMul, reduceCtorEq, Int.reduceBEq, Int.reduceLT, Int.reduceLE, Int.reduceAdd, Int.reduceSub, Int.reduceEq, Int.reduceNeg, Int.reduceToNat, Int.reduceGT, Int.reduceGE, hbn], hl.mono (Nat.le_refl _) fun hne => by simp only [go_sem, Nat.reduceLT, Nat.reduceLeDiff, Nat.reduceEqDiff, Nat.reduceAdd, Nat.reduceSub, Nat.reduceMul, reduceCtorEq, Int.reduceBEq, Int.reduceLT, Int.reduceLE, Int.reduceAdd, Int.reduceSub, Int.reduceEq, Int.reduceNeg, Int.reduceToNat, Int.reduceGT, Int.reduceGE, (A.ne hne).symm]⟩, ⟨Nat.le_refl _, rfl, fun k h1 h2 h3 => put_get_ne _ _ _ _ h2⟩, .inl rfl, Lw.fin _ _ (by simp only [go_sem, Nat.reduceLT, Nat.reduceLeDiff, Nat.reduceEqDiff, Nat.reduceAdd, Nat.reduceSub, Nat.reduceMul, reduceCtorEq, Int.reduceBEq, Int.reduceLT, Int.reduceLE, Int.reduceAdd, Int.reduceSub, Int.reduceEq, Int.reduceNeg, Int.reduceToNat, Int.reduceGT, Int.reduceGE]; omega), fun q => by cases q⟩
    · have hput : wput (false, bs) (numB n k) = (true, bs) := by
        unfold numB
        rw [show sizeOk k = false from decide_eq_false hs]; rfl
      rw [decide_eq_false hs] at hw
      simp only [go_sem, Nat.reduceLT, Nat.reduceLeDiff, Nat.reduceEqDiff, Nat.reduceAdd, Nat.reduceSub, Nat.reduceMul, reduceCtorEq, Int.reduceBEq, Int.reduceLT, Int.reduceLE, Int.reduceAdd, Int.reduceSub, Int.reduceEq, Int.reduceNeg, Int.reduceToNat, Int.reduceGT, Int.reduceGE, hw, hb, h0, h1, hbn, hro, isW_und]
      rw [fin_l _ _ _ (by simp only [go_sem, Nat.reduceLT, Nat.reduceLeDiff, Nat.reduceEqDiff, Nat.reduceAdd, Nat.reduceSub, Nat.reduceMul, reduceCtorEq, Int.reduceBEq, Int.reduceLT, Int.reduceLE, Int.reduceAdd, Int.reduceSub, Int.reduceEq, Int.reduceNeg, Int.reduceToNat, Int.reduceGT, Int.reduceGE]; omega), hput]
      exact ⟨_, lid, rfl, ⟨A.lt, A.ne, _, _, put_blk_same _ _ _, hro, hbn, by simp only [go_sem, Nat.reduceLT, Nat.reduceLeDiff, Nat.reduceEqDiff, Nat.reduceAdd, Nat.reduceSub, Nat.reduceMul, reduceCtorEq, Int.reduceBEq, Int.reduceLT, Int.reduceLE, Int.reduceAdd, Int.reduceSub, Int.reduceEq, Int.reduceNeg, Int.reduceToNat, Int.reduceGT, Int.reduceGE, h0], by simp only [go_sem, Nat.reduceLT, Nat.reduceLeDiff, Nat.reduceEqDiff, Nat.reduceAdd, Nat.reduceSub, Nat.reduceMul, reduceCtorEq, Int.reduceBEq, Int.reduceLT, Int.reduceLE, Int.reduceAdd, Int.reduceSub, Int.reduceEq, Int.reduceNeg, Int.reduceToNat, Int.reduceGT, Int.reduceGE, hbn], hl.mono (Nat.le_refl _) fun hne => by simp only [go_sem, Nat.reduceLT, Nat.reduceLeDiff, Nat.reduceEqDiff, Nat.reduceAdd, Nat.reduceSub, Nat.reduceMul, reduceCtorEq, Int.reduceBEq, Int.reduceLT, Int.reduceLE, Int.reduceAdd, Int.reduceSub, Int.reduceEq, Int.reduceNeg, Int.reduceToNat, Int.reduceGT, Int.reduceGE, (A.ne hne).symm]⟩, ⟨Nat.le_refl _, rfl, fun k h1 h2 h3 => put_get_ne _ _ _ _ h2⟩, .inl rfl, Lw.fin _ _ (by simp only [go_sem, Nat.reduceLT, Nat.reduceLeDiff, Nat.reduceEqDiff, Nat.reduceAdd, Nat.reduceSub, Nat.reduceMul, reduceCtorEq, Int.reduceBEq, Int.reduceLT, Int.reduceLE, Int.reduceAdd, Int.reduceSub, Int.reduceEq, Int.reduceNeg, Int.reduceToNat, Int.reduceGT, Int.reduceGE]; omega), fun q => by cases q⟩
  · simp only [go_sem, Nat.reduceLT, Nat.reduceLeDiff, Nat.reduceEqDiff, Nat.reduceAdd, Nat.reduceSub, Nat.reduceMul, reduceCtorEq, Int.reduceBEq, Int.reduceLT, Int.reduceLE, Int.reduceAdd, Int.reduceSub, Int.reduceEq, Int.reduceNeg, Int.reduceToNat, Int.reduceGT, Int.reduceGE, hw, hb, h0, h1, hbn, hro]
    rw [fin_q _ _ _ rfl (by simp only [go_sem, Nat.reduceLT, Nat.reduceLeDiff, Nat.reduceEqDiff, Nat.reduceAdd, Nat.reduceSub, Nat.reduceMul, reduceCtorEq, Int.reduceBEq, Int.reduceLT, Int.reduceLE, Int.reduceAdd, Int.reduceSub, Int.reduceEq, Int.reduceNeg, Int.reduceToNat, Int.reduceGT, Int.reduceGE]; exact decide_eq_true A.lt)]
    exact ⟨_, lid, rfl, A, WFr.refl _ _ _, .inl rfl, Lw.none _ _, fun _ => rfl⟩

theorem be_len (n k : Nat) : (be n k).length = k := by simp [be]

/-- the end of a method that answers its writer, behind a call of another one -/
theorem wok_fin {h : H} {w lid lid' : Nat} {p : Bool × List Nat} {y : Option H} (A : WrAt (y.getD h.lo) w lid' p.1 p.2) (F : WFr h.lo (y.getD h.lo) w lid) (hl : lid' = lid ∨ h.nx ≤ lid') (hw : w < h.nx) (hy : Lw h.lo w y) (h2 : y = none → p.1 = true) :
    WOk h w lid p (some (fin h (y.getD h.lo) (.ptr w 0))) := by
  cases y with
  | none =>
    rw [fin_q h _ _ rfl (by simp only [go_sem, Nat.reduceLT, Nat.reduceLeDiff, Nat.reduceEqDiff, Nat.reduceAdd, Nat.reduceSub, Nat.reduceMul, reduceCtorEq, Int.reduceBEq, Int.reduceLT, Int.reduceLE, Int.reduceAdd, Int.reduceSub, Int.reduceEq, Int.reduceNeg, Int.reduceToNat, Int.reduceGT, Int.reduceGE]; exact decide_eq_true hw)]
    exact ⟨_, lid', rfl, A.unlo, WFr.refl _ _ _, hl, Lw.none _ _, fun _ => h2 rfl⟩
  | some h1 =>
    have q := hy h1 rfl
    rw [Option.getD_some]
    rw [fin_l h _ _ (Nat.lt_of_le_of_lt q.1 hw)]
    exact ⟨_, lid', rfl, A.up _, ⟨F.nx, F.gn, F.old⟩, hl, Lw.fin _ _ q.1, fun q => by cases q⟩

theorem wok_fin2 {h : H} {w lid lid' : Nat} {p : Bool × List Nat} {y z : Option H} (A : WrAt (z.getD (y.getD h.lo)) w lid' p.1 p.2) (F : WFr h.lo (z.getD (y.getD h.lo)) w lid) (hl : lid' = lid ∨ h.nx ≤ lid') (hw : w < h.nx) (hy : Lw h.lo w y) (hz : Lw (y.getD h.lo) w z) (h2 : z = none → p.1 = true) :
    WOk h w lid p (some (fin h (z.getD (y.getD h.lo)) (.ptr w 0))) := by
  cases z with
  | none => exact wok_fin A F hl hw hy fun _ => h2 rfl
  | some b =>
    refine wok_fin (y := some b) A F hl hw (fun h1 e => ?_) fun q => by cases q
    cases e
    have t := hz _ rfl
    cases y with
    | none => exact t
    | some a =>
      have q := hy _ rfl
      rw [Option.getD_some] at t
      exact ⟨by omega, by omega⟩

theorem flag_run (hσ : ∀ f a h, f ≠ 28 → σ f a h = none) {h : H} {w lid : Nat} {fl : Bool} {bs : List Nat} (A : WrAt h w lid fl bs) (b : Bool) (room : bs.length ≤ 1000000) :
    WOk h w lid (wput (fl, bs) (some [if b then 1 else 0])) ((lim Try.prog σ).call 57 [.ptr w 0, .bool b] h) := by
  have e1 : numB 1 1 = some [1] := rfl
  have e0 : numB 0 1 = some [0] := rfl
  rw [call_eq (hσ _ _ _ (by decide)) fn_57 rfl rfl, Try.ntmps57, Try.results57]
  cases b
  · obtain ⟨y, lid2, e, A2, F2, hl2, hy, hy2⟩ := number_run hσ (A.ext' (Ext.lo h)) 0 (by decide) 1 room
    rw [e0] at A2
    have e' : (lim Try.prog σ).call 52 [.ptr w 0, .int .u64 0, .int .i64 1] h.lo = some (.ptr w 0, y) := e
    simp only [go_sem, Nat.reduceLT, Nat.reduceLeDiff, Nat.reduceEqDiff, Nat.reduceAdd, Nat.reduceSub, Nat.reduceMul, reduceCtorEq, Int.reduceBEq, Int.reduceLT, Int.reduceLE, Int.reduceAdd, Int.reduceSub, Int.reduceEq, Int.reduceNeg, Int.reduceToNat, Int.reduceGT, Int.reduceGE, e']
    exact wok_fin A2 F2 hl2 A.lt hy hy2
  · obtain ⟨y, lid2, e, A2, F2, hl2, hy, hy2⟩ := number_run hσ (A.ext' (Ext.lo h)) 1 (by decide) 1 room
    rw [e1] at A2
    have e' : (lim Try.prog σ).call 52 [.ptr w 0, .int .u64 1, .int .i64 1] h.lo = some (.ptr w 0, y) := e
    simp only [go_sem, Nat.reduceLT, Nat.reduceLeDiff, Nat.reduceEqDiff, Nat.reduceAdd, Nat.reduceSub, Nat.reduceMul, reduceCtorEq, Int.reduceBEq, Int.reduceLT, Int.reduceLE, Int.reduceAdd, Int.reduceSub, Int.reduceEq, Int.reduceNeg, Int.reduceToNat, Int.reduceGT, Int.reduceGE, e']
    exact wok_fin A2 F2 hl2 A.lt hy hy2

theorem bytes_run (hσ : ∀ f a h, f ≠ 28 → σ f a h = none) {h : H} {w lid : Nat} {fl : Bool} {bs : List Nat} (A : WrAt h w lid fl bs) {v : CV} {xs : List Nat} (B : BSl h v (bc xs)) (room : bs.length + xs.length ≤ 1000000) :
    WOk h w lid (wput (fl, bs) (some xs)) ((lim Try.prog σ).call 58 [.ptr w 0, v] h) := by
  obtain ⟨b, s, hb, hro, hbn, h0, h1, hl⟩ := A.blk
  have hlt := A.lt
  rw [call_eq (hσ _ _ _ (by decide)) fn_58 rfl rfl, Try.ntmps58, Try.results58]
  cases fl
  · simp only [go_sem, Nat.reduceLT, Nat.reduceLeDiff, Nat.reduceEqDiff, Nat.reduceAdd, Nat.reduceSub, Nat.reduceMul, reduceCtorEq, Int.reduceBEq, Int.reduceLT, Int.reduceLE, Int.reduceAdd, Int.reduceSub, Int.reduceEq, Int.reduceNeg, Int.reduceToNat, Int.reduceGT, Int.reduceGE, hb, h0, h1, hbn, hro]
    refine appb_step (Q := WOk h w lid _) (hl.ext (Ext.lo _)) (B.ext (Ext.lo _)) (bc_one _) (by rw [bc_len]; omega) ?_
    intro s' lid' h' l' f hlow
    have hb2 := blk_eq (f.old w hlt fun q e => A.ne q e)
    simp only [go_sem, Nat.reduceLT, Nat.reduceLeDiff, Nat.reduceEqDiff, Nat.reduceAdd, Nat.reduceSub, Nat.reduceMul, reduceCtorEq, Int.reduceBEq, Int.reduceLT, Int.reduceLE, Int.reduceAdd, Int.reduceSub, Int.reduceEq, Int.reduceNeg, Int.reduceToNat, Int.reduceGT, Int.reduceGE] at hb2 hlow
    simp only [go_sem, Nat.reduceLT, Nat.reduceLeDiff, Nat.reduceEqDiff, Nat.reduceAdd, Nat.reduceSub, Nat.reduceMul, reduceCtorEq, Int.reduceBEq, Int.reduceLT, Int.reduceLE, Int.reduceAdd, Int.reduceSub, Int.reduceEq, Int.reduceNeg, Int.reduceToNat, Int.reduceGT, Int.reduceGE, hb, hb2, h0, h1, hbn, hro, l'.one]
    have hnx := f.nx
    have hid := f.id
    rw [bc_len] at hid
    simp only [go_sem, Nat.reduceLT, Nat.reduceLeDiff, Nat.reduceEqDiff, Nat.reduceAdd, Nat.reduceSub, Nat.reduceMul, reduceCtorEq, Int.reduceBEq, Int.reduceLT, Int.reduceLE, Int.reduceAdd, Int.reduceSub, Int.reduceEq, Int.reduceNeg, Int.reduceToNat, Int.reduceGT, Int.reduceGE] at hnx hid
    have hne : (bs ++ xs).length ≠ 0 → w ≠ lid' := fun q => by
      rcases hid with ⟨r1, r2⟩ | r
      · rw [r1]; exact A.ne (by rw [List.length_append] at q; omega)
      · omega
    rw [fin_l _ _ _ (by simp only [go_sem, Nat.reduceLT, Nat.reduceLeDiff, Nat.reduceEqDiff, Nat.reduceAdd, Nat.reduceSub, Nat.reduceMul, reduceCtorEq, Int.reduceBEq, Int.reduceLT, Int.reduceLE, Int.reduceAdd, Int.reduceSub, Int.reduceEq, Int.reduceNeg, Int.reduceToNat, Int.reduceGT, Int.reduceGE]; omega)]
    refine ⟨_, lid', rfl, WrAt.up ⟨by simp only [go_sem, Nat.reduceLT, Nat.reduceLeDiff, Nat.reduceEqDiff, Nat.reduceAdd, Nat.reduceSub, Nat.reduceMul, reduceCtorEq, Int.reduceBEq, Int.reduceLT, Int.reduceLE, Int.reduceAdd, Int.reduceSub, Int.reduceEq, Int.reduceNeg, Int.reduceToNat, Int.reduceGT, Int.reduceGE]; omega, hne, _, _, put_blk_same _ _ _, by simp only [go_sem, Nat.reduceLT, Nat.reduceLeDiff, Nat.reduceEqDiff, Nat.reduceAdd, Nat.reduceSub, Nat.reduceMul, reduceCtorEq, Int.reduceBEq, Int.reduceLT, Int.reduceLE, Int.reduceAdd, Int.reduceSub, Int.reduceEq, Int.reduceNeg, Int.reduceToNat, Int.reduceGT, Int.reduceGE, hro], by simp only [go_sem, Nat.reduceLT, Nat.reduceLeDiff, Nat.reduceEqDiff, Nat.reduceAdd, Nat.reduceSub, Nat.reduceMul, reduceCtorEq, Int.reduceBEq, Int.reduceLT, Int.reduceLE, Int.reduceAdd, Int.reduceSub, Int.reduceEq, Int.reduceNeg, Int.reduceToNat, Int.reduceGT, Int.reduceGE, hbn], by simp only [go_sem, Nat.reduceLT, Nat.reduceLeDiff, Nat.reduceEqDiff, Nat.reduceAdd, Nat.reduceSub, Nat.reduceMul, reduceCtorEq, Int.reduceBEq, Int.reduceLT, Int.reduceLE, Int.reduceAdd, Int.reduceSub, Int.reduceEq, Int.reduceNeg, Int.reduceToNat, Int.reduceGT, Int.reduceGE, hbn]; rfl, by simp only [go_sem, Nat.reduceLT, Nat.reduceLeDiff, Nat.reduceEqDiff, Nat.reduceAdd, Nat.reduceSub, Nat.reduceMul, reduceCtorEq, Int.reduceBEq, Int.reduceLT, Int.reduceLE, Int.reduceAdd, Int.reduceSub, Int.reduceEq, Int.reduceNeg, Int.reduceToNat, Int.reduceGT, Int.reduceGE, h1]; rfl, ?_⟩ _, WFr.up ⟨by simp only [go_sem, Nat.reduceLT, Nat.reduceLeDiff, Nat.reduceEqDiff, Nat.reduceAdd, Nat.reduceSub, Nat.reduceMul, reduceCtorEq, Int.reduceBEq, Int.reduceLT, Int.reduceLE, Int.reduceAdd, Int.reduceSub, Int.reduceEq, Int.reduceNeg, Int.reduceToNat, Int.reduceGT, Int.reduceGE]; omega, by simp only [go_sem, Nat.reduceLT, Nat.reduceLeDiff, Nat.reduceEqDiff, Nat.reduceAdd, Nat.reduceSub, Nat.reduceMul, reduceCtorEq, Int.reduceBEq, Int.reduceLT, Int.reduceLE, Int.reduceAdd, Int.reduceSub, Int.reduceEq, Int.reduceNeg, Int.reduceToNat, Int.reduceGT, Int.reduceGE]; exact f.gn, fun k k1 k2 k3 => ?_⟩ _, by omega, Lw.fin _ _ (by simp only [go_sem, Nat.reduceLT, Nat.reduceLeDiff, Nat.reduceEqDiff, Nat.reduceAdd, Nat.reduceSub, Nat.reduceMul, reduceCtorEq, Int.reduceBEq, Int.reduceLT, Int.reduceLE, Int.reduceAdd, Int.reduceSub, Int.reduceEq, Int.reduceNeg, Int.reduceToNat, Int.reduceGT, Int.reduceGE]; omega), fun q => by cases q⟩
    · show Lst _ 1 s' lid' (bs ++ xs).length (bc (bs ++ xs))
      rw [List.length_append, bc_app]
      rw [bc_len] at l'
      refine l'.mono (by rw [put_nx]; exact Nat.le_refl _) fun q => ?_
      have : lid' ≠ w := fun e => hne (by rw [List.length_append]; exact q) e.symm
      simp only [go_sem, Nat.reduceLT, Nat.reduceLeDiff, Nat.reduceEqDiff, Nat.reduceAdd, Nat.reduceSub, Nat.reduceMul, reduceCtorEq, Int.reduceBEq, Int.reduceLT, Int.reduceLE, Int.reduceAdd, Int.reduceSub, Int.reduceEq, Int.reduceNeg, Int.reduceToNat, Int.reduceGT, Int.reduceGE, this]
    · rw [put_get_ne _ _ _ _ k2]
      exact f.old k k1 fun _ => k3
  · simp only [go_sem, Nat.reduceLT, Nat.reduceLeDiff, Nat.reduceEqDiff, Nat.reduceAdd, Nat.reduceSub, Nat.reduceMul, reduceCtorEq, Int.reduceBEq, Int.reduceLT, Int.reduceLE, Int.reduceAdd, Int.reduceSub, Int.reduceEq, Int.reduceNeg, Int.reduceToNat, Int.reduceGT, Int.reduceGE, hb, h0, h1, hbn, hro]
    rw [fin_q _ _ _ rfl (by simp only [go_sem, Nat.reduceLT, Nat.reduceLeDiff, Nat.reduceEqDiff, Nat.reduceAdd, Nat.reduceSub, Nat.reduceMul, reduceCtorEq, Int.reduceBEq, Int.reduceLT, Int.reduceLE, Int.reduceAdd, Int.reduceSub, Int.reduceEq, Int.reduceNeg, Int.reduceToNat, Int.reduceGT, Int.reduceGE]; exact decide_eq_true A.lt)]
    exact ⟨_, lid, rfl, A, WFr.refl _ _ _, .inl rfl, Lw.none _ _, fun _ => rfl⟩

theorem nat_wrap {n : Nat} (h : n < 1000000000000) : IntKind.wrap .u64 (Int.ofNat n) = Int.ofNat n := by
  unfold IntKind.wrap
  simp only [IntKind.bits, IntKind.signed, Bool.false_and, show (2 ^ 64 : Int) = 18446744073709551616 from rfl]
  simp; omega

theorem WFr.ext {h0 h h' : H} {w lid : Nat} (F : WFr h h' w lid) (E : Ext h0 h) (hw : h0.nx ≤ w) (hl : h0.nx ≤ lid) : Ext h0 h' :=
  ⟨Nat.le_trans E.nx F.nx, F.gn.trans E.gn, fun k hk => (F.old k (Nat.lt_of_lt_of_le hk E.nx) (by omega) (by omega)).trans (E.old k hk)⟩

theorem blob_run (hσ : ∀ f a h, f ≠ 28 → σ f a h = none) {h0' h : H} {w lid : Nat} {fl : Bool} {bs : List Nat} (A : WrAt h w lid fl bs) {v : CV} {xs : List Nat} (B : BSl h0' v (bc xs)) (E : Ext h0' h) (hw' : h0'.nx ≤ w) (hl' : h0'.nx ≤ lid) (room : bs.length + xs.length ≤ 900000) (h2 : xs.length ≤ 65535) :
    WOk h w lid (wput (fl, bs) (some (be xs.length 2 ++ xs))) ((lim Try.prog σ).call 53 [.ptr w 0, v] h) := by
  obtain ⟨b, s, hb, hro, hbn, h0, h1, hl⟩ := A.blk
  have hlt := A.lt
  rw [call_eq (hσ _ _ _ (by decide)) fn_53 rfl rfl, Try.ntmps53, Try.results53]
  cases fl
  · have q1 : ¬ Int.ofNat (bc xs).length > 65535 := by rw [bc_len]; simp; omega
    have q2 : IntKind.wrap .u64 (Int.ofNat (bc xs).length) = Int.ofNat xs.length := by rw [bc_len]; exact nat_wrap (by omega)
    have e2 : numB xs.length 2 = some (be xs.length 2) := by
      unfold numB
      rw [show sizeOk 2 = true from rfl, if_pos rfl, if_pos]
      · rfl
      · exact Nat.div_eq_of_lt (show xs.length < 65536 by omega)
    obtain ⟨y, lid2, e, A2, F2, hl2, hy, hy2⟩ := number_run hσ (A.ext' (Ext.lo h)) xs.length (Nat.lt_of_le_of_lt h2 (by decide)) 2 (by omega)
    rw [e2] at A2
    have B2 : BSl (y.getD h.lo) v (bc xs) := B.ext (F2.ext E.lo' hw' hl')
    obtain ⟨z, lid3, e3, A3, F3, hl3, hz, hz2⟩ := bytes_run hσ A2 B2 (by simp [wput, be_len]; omega)
    have e' : (lim Try.prog σ).call 52 [.ptr w 0, .int .u64 (Int.ofNat xs.length), .int .i64 2] h.lo = some (.ptr w 0, y) := e
    simp only [go_sem, Nat.reduceLT, Nat.reduceLeDiff, Nat.reduceEqDiff, Nat.reduceAdd, Nat.reduceSub, Nat.reduceMul, reduceCtorEq, Int.reduceBEq, Int.reduceLT, Int.reduceLE, Int.reduceAdd, Int.reduceSub, Int.reduceEq, Int.reduceNeg, Int.reduceToNat, Int.reduceGT, Int.reduceGE, hb, h0, h1, hbn, hro, B.len, q1, q2, e', e3]
    have hap : wput (wput (false, bs) (some (be xs.length 2))) (some xs) = wput (false, bs) (some (be xs.length 2 ++ xs)) := by simp [wput]
    have hn := F2.nx
    rw [lo_nx] at hn
    have r := wok_fin2 A3 (F2.trans F3 hl2) (by rw [lo_nx] at hl2; omega) A.lt hy hz hz2
    rw [hap] at r
    exact r
  · simp only [go_sem, Nat.reduceLT, Nat.reduceLeDiff, Nat.reduceEqDiff, Nat.reduceAdd, Nat.reduceSub, Nat.reduceMul, reduceCtorEq, Int.reduceBEq, Int.reduceLT, Int.reduceLE, Int.reduceAdd, Int.reduceSub, Int.reduceEq, Int.reduceNeg, Int.reduceToNat, Int.reduceGT, Int.reduceGE, hb, h0, h1, hbn, hro]
    rw [fin_q _ _ _ rfl (by simp only [go_sem, Nat.reduceLT, Nat.reduceLeDiff, Nat.reduceEqDiff, Nat.reduceAdd, Nat.reduceSub, Nat.reduceMul, reduceCtorEq, Int.reduceBEq, Int.reduceLT, Int.reduceLE, Int.reduceAdd, Int.reduceSub, Int.reduceEq, Int.reduceNeg, Int.reduceToNat, Int.reduceGT, Int.reduceGE]; exact decide_eq_true A.lt)]
    exact ⟨_, lid, rfl, A, WFr.refl _ _ _, .inl rfl, Lw.none _ _, fun _ => rfl⟩

theorem count_run (hσ : ∀ f a h, f ≠ 28 → σ f a h = none) {h : H} {w lid : Nat} {fl : Bool} {bs : List Nat} (A : WrAt h w lid fl bs) (n : Int) (room : bs.length ≤ 1000000) :
    WOk h w lid (wput (fl, bs) (if 0 ≤ n ∧ n ≤ 255 then some [n.toNat] else none)) ((lim Try.prog σ).call 59 [.ptr w 0, .int .i64 n] h) := by
  obtain ⟨b, s, hb, hro, hbn, h0, h1, hl⟩ := A.blk
  have hlt := A.lt
  rw [call_eq (hσ _ _ _ (by decide)) fn_59 rfl rfl, Try.ntmps59, Try.results59]
  cases fl
  · by_cases hn : 0 ≤ n ∧ n ≤ 255
    · obtain ⟨k, rfl⟩ : ∃ k : Nat, n = Int.ofNat k := ⟨n.toNat, by simp; omega⟩
      have hk : k ≤ 255 := by have := hn.2; simp at this; omega
      have q2 : IntKind.wrap .u64 (Int.ofNat k) = Int.ofNat k := nat_wrap (by omega)
      have e2 : numB k 1 = some [k] := by
        unfold numB
        rw [show sizeOk 1 = true from rfl, if_pos rfl, if_pos]
        · simp [be, dig]; omega
        · exact Nat.div_eq_of_lt (show k < 256 by omega)
      obtain ⟨y, lid2, e, A2, F2, hl2, hy, hy2⟩ := number_run hσ (A.ext' (Ext.lo h)) k (Nat.lt_of_le_of_lt hk (by decide)) 1 (by omega)
      rw [e2] at A2 hy2
      have q3 : ¬ Int.ofNat k < 0 := by simp
      have q4 : ¬ Int.ofNat k > 255 := by simp; omega
      simp only [go_sem, Nat.reduceLT, Nat.reduceLeDiff, Nat.reduceEqDiff, Nat.reduceAdd, Nat.reduceSub, Nat.reduceMul, reduceCtorEq, Int.reduceBEq, Int.reduceLT, Int.reduceLE, Int.reduceAdd, Int.reduceSub, Int.reduceEq, Int.reduceNeg, Int.reduceToNat, Int.reduceGT, Int.reduceGE, hb, h0, h1, hbn, hro, q2, q3, q4, e]
      rw [if_pos hn]
      exact wok_fin A2 F2 hl2 A.lt hy hy2
    · have hput : wput (false, bs) (if 0 ≤ n ∧ n ≤ 255 then some [n.toNat] else none) = (true, bs) := by rw [if_neg hn]; rfl
      rw [hput]
      by_cases q : n < 0
      case' pos => simp only [go_sem, Nat.reduceLT, Nat.reduceLeDiff, Nat.reduceEqDiff, Nat.reduceAdd, Nat.reduceSub, Nat.reduceMul, reduceCtorEq, Int.reduceBEq, Int.reduceLT, Int.reduceLE, Int.reduceAdd, Int.reduceSub, Int.reduceEq, Int.reduceNeg, Int.reduceToNat, Int.reduceGT, Int.reduceGE, hb, h0, h1, hbn, hro, q, isW_und]
      case' neg => have q' : n > 255 := by omega
      case' neg => simp only [go_sem, Nat.reduceLT, Nat.reduceLeDiff, Nat.reduceEqDiff, Nat.reduceAdd, Nat.reduceSub, Nat.reduceMul, reduceCtorEq, Int.reduceBEq, Int.reduceLT, Int.reduceLE, Int.reduceAdd, Int.reduceSub, Int.reduceEq, Int.reduceNeg, Int.reduceToNat, Int.reduceGT, Int.reduceGE, hb, h0, h1, hbn, hro, q, q', isW_und]
      all_goals
        rw [fin_l _ _ _ (by simp only [go_sem, Nat.reduceLT, Nat.reduceLeDiff, Nat.reduceEqDiff, Nat.reduceAdd, Nat.reduceSub, Nat.reduceMul, reduceCtorEq, Int.reduceBEq, Int.reduceLT, Int.reduceLE, Int.reduceAdd, Int.reduceSub, Int.reduceEq, Int.reduceNeg, Int.reduceToNat, Int.reduceGT, Int.reduceGE]; omega)]
        exact ⟨_, lid, rfl, ⟨A.lt, A.ne, _, _, put_blk_same _ _ _, hro, hbn, by simp only [go_sem, Nat.reduceLT, Nat.reduceLeDiff, Nat.reduceEqDiff, Nat.reduceAdd, Nat.reduceSub, Nat.reduceMul, reduceCtorEq, Int.reduceBEq, Int.reduceLT, Int.reduceLE, Int.reduceAdd, Int.reduceSub, Int.reduceEq, Int.reduceNeg, Int.reduceToNat, Int.reduceGT, Int.reduceGE, h0], by simp only [go_sem, Nat.reduceLT, Nat.reduceLeDiff, Nat.reduceEqDiff, Nat.reduceAdd, Nat.reduceSub, Nat.reduceMul, reduceCtorEq, Int.reduceBEq, Int.reduceLT, Int.reduceLE, Int.reduceAdd, Int.reduceSub, Int.reduceEq, Int.reduceNeg, Int.reduceToNat, Int.reduceGT, Int.reduceGE, hbn], hl.mono (Nat.le_refl _) fun hne => by simp only [go_sem, Nat.reduceLT, Nat.reduceLeDiff, Nat.reduceEqDiff, Nat.reduceAdd, Nat.reduceSub, Nat.reduceMul, reduceCtorEq, Int.reduceBEq, Int.reduceLT, Int.reduceLE, Int.reduceAdd, Int.reduceSub, Int.reduceEq, Int.reduceNeg, Int.reduceToNat, Int.reduceGT, Int.reduceGE, (A.ne hne).symm]⟩, ⟨Nat.le_refl _, rfl, fun k h1 h2 h3 => put_get_ne _ _ _ _ h2⟩, .inl rfl, Lw.fin _ _ (by simp only [go_sem, Nat.reduceLT, Nat.reduceLeDiff, Nat.reduceEqDiff, Nat.reduceAdd, Nat.reduceSub, Nat.reduceMul, reduceCtorEq, Int.reduceBEq, Int.reduceLT, Int.reduceLE, Int.reduceAdd, Int.reduceSub, Int.reduceEq, Int.reduceNeg, Int.reduceToNat, Int.reduceGT, Int.reduceGE]; omega), fun q => by cases q⟩
  · simp only [go_sem, Nat.reduceLT, Nat.reduceLeDiff, Nat.reduceEqDiff, Nat.reduceAdd, Nat.reduceSub, Nat.reduceMul, reduceCtorEq, Int.reduceBEq, Int.reduceLT, Int.reduceLE, Int.reduceAdd, Int.reduceSub, Int.reduceEq, Int.reduceNeg, Int.reduceToNat, Int.reduceGT, Int.reduceGE, hb, h0, h1, hbn, hro]
    rw [fin_q _ _ _ rfl (by simp only [go_sem, Nat.reduceLT, Nat.reduceLeDiff, Nat.reduceEqDiff, Nat.reduceAdd, Nat.reduceSub, Nat.reduceMul, reduceCtorEq, Int.reduceBEq, Int.reduceLT, Int.reduceLE, Int.reduceAdd, Int.reduceSub, Int.reduceEq, Int.reduceNeg, Int.reduceToNat, Int.reduceGT, Int.reduceGE]; exact decide_eq_true A.lt)]
    exact ⟨_, lid, rfl, A, WFr.refl _ _ _, .inl rfl, Lw.none _ _, fun _ => rfl⟩

theorem sl_85 (h : H) (id : Nat) : sliceT Try.prog h 85 (.ptr id 0) none none none = some (.sl id 0 256 (.exact 256)) := by kernel_rfl
theorem block_run (hσ : ∀ f a h, f ≠ 28 → σ f a h = none) {h : H} {w lid : Nat} {fl : Bool} {bs : List Nat} (A : WrAt h w lid fl bs) {xs : List Nat} (hx : xs.length = 256) (room : bs.length ≤ 900000) :
    WOk h w lid (wput (fl, bs) (some xs)) ((lim Try.prog σ).call 60 [.ptr w 0, .agg (bc xs)] h) := by
  have hlt := A.lt
  rw [call_eq (hσ _ _ _ (by decide)) fn_60 rfl rfl, Try.ntmps60, Try.results60]
  have B : BSl ((h.lo).alloc (.cells (newBlk (bc xs)))) (.sl h.nx 0 256 (.exact 256)) (bc xs) := by
    right; right
    refine ⟨_, 0, .exact 256, _, by rw [bc_len, hx]; rfl, by simp only [go_sem, Nat.reduceLT, Nat.reduceLeDiff, Nat.reduceEqDiff, Nat.reduceAdd, Nat.reduceSub, Nat.reduceMul, reduceCtorEq, Int.reduceBEq, Int.reduceLT, Int.reduceLE, Int.reduceAdd, Int.reduceSub, Int.reduceEq, Int.reduceNeg, Int.reduceToNat, Int.reduceGT, Int.reduceGE], alloc_blk_same _ _ _ rfl, loadN_of _ _ _ rfl fun i v hv => by rw [Nat.zero_add, newBlk_get, hv]⟩
  have E : Ext h ((h.lo).alloc (.cells (newBlk (bc xs)))) := (Ext.lo h).alloc' _
  obtain ⟨z, lid3, e3, A3, F3, hl3, hz, hz2⟩ := bytes_run hσ (A.ext' E) B (by omega)
  simp only [go_sem, Nat.reduceLT, Nat.reduceLeDiff, Nat.reduceEqDiff, Nat.reduceAdd, Nat.reduceSub, Nat.reduceMul, reduceCtorEq, Int.reduceBEq, Int.reduceLT, Int.reduceLE, Int.reduceAdd, Int.reduceSub, Int.reduceEq, Int.reduceNeg, Int.reduceToNat, Int.reduceGT, Int.reduceGE, bc_len, hx, bc_one, sl_85, e3]
  cases z with
  | none =>
    have q := hz2 rfl
    have qf : fl = true := by
      cases fl
      · cases q
      · rfl
    subst qf
    rw [Option.getD_none, fin_q _ _ _ rfl (by simp only [go_sem, Nat.reduceLT, Nat.reduceLeDiff, Nat.reduceEqDiff, Nat.reduceAdd, Nat.reduceSub, Nat.reduceMul, reduceCtorEq, Int.reduceBEq, Int.reduceLT, Int.reduceLE, Int.reduceAdd, Int.reduceSub, Int.reduceEq, Int.reduceNeg, Int.reduceToNat, Int.reduceGT, Int.reduceGE]; exact decide_eq_true hlt)]
    exact ⟨_, lid, rfl, A, WFr.refl _ _ _, .inl rfl, Lw.none _ _, fun _ => rfl⟩
  | some z1 =>
    have q := hz z1 rfl
    rw [Option.getD_some, fin_l _ _ _ (Nat.lt_of_le_of_lt q.1 hlt)]
    exact ⟨_, lid3, rfl, A3.up _, WFr.up ⟨Nat.le_trans E.nx F3.nx, F3.gn.trans E.gn, fun k k1 k2 k3 => (F3.old k (Nat.lt_of_lt_of_le k1 E.nx) k2 k3).trans (E.old k k1)⟩ _, by have := E.nx; omega, Lw.fin _ _ q.1, fun q => by cases q⟩

theorem copy_of {h : H} {v : CV} {cs : List CV} (B : BSl h v cs) (ho : cs.all CV.one = true) (hr : cs.length ≤ 70368744177664) {β : Type} {Q : Option β → Prop} {K : Out → Option β}
    (k : ∀ s' h', Ext h h' → BSl h' s' cs → (cs ≠ [] → ∃ lid', s' = .sl lid' 0 cs.length (.opn 1) ∧ h.nx ≤ lid' ∧ Lst h' 1 s' lid' cs.length cs) → (cs = [] → s' = .nils ∧ h' = h) → h'.low ≤ h.low → Q (K (.upd s' h'))) : Q (@thn _ β (builtinT Try.prog h .append [67, 67] [.nils, v]) ⟨K⟩) := by
  rw [B.app]
  by_cases h0 : cs = []
  · subst h0
    rw [show ([] : List CV).length = 0 from rfl, appS_nils0 rfl (by decide)]
    exact k _ _ (Ext.refl _) (.inl ⟨rfl, rfl⟩) (fun q => absurd rfl q) (fun _ => ⟨rfl, rfl⟩) (Nat.le_refl _)
  · have hm : 0 < cs.length := List.length_pos_iff.2 h0
    obtain ⟨h', e, l', h1, h2, h3, h4, _⟩ := app_Lst (by_ := 1) (zl := 1) (Lst.nil h 1 0) hm (new := cs) (by simp) ho rfl (by decide) (by omega) (by omega)
    rw [e]
    have l2 : Lst h' 1 (.sl h.nx 0 cs.length (.opn 1)) h.nx cs.length cs := by simpa using l'
    refine k _ _ ⟨by rw [h1]; omega, h2, fun k hk => h3 k hk fun q => absurd rfl q⟩ ?_ (fun _ => ⟨_, by rw [Nat.zero_add], Nat.le_refl _, ?_⟩) (fun q => absurd q h0) h4
    · rw [Nat.zero_add]; exact lst_bsl l2
    · rw [Nat.zero_add]; exact l2

def EndOk (h : H) (fl : Bool) (bs : List Nat) (r : Option (CV × Option H)) : Prop :=
  ∃ v x, r = some (.tup [v, .int .i64 (if fl then 2 else 0)], x) ∧ Ext h (x.getD h) ∧ BSl (x.getD h) v (if fl then [] else bc bs) ∧ (fl = false → bs ≠ [] → ∃ id, v = .sl id 0 bs.length (.opn 1) ∧ h.nx ≤ id ∧ Lst (x.getD h) 1 v id bs.length (bc bs))
theorem end_run (hσ : ∀ f a h, f ≠ 28 → σ f a h = none) {h : H} {w lid : Nat} {fl : Bool} {bs : List Nat} (A : WrAt h w lid fl bs) (room : bs.length ≤ 900000) :
    EndOk h fl bs ((lim Try.prog σ).call 31 [.ptr w 0] h) := by
  obtain ⟨b, s, hb, hro, hbn, h0, h1, hl⟩ := A.blk
  rw [call_eq (hσ _ _ _ (by decide)) fn_31 rfl rfl, Try.ntmps31, Try.results31]
  cases fl
  · simp only [go_sem, Nat.reduceLT, Nat.reduceLeDiff, Nat.reduceEqDiff, Nat.reduceAdd, Nat.reduceSub, Nat.reduceMul, reduceCtorEq, Int.reduceBEq, Int.reduceLT, Int.reduceLE, Int.reduceAdd, Int.reduceSub, Int.reduceEq, Int.reduceNeg, Int.reduceToNat, Int.reduceGT, Int.reduceGE, hb, h0, h1, hbn, hro]
    refine copy_of (Q := EndOk h false bs) (cs := bc bs) (lst_bsl (hl.ext (Ext.lo h))) (bc_one _) (by rw [bc_len]; omega) ?_
    intro s' h' E B hne hnil _
    simp only [go_sem, Nat.reduceLT, Nat.reduceLeDiff, Nat.reduceEqDiff, Nat.reduceAdd, Nat.reduceSub, Nat.reduceMul, reduceCtorEq, Int.reduceBEq, Int.reduceLT, Int.reduceLE, Int.reduceAdd, Int.reduceSub, Int.reduceEq, Int.reduceNeg, Int.reduceToNat, Int.reduceGT, Int.reduceGE, hb, h0, h1, hbn, hro]
    by_cases q : bs = []
    · subst q
      obtain ⟨rfl, rfl⟩ := hnil rfl
      rw [fin_q _ _ _ rfl rfl]
      exact ⟨_, _, rfl, Ext.refl _, .inl ⟨rfl, rfl⟩, fun _ q => absurd rfl q⟩
    · obtain ⟨lid', hs, hl', L⟩ := hne (by intro e; apply q; simpa [bc] using e)
      subst hs
      rw [lo_nx] at hl'
      rw [fin_new _ _ _ (by simp only [go_sem, Nat.reduceLT, Nat.reduceLeDiff, Nat.reduceEqDiff, Nat.reduceAdd, Nat.reduceSub, Nat.reduceMul, reduceCtorEq, Int.reduceBEq, Int.reduceLT, Int.reduceLE, Int.reduceAdd, Int.reduceSub, Int.reduceEq, Int.reduceNeg, Int.reduceToNat, Int.reduceGT, Int.reduceGE, blt_eq']; exact decide_eq_false (by omega))]
      exact ⟨_, _, rfl, ⟨E.nx, E.gn, E.old⟩, B.ext (Ext.up _ _), fun _ _ => ⟨lid', by rw [bc_len], hl', by rw [bc_len] at L ⊢; exact L.ext (Ext.up _ _)⟩⟩
  · simp only [go_sem, Nat.reduceLT, Nat.reduceLeDiff, Nat.reduceEqDiff, Nat.reduceAdd, Nat.reduceSub, Nat.reduceMul, reduceCtorEq, Int.reduceBEq, Int.reduceLT, Int.reduceLE, Int.reduceAdd, Int.reduceSub, Int.reduceEq, Int.reduceNeg, Int.reduceToNat, Int.reduceGT, Int.reduceGE, hb, h0, h1, hbn, hro]
    rw [fin_q _ _ _ rfl rfl]
    exact ⟨_, _, rfl, Ext.refl _, .inl ⟨rfl, rfl⟩, fun q => by cases q⟩
end Go.Cl.A

namespace Go.Cl.A
variable {σ : Sums}

theorem rsize_run (hσ : ∀ f a h, f ≠ 28 → σ f a h = none) (h : H) (n : Int) : (lim Try.prog σ).call 66 [.int .i64 n] h = some (.bool (decide (n = 1 ∨ n = 2 ∨ n = 4 ∨ n = 8)), none) := by
  rw [call_eq (hσ _ _ _ (by decide)) fn_66 rfl rfl, Try.ntmps66, Try.results66]
  by_cases h1 : n = 1
  · subst h1; simp only [go_sem, Nat.reduceLT, Nat.reduceLeDiff, Nat.reduceEqDiff, Nat.reduceAdd, Nat.reduceSub, Nat.reduceMul, reduceCtorEq, Int.reduceBEq, Int.reduceLT, Int.reduceLE, Int.reduceAdd, Int.reduceSub, Int.reduceEq, Int.reduceNeg, Int.reduceToNat, Int.reduceGT, Int.reduceGE, true_or]; rw [fin_q _ _ _ rfl rfl]
  by_cases h2 : n = 2
  · subst h2; simp only [go_sem, Nat.reduceLT, Nat.reduceLeDiff, Nat.reduceEqDiff, Nat.reduceAdd, Nat.reduceSub, Nat.reduceMul, reduceCtorEq, Int.reduceBEq, Int.reduceLT, Int.reduceLE, Int.reduceAdd, Int.reduceSub, Int.reduceEq, Int.reduceNeg, Int.reduceToNat, Int.reduceGT, Int.reduceGE, true_or, or_true]; rw [fin_q _ _ _ rfl rfl]
  by_cases h4 : n = 4
  · subst h4; simp only [go_sem, Nat.reduceLT, Nat.reduceLeDiff, Nat.reduceEqDiff, Nat.reduceAdd, Nat.reduceSub, Nat.reduceMul, reduceCtorEq, Int.reduceBEq, Int.reduceLT, Int.reduceLE, Int.reduceAdd, Int.reduceSub, Int.reduceEq, Int.reduceNeg, Int.reduceToNat, Int.reduceGT, Int.reduceGE, true_or, or_true]; rw [fin_q _ _ _ rfl rfl]
  by_cases h8 : n = 8
  · subst h8; simp only [go_sem, Nat.reduceLT, Nat.reduceLeDiff, Nat.reduceEqDiff, Nat.reduceAdd, Nat.reduceSub, Nat.reduceMul, reduceCtorEq, Int.reduceBEq, Int.reduceLT, Int.reduceLE, Int.reduceAdd, Int.reduceSub, Int.reduceEq, Int.reduceNeg, Int.reduceToNat, Int.reduceGT, Int.reduceGE, true_or, or_true]; rw [fin_q _ _ _ rfl rfl]
  simp only [go_sem, Nat.reduceLT, Nat.reduceLeDiff, Nat.reduceEqDiff, Nat.reduceAdd, Nat.reduceSub, Nat.reduceMul, reduceCtorEq, Int.reduceBEq, Int.reduceLT, Int.reduceLE, Int.reduceAdd, Int.reduceSub, Int.reduceEq, Int.reduceNeg, Int.reduceToNat, Int.reduceGT, Int.reduceGE, h1, h2, h4, h8, or_self]
  rw [fin_q _ _ _ rfl rfl]

theorem mk8 (h : H) {K : Nat} (hK : K ≤ 1000000) : mkS h 1 1 (some (.int .u8 0)) K K = some (.sl h.nx 0 K (.exact K), h.alloc (.cells { n := K * 1, d := [.int .u8 0], t := .nil })) := by
  unfold mkS
  rw [bind_some']
  have hg : (Nat.ble K K && Nat.ble (K * 1) 70368744177664 && Nat.ble K 70368744177664 && Nat.beq (CV.cells (.int .u8 0)).length 1 && Nat.blt 0 1 && (CV.cells (.int .u8 0)).all CV.one) = true := by
    simp only [blt_eq', ble_eq', beq_eq', Bool.and_eq_true, decide_eq_true_eq]
    refine ⟨⟨⟨⟨⟨by omega, by omega⟩, by omega⟩, rfl⟩, by decide⟩, rfl⟩
  rw [hg, cond_true]
  rfl
theorem tmod_nat (n : Nat) : (Int.ofNat n).tmod 256 = Int.ofNat (n % 256) := rfl
theorem tdiv_nat (n : Nat) : (Int.ofNat n).tdiv 256 = Int.ofNat (n / 256) := rfl
theorem tmod2_nat (n : Nat) : (Int.ofNat n).tmod 2 = Int.ofNat (n % 2) := rfl

theorem storeA_ok (new : List CV) (b : Blk) (off : Nat) (h : off + new.length ≤ b.n) (ho : new.all CV.one = true) : ∃ b', b.storeA off new = some b' ∧ b'.n = b.n ∧ b'.ro = b.ro ∧ ∀ i, b'.get i = if off ≤ i ∧ i < off + new.length then nth new (i - off) else b.get i := by
  have : ∃ b', b.storeA off new = some b' := by
    obtain ⟨b1, e1, _⟩ := storeN_ok new b off h ho
    unfold Blk.storeA
    cases (Nat.blt 24 new.length && Nat.ble (off + new.length) b.n)
    · exact ⟨b1, e1⟩
    · rw [cond_true]
      cases b.loadF 0 b.n with
      | none => exact ⟨b1, e1⟩
      | some l => rw [ho]; exact ⟨_, rfl⟩
  obtain ⟨b', e⟩ := this
  obtain ⟨h1, h2, _, _, h5⟩ := storeA_spec e
  exact ⟨b', e, h1, h2, fun i => by rw [h5]; split <;> simp [nth_eq]⟩
theorem fin_bsl {h s : H} (E : Ext h s) {v : CV} {cs : List CV} (B : BSl s v cs) : ∃ x, fin h s v = (v, x) ∧ Ext h (x.getD h) ∧ BSl (x.getD h) v cs := by
  unfold fin
  cases q : (Nat.beq s.low h.nx && okB h.nx v)
  · exact ⟨_, rfl, E.up' _, B.ext (Ext.up _ _)⟩
  · refine ⟨_, rfl, Ext.refl h, ?_⟩
    rw [Bool.and_eq_true] at q
    rcases B with h1 | h1 | ⟨id, off, c, b, rfl, h2, h3, h4⟩
    · exact .inl h1
    · exact .inr (.inl h1)
    · have : id < h.nx := by have := q.2; simpa [okB, blt_eq'] using this
      exact .inr (.inr ⟨id, off, c, b, rfl, this, (E.blk this).symm.trans h3, h4⟩)
theorem fin_bslT {h s : H} (E : Ext h s) {v : CV} {cs : List CV} (B : BSl s v cs) (g : Bool) : ∃ x, fin h s (.tup [v, .bool g]) = (.tup [v, .bool g], x) ∧ Ext h (x.getD h) ∧ BSl (x.getD h) v cs := by
  unfold fin
  cases q : (Nat.beq s.low h.nx && okB h.nx (.tup [v, .bool g]))
  · exact ⟨_, rfl, E.up' _, B.ext (Ext.up _ _)⟩
  · refine ⟨_, rfl, Ext.refl h, ?_⟩
    rw [Bool.and_eq_true] at q
    rcases B with h1 | h1 | ⟨id, off, c, b, rfl, h2, h3, h4⟩
    · exact .inl h1
    · exact .inr (.inl h1)
    · have : id < h.nx := by have := q.2; simpa [okB, okBL, blt_eq'] using this
      exact .inr (.inr ⟨id, off, c, b, rfl, this, (E.blk this).symm.trans h3, h4⟩)
/-- what a function answers: bytes of one's own or read only, and what it leaves besides -/
def BOk (h : H) (xs : List Nat) (g : Bool) (r : Option (CV × Option H)) : Prop := ∃ v x, r = some (.tup [v, .bool g], x) ∧ Ext h (x.getD h) ∧ BSl (x.getD h) v (bc xs)
def POk (h : H) (xs : List Nat) (g : Bool) (z : Bool) (r : Option (CV × Option H)) : Prop := ∃ v x, r = some (.tup [v, .bool g], x) ∧ Ext h (x.getD h) ∧ BSl (x.getD h) v (bc xs) ∧ (z = true → ∃ id, v = .sl id 0 xs.length (.exact xs.length))

theorem put_run (hσ : ∀ f a h, f ≠ 28 → σ f a h = none) (h : H) (n : Nat) (hn : n < 2 ^ 64) (k : Int) :
    POk h (if sizeOk k then be n k.toNat else []) (sizeOk k && decide (n / 256 ^ k.toNat = 0)) (sizeOk k) ((lim Try.prog σ).call 54 [.int .u64 (Int.ofNat n), .int .i64 k] h) := by
  have hw := rsize_run hσ h.lo k
  rw [call_eq (hσ _ _ _ (by decide)) fn_54 rfl rfl, Try.ntmps54, Try.results54]
  by_cases hs : k = 1 ∨ k = 2 ∨ k = 4 ∨ k = 8
  · have hso : sizeOk k = true := decide_eq_true hs
    rw [decide_eq_true hs] at hw
    obtain ⟨K, rfl, hK, hK8⟩ : ∃ K : Nat, k = Int.ofNat K ∧ 1 ≤ K ∧ K ≤ 8 := by
      rcases hs with rfl | rfl | rfl | rfl
      · exact ⟨1, rfl, by decide, by decide⟩
      · exact ⟨2, rfl, by decide, by decide⟩
      · exact ⟨4, rfl, by decide, by decide⟩
      · exact ⟨8, rfl, by decide, by decide⟩
    have e2 : IntKind.wrap .i64 (Int.ofNat K - 1) = Int.ofNat K - 1 := by
      rw [wrap_i64 (by simp; omega) (by simp; omega)]
    rw [hso, if_pos rfl, Bool.true_and]
    have hd0 : ∀ (x j : Nat), j < K → ({ n := K * 1, d := [CV.int .u8 0], t := .nil } : Blk).get j = some (.int .u8 0) := fun x j hj => by
      simp only [Blk.get, T.get]
      rw [blt_eq', decide_eq_true (by omega)]
      simp [Nat.mod_one]
      rfl
    simp only [go_sem, Nat.reduceLT, Nat.reduceLeDiff, Nat.reduceEqDiff, Nat.reduceAdd, Nat.reduceSub, Nat.reduceMul, reduceCtorEq, Int.reduceBEq, Int.reduceLT, Int.reduceLE, Int.reduceAdd, Int.reduceSub, Int.reduceEq, Int.reduceNeg, Int.reduceToNat, Int.reduceGT, Int.reduceGE, hw, e2, mk8 _ (show K ≤ 1000000 by omega)]
    refine loop_ind (Q := POk h (be n K) (decide (n / 256 ^ K = 0)) true) (fun i env h' => evT env 0 = .int .u64 (Int.ofNat (n / 256 ^ i)) ∧ evT env 6 = .sl h.nx 0 K (.exact K) ∧ evT env 7 = .int .i64 (Int.ofNat K - 1 - Int.ofNat i) ∧ Ext h h' ∧ h.nx < h'.nx ∧ h'.low ≤ h.nx ∧
      ∃ b, h'.blk h.nx = some b ∧ b.ro = false ∧ b.n = K ∧ ∀ j, j < K → K ≤ j + i → b.get j = some (.int .u8 (Int.ofNat (dig n K j)))) K 0 ?_ (Nat.zero_le _) ?_ ?_
    · refine ⟨by simp only [go_sem, Nat.reduceLT, Nat.reduceLeDiff, Nat.reduceEqDiff, Nat.reduceAdd, Nat.reduceSub, Nat.reduceMul, reduceCtorEq, Int.reduceBEq, Int.reduceLT, Int.reduceLE, Int.reduceAdd, Int.reduceSub, Int.reduceEq, Int.reduceNeg, Int.reduceToNat, Int.reduceGT, Int.reduceGE]; simp, by simp only [go_sem, Nat.reduceLT, Nat.reduceLeDiff, Nat.reduceEqDiff, Nat.reduceAdd, Nat.reduceSub, Nat.reduceMul, reduceCtorEq, Int.reduceBEq, Int.reduceLT, Int.reduceLE, Int.reduceAdd, Int.reduceSub, Int.reduceEq, Int.reduceNeg, Int.reduceToNat, Int.reduceGT, Int.reduceGE], ?_, (Ext.lo h).alloc' _, by simp only [go_sem, Nat.reduceLT, Nat.reduceLeDiff, Nat.reduceEqDiff, Nat.reduceAdd, Nat.reduceSub, Nat.reduceMul, reduceCtorEq, Int.reduceBEq, Int.reduceLT, Int.reduceLE, Int.reduceAdd, Int.reduceSub, Int.reduceEq, Int.reduceNeg, Int.reduceToNat, Int.reduceGT, Int.reduceGE], by simp only [go_sem, Nat.reduceLT, Nat.reduceLeDiff, Nat.reduceEqDiff, Nat.reduceAdd, Nat.reduceSub, Nat.reduceMul, reduceCtorEq, Int.reduceBEq, Int.reduceLT, Int.reduceLE, Int.reduceAdd, Int.reduceSub, Int.reduceEq, Int.reduceNeg, Int.reduceToNat, Int.reduceGT, Int.reduceGE]; exact Nat.le_refl _, _, alloc_blk_same _ _ _ rfl, rfl, Nat.mul_one _, fun j h1 h2 => by omega⟩
      simp only [go_sem, Nat.reduceLT, Nat.reduceLeDiff, Nat.reduceEqDiff, Nat.reduceAdd, Nat.reduceSub, Nat.reduceMul, reduceCtorEq, Int.reduceBEq, Int.reduceLT, Int.reduceLE, Int.reduceAdd, Int.reduceSub, Int.reduceEq, Int.reduceNeg, Int.reduceToNat, Int.reduceGT, Int.reduceGE]; congr 1; simp
    · rintro i env h' ⟨q0, q6, q7, E, hnx, hlow, b, hb, hro, hbn, hget⟩ hi next
      obtain ⟨j, hj⟩ : ∃ j, K - 1 - i = j := ⟨_, rfl⟩
      have q7' : evT env 7 = .int .i64 (Int.ofNat j) := by rw [q7]; congr 1; simp; omega
      have c1 : Int.ofNat j ≥ 0 := Int.natCast_nonneg _
      have c3 : IntKind.wrap .i64 (Int.ofNat j - 1) = Int.ofNat K - 1 - Int.ofNat (i + 1) := by
        rw [wrap_i64 (by simp; omega) (by simp; omega)]; simp; omega
      have c4 : IntKind.wrap .u64 (Int.ofNat (n / 256 ^ i / 256)) = Int.ofNat (n / 256 ^ (i + 1)) := by
        rw [Nat.div_div_eq_div_mul, ← Nat.pow_succ]
        exact wrap_u64 (Nat.lt_of_le_of_lt (Nat.div_le_self _ _) hn)
      have c5 : j < K := by omega
      simp only [go_sem, Nat.reduceLT, Nat.reduceLeDiff, Nat.reduceEqDiff, Nat.reduceAdd, Nat.reduceSub, Nat.reduceMul, reduceCtorEq, Int.reduceBEq, Int.reduceLT, Int.reduceLE, Int.reduceAdd, Int.reduceSub, Int.reduceEq, Int.reduceNeg, Int.reduceToNat, Int.reduceGT, Int.reduceGE, q0, q6, q7', c1, c3, c4, c5, hb, hro, hbn, tmod_nat, tdiv_nat, wrap_u8, Nat.mul_one]
      refine next _ _ ⟨by simp only [go_sem, Nat.reduceLT, Nat.reduceLeDiff, Nat.reduceEqDiff, Nat.reduceAdd, Nat.reduceSub, Nat.reduceMul, reduceCtorEq, Int.reduceBEq, Int.reduceLT, Int.reduceLE, Int.reduceAdd, Int.reduceSub, Int.reduceEq, Int.reduceNeg, Int.reduceToNat, Int.reduceGT, Int.reduceGE], by simp only [go_sem, Nat.reduceLT, Nat.reduceLeDiff, Nat.reduceEqDiff, Nat.reduceAdd, Nat.reduceSub, Nat.reduceMul, reduceCtorEq, Int.reduceBEq, Int.reduceLT, Int.reduceLE, Int.reduceAdd, Int.reduceSub, Int.reduceEq, Int.reduceNeg, Int.reduceToNat, Int.reduceGT, Int.reduceGE, q6], by simp only [go_sem, Nat.reduceLT, Nat.reduceLeDiff, Nat.reduceEqDiff, Nat.reduceAdd, Nat.reduceSub, Nat.reduceMul, reduceCtorEq, Int.reduceBEq, Int.reduceLT, Int.reduceLE, Int.reduceAdd, Int.reduceSub, Int.reduceEq, Int.reduceNeg, Int.reduceToNat, Int.reduceGT, Int.reduceGE], E.put _ (Nat.le_refl _), by simp only [go_sem, Nat.reduceLT, Nat.reduceLeDiff, Nat.reduceEqDiff, Nat.reduceAdd, Nat.reduceSub, Nat.reduceMul, reduceCtorEq, Int.reduceBEq, Int.reduceLT, Int.reduceLE, Int.reduceAdd, Int.reduceSub, Int.reduceEq, Int.reduceNeg, Int.reduceToNat, Int.reduceGT, Int.reduceGE, hnx], by simp only [go_sem, Nat.reduceLT, Nat.reduceLeDiff, Nat.reduceEqDiff, Nat.reduceAdd, Nat.reduceSub, Nat.reduceMul, reduceCtorEq, Int.reduceBEq, Int.reduceLT, Int.reduceLE, Int.reduceAdd, Int.reduceSub, Int.reduceEq, Int.reduceNeg, Int.reduceToNat, Int.reduceGT, Int.reduceGE]; omega, _, put_blk_same _ _ _, by simp only [go_sem, Nat.reduceLT, Nat.reduceLeDiff, Nat.reduceEqDiff, Nat.reduceAdd, Nat.reduceSub, Nat.reduceMul, reduceCtorEq, Int.reduceBEq, Int.reduceLT, Int.reduceLE, Int.reduceAdd, Int.reduceSub, Int.reduceEq, Int.reduceNeg, Int.reduceToNat, Int.reduceGT, Int.reduceGE, hro], by simp only [go_sem, Nat.reduceLT, Nat.reduceLeDiff, Nat.reduceEqDiff, Nat.reduceAdd, Nat.reduceSub, Nat.reduceMul, reduceCtorEq, Int.reduceBEq, Int.reduceLT, Int.reduceLE, Int.reduceAdd, Int.reduceSub, Int.reduceEq, Int.reduceNeg, Int.reduceToNat, Int.reduceGT, Int.reduceGE, hbn], fun j' h1 h2 => ?_⟩
      by_cases hjj : j' = j
      · subst hjj
        rw [st_get_same _ _ _ (by omega)]
        congr 2
        unfold dig
        rw [Nat.mod_mod, Nat.pow_mul, show K - 1 - j' = i by omega]
      · rw [st_get_ne _ _ _ _ hjj]
        exact hget j' h1 (by omega)
    · rintro env h' ⟨q0, q6, q7, E, hnx, hlow, b, hb, hro, hbn, hget⟩
      have q7' : evT env 7 = .int .i64 (-1) := by rw [q7]; congr 1; simp; omega
      simp only [go_sem, Nat.reduceLT, Nat.reduceLeDiff, Nat.reduceEqDiff, Nat.reduceAdd, Nat.reduceSub, Nat.reduceMul, reduceCtorEq, Int.reduceBEq, Int.reduceLT, Int.reduceLE, Int.reduceAdd, Int.reduceSub, Int.reduceEq, Int.reduceNeg, Int.reduceToNat, Int.reduceGT, Int.reduceGE, q0, q6, q7']
      rw [show decide (Int.ofNat (n / 256 ^ K) = 0) = decide (n / 256 ^ K = 0) from by
        by_cases q : n / 256 ^ K = 0
        · rw [q]; rfl
        · rw [decide_eq_false q]; exact decide_eq_false fun e => q (Int.ofNat.inj e)]
      have B : BSl h' (.sl h.nx 0 K (.exact K)) (bc (be n K)) := .inr (.inr ⟨h.nx, 0, .exact K, b, by rw [bc_len, be_len], hnx, hb, loadN_of _ _ _ rfl fun i v hv => by
        have hi : i < K := by
          have : i < (bc (be n K)).length := by
            by_cases q : i < (bc (be n K)).length
            · exact q
            · rw [nth_none _ _ (by omega)] at hv; cases hv
          rwa [bc_len, be_len] at this
        rw [Nat.zero_add, hget i hi (by omega), ← hv, nth_eq]
        simp [bc, be, hi]⟩)
      obtain ⟨x, e, E2, B2⟩ := fin_bslT E B (decide (n / 256 ^ K = 0))
      rw [e]
      exact ⟨_, _, rfl, E2, B2, fun _ => ⟨h.nx, by rw [be_len]⟩⟩
  · have hso : sizeOk k = false := decide_eq_false hs
    rw [decide_eq_false hs] at hw
    rw [hso]
    simp only [go_sem, Nat.reduceLT, Nat.reduceLeDiff, Nat.reduceEqDiff, Nat.reduceAdd, Nat.reduceSub, Nat.reduceMul, reduceCtorEq, Int.reduceBEq, Int.reduceLT, Int.reduceLE, Int.reduceAdd, Int.reduceSub, Int.reduceEq, Int.reduceNeg, Int.reduceToNat, Int.reduceGT, Int.reduceGE, hw]
    rw [fin_q _ _ _ rfl rfl]
    exact ⟨_, _, rfl, Ext.refl _, .inl ⟨rfl, rfl⟩, fun q => by cases q⟩

def SOk (h : H) (xs : List Nat) (r : Option (CV × Option H)) : Prop := ∃ v x, r = some (v, x) ∧ Ext h (x.getD h) ∧ BSl (x.getD h) v (bc xs)

theorem rflag_run (hσ : ∀ f a h, f ≠ 28 → σ f a h = none) (h : H) (b : Bool) : SOk h [if b then 1 else 0] ((lim Try.prog σ).call 55 [.bool b] h) := by
  rw [call_eq (hσ _ _ _ (by decide)) fn_55 rfl rfl, Try.ntmps55, Try.results55]
  cases b
  · simp only [go_sem, Nat.reduceLT, Nat.reduceLeDiff, Nat.reduceEqDiff, Nat.reduceAdd, Nat.reduceSub, Nat.reduceMul, reduceCtorEq, Int.reduceBEq, Int.reduceLT, Int.reduceLE, Int.reduceAdd, Int.reduceSub, Int.reduceEq, Int.reduceNeg, Int.reduceToNat, Int.reduceGT, Int.reduceGE]
    rw [fin_new _ _ _ (by simp only [go_sem, Nat.reduceLT, Nat.reduceLeDiff, Nat.reduceEqDiff, Nat.reduceAdd, Nat.reduceSub, Nat.reduceMul, reduceCtorEq, Int.reduceBEq, Int.reduceLT, Int.reduceLE, Int.reduceAdd, Int.reduceSub, Int.reduceEq, Int.reduceNeg, Int.reduceToNat, Int.reduceGT, Int.reduceGE, blt_eq']; exact decide_eq_false (by omega))]
    exact ⟨_, _, rfl, ((Ext.lo h).alloc' _).up' _, .inr (.inr ⟨_, _, _, _, rfl, by simp only [go_sem, Nat.reduceLT, Nat.reduceLeDiff, Nat.reduceEqDiff, Nat.reduceAdd, Nat.reduceSub, Nat.reduceMul, reduceCtorEq, Int.reduceBEq, Int.reduceLT, Int.reduceLE, Int.reduceAdd, Int.reduceSub, Int.reduceEq, Int.reduceNeg, Int.reduceToNat, Int.reduceGT, Int.reduceGE], alloc_blk_same _ _ _ rfl, rfl⟩)⟩
  · simp only [go_sem, Nat.reduceLT, Nat.reduceLeDiff, Nat.reduceEqDiff, Nat.reduceAdd, Nat.reduceSub, Nat.reduceMul, reduceCtorEq, Int.reduceBEq, Int.reduceLT, Int.reduceLE, Int.reduceAdd, Int.reduceSub, Int.reduceEq, Int.reduceNeg, Int.reduceToNat, Int.reduceGT, Int.reduceGE]
    rw [fin_new _ _ _ (by simp only [go_sem, Nat.reduceLT, Nat.reduceLeDiff, Nat.reduceEqDiff, Nat.reduceAdd, Nat.reduceSub, Nat.reduceMul, reduceCtorEq, Int.reduceBEq, Int.reduceLT, Int.reduceLE, Int.reduceAdd, Int.reduceSub, Int.reduceEq, Int.reduceNeg, Int.reduceToNat, Int.reduceGT, Int.reduceGE, blt_eq']; exact decide_eq_false (by omega))]
    exact ⟨_, _, rfl, ((Ext.lo h).alloc' _).up' _, .inr (.inr ⟨_, _, _, _, rfl, by simp only [go_sem, Nat.reduceLT, Nat.reduceLeDiff, Nat.reduceEqDiff, Nat.reduceAdd, Nat.reduceSub, Nat.reduceMul, reduceCtorEq, Int.reduceBEq, Int.reduceLT, Int.reduceLE, Int.reduceAdd, Int.reduceSub, Int.reduceEq, Int.reduceNeg, Int.reduceToNat, Int.reduceGT, Int.reduceGE], alloc_blk_same _ _ _ rfl, rfl⟩)⟩

def NumOk (h : H) (xs : List Nat) (r : Option (CV × Option H)) : Prop := ∃ id x, r = some (.sl id 0 2 (.exact 2), x) ∧ Ext h (x.getD h) ∧ BSl (x.getD h) (.sl id 0 2 (.exact 2)) (bc xs)
theorem rnum_run (hσ : ∀ f a h, f ≠ 28 → σ f a h = none) (h : H) (n : Nat) (hn : n < 65536) : NumOk h (be n 2) ((lim Try.prog σ).call 67 [.int .u64 (Int.ofNat n), .int .i64 2] h) := by
  obtain ⟨v, x, e, E, B, hv⟩ := put_run hσ h.lo n (by omega) 2
  obtain ⟨id, hv⟩ := hv rfl
  have hv : v = .sl id 0 2 (.exact 2) := hv
  subst hv
  rw [call_eq (hσ _ _ _ (by decide)) fn_67 rfl rfl, Try.ntmps67, Try.results67]
  simp only [go_sem, Nat.reduceLT, Nat.reduceLeDiff, Nat.reduceEqDiff, Nat.reduceAdd, Nat.reduceSub, Nat.reduceMul, reduceCtorEq, Int.reduceBEq, Int.reduceLT, Int.reduceLE, Int.reduceAdd, Int.reduceSub, Int.reduceEq, Int.reduceNeg, Int.reduceToNat, Int.reduceGT, Int.reduceGE, e]
  obtain ⟨y, e2, E2, B2⟩ := fin_bsl ((Ext.lo h).trans E) B
  rw [e2]
  exact ⟨id, _, rfl, E2, B2⟩

theorem copy_of' {h : H} {v : CV} {id m : Nat} {b : Blk} {cs : List CV} (B : BSl h v cs) (ho : cs.all CV.one = true) (hb : h.blk id = some b) (hro : b.ro = false) (hbn : b.n = m) {β : Type} {Q : Option β → Prop} {K : Out → Option β}
    (k : ∀ b' : Blk, b'.n = b.n → b'.ro = b.ro → (∀ i, b'.get i = if i < (cs.take m).length then nth cs i else b.get i) → Q (K (.upd (.int .i64 (Int.ofNat (min cs.length m))) (h.put id (.cells b'))))) : Q (@thn _ β (builtinT Try.prog h .copy [67, 67] [.sl id 0 m (.exact m), v]) ⟨K⟩) := by
  have hl : lenC v = some cs.length := by
    rcases B with ⟨rfl, rfl⟩ | ⟨rfl, _, _, _, _, rfl⟩ | ⟨_, _, _, _, rfl, _⟩ <;> rfl
  have hf : firstC h 1 (Nat.min cs.length m) v = some (cs.take m) := by
    rcases B with ⟨rfl, rfl⟩ | ⟨rfl, _, _, _, _, rfl⟩ | ⟨id', off, c, b', rfl, h1, h2, h3⟩
    · simp [firstC]
    · simp [firstC]
    · rw [firstC_sl, h2, bind_some', Nat.mul_one]
      obtain ⟨hl3, hg3⟩ := loadN_spec h3
      exact loadN_of _ _ _ (by rw [List.length_take, Nat.min_comm]) fun i v hv => by
        rw [nth_eq, List.getElem?_take] at hv
        split at hv
        · rename_i q
          have : i < cs.length := (List.getElem?_eq_some_iff.1 hv).1
          rw [hg3 i this, hv]
        · cases hv
  obtain ⟨b', e, hn', hr', hg'⟩ := storeN_ok (cs.take m) b 0 (by rw [List.length_take]; omega) (List.all_eq_true.2 fun x hx => List.all_eq_true.1 ho x (List.mem_of_mem_take hx))
  have : builtinT Try.prog h .copy [67, 67] [.sl id 0 m (.exact m), v] = uv (some (.int .i64 (Int.ofNat (min cs.length m)), h.put id (.cells b'))) := by
    simp only [builtinT, copyT, Try.underlying67, bind_some', sz_5, hl, lenC_sl, hf, hb, hro, cond_false, e]
    rfl
  rw [this]
  exact k b' hn' hr' fun i => by
    rw [hg']
    by_cases q : i < (cs.take m).length
    · rw [if_pos q, if_pos ⟨Nat.zero_le _, by omega⟩, nth_eq, nth_eq, List.getElem?_take, if_pos (by rw [List.length_take] at q; omega)]; rfl
    · rw [if_neg q, if_neg (by omega)]

theorem appE_step {h : H} {v : CV} {id n : Nat} {old cs : List CV} (O : BSl h (.sl id 0 n (.exact n)) old) (B : BSl h v cs) (ho : cs.all CV.one = true) (hr : n + cs.length ≤ 70368744177664) {β : Type} {Q : Option β → Prop} {K : Out → Option β}
    (k : ∀ s' h', Ext h h' → BSl h' s' (old ++ cs) → Q (K (.upd s' h'))) : Q (@thn _ β (builtinT Try.prog h .append [67, 67] [.sl id 0 n (.exact n), v]) ⟨K⟩) := by
  obtain ⟨b, hn, hid, hb, hld⟩ : ∃ b, n = old.length ∧ id < h.nx ∧ h.blk id = some b ∧ b.loadN 0 n = some old := by
    rcases O with ⟨_, h⟩ | ⟨_, _, _, _, _, h⟩ | ⟨id', off, c, b, e, h1, h2, h3⟩
    · cases h
    · cases h
    · cases e; exact ⟨b, rfl, h1, h2, h3⟩
  rw [B.app]
  have hg : (Nat.blt 0 1 && Nat.ble ((n + cs.length) * 1) 70368744177664 && Nat.ble (n + cs.length) 70368744177664 && Nat.beq 1 1 && Nat.beq cs.length (cs.length * 1) && cs.all CV.one) = true := by
    simp only [blt_eq', ble_eq', beq_eq', Bool.and_eq_true, decide_eq_true_eq]
    refine ⟨⟨⟨⟨⟨by decide, by omega⟩, by omega⟩, trivial⟩, by omega⟩, ho⟩
  by_cases h0 : cs = []
  · subst h0
    have : appS h 1 1 1 (.sl id 0 n (.exact n)) ([] : List CV).length (some []) = some (.sl id 0 n (.exact n), h) := by
      unfold appS
      rw [lenC_sl, bind_some', bind_some', hg, cond_true]
      dsimp only [List.length_nil]
      rw [ble_eq', decide_eq_true (by omega)]
      rfl
    rw [this]
    exact k _ _ (Ext.refl _) (by rw [List.append_nil]; exact O)
  · have hm : 0 < cs.length := List.length_pos_iff.2 h0
    have : appS h 1 1 1 (.sl id 0 n (.exact n)) cs.length (some cs) = some (.sl h.nx 0 (n + cs.length) (.opn 1), h.alloc (.cells (fillB ((n + cs.length) * 1) (old ++ cs)))) := by
      unfold appS
      rw [lenC_sl, bind_some', bind_some', hg, cond_true]
      dsimp only
      rw [ble_eq', decide_eq_false (by omega), cond_false, hb, bind_some', Nat.mul_one, hld, bind_some']
      rfl
    rw [this]
    refine k _ _ (Ext.alloc _ _) (.inr (.inr ⟨h.nx, 0, .opn 1, _, by rw [List.length_append, hn], by rw [alloc_nx]; omega, alloc_blk_same _ _ _ rfl, loadN_of _ _ _ rfl fun i v hv => ?_⟩))
    rw [Nat.zero_add, fillB_get _ _ _ (by rw [List.length_append, hn]; omega), hv]

theorem rblob_run (hσ : ∀ f a h, f ≠ 28 → σ f a h = none) {h : H} {v : CV} {xs : List Nat} (B : BSl h v (bc xs)) (h2 : xs.length ≤ 65535) : SOk h (be xs.length 2 ++ xs) ((lim Try.prog σ).call 56 [v] h) := by
  obtain ⟨id, x, e, E, B1⟩ := rnum_run hσ h.lo xs.length (by omega)
  rw [call_eq (hσ _ _ _ (by decide)) fn_56 rfl rfl, Try.ntmps56, Try.results56]
  have q2 : IntKind.wrap .u64 (Int.ofNat (bc xs).length) = Int.ofNat xs.length := by rw [bc_len]; exact nat_wrap (by omega)
  have E1 := (Ext.lo h).trans E
  simp only [go_sem, Nat.reduceLT, Nat.reduceLeDiff, Nat.reduceEqDiff, Nat.reduceAdd, Nat.reduceSub, Nat.reduceMul, reduceCtorEq, Int.reduceBEq, Int.reduceLT, Int.reduceLE, Int.reduceAdd, Int.reduceSub, Int.reduceEq, Int.reduceNeg, Int.reduceToNat, Int.reduceGT, Int.reduceGE, B.len, q2, e]
  refine appE_step (Q := SOk h _) B1 (B.ext E1) (bc_one _) (by rw [bc_len]; omega) ?_
  intro s' h' E3 B3
  simp only [go_sem, Nat.reduceLT, Nat.reduceLeDiff, Nat.reduceEqDiff, Nat.reduceAdd, Nat.reduceSub, Nat.reduceMul, reduceCtorEq, Int.reduceBEq, Int.reduceLT, Int.reduceLE, Int.reduceAdd, Int.reduceSub, Int.reduceEq, Int.reduceNeg, Int.reduceToNat, Int.reduceGT, Int.reduceGE]
  rw [← bc_app] at B3
  obtain ⟨y, e2, E4, B4⟩ := fin_bsl (E1.trans E3) B3
  rw [e2]
  exact ⟨_, _, rfl, E4, B4⟩

theorem ze_85 : zeroT Try.prog 85 = some (.agg (List.replicate 256 (.int .u8 0))) := by kernel_rfl
theorem rep_one : (List.replicate 256 (CV.int .u8 0)).all CV.one = true := by kernel_rfl
theorem okBL_bc (n : Nat) : ∀ xs : List Nat, okBL n (bc xs) = true
  | [] => rfl
  | x :: xs => by rw [show bc (x :: xs) = .int .u8 (Int.ofNat x) :: bc xs from rfl, okBL_cons, okBL_bc n xs]; rfl
def z256 : List Nat := List.replicate 256 0
theorem z256_len : z256.length = 256 := List.length_replicate
theorem z256_at {i : Nat} (h : i < 256) : z256[i]? = some 0 := by unfold z256; rw [List.getElem?_replicate, if_pos h]
def blkL (xs : List Nat) : List Nat := (xs ++ z256).take 256
theorem blkL_len (xs : List Nat) : (blkL xs).length = 256 := by unfold blkL; rw [List.length_take, List.length_append, z256_len]; omega
def BlkOf (xs : List Nat) (r : Option (CV × Option H)) : Prop := r = some (.agg (bc (blkL xs)), none)
theorem nlt {α : Type} {l : List α} {i : Nat} {v : α} (h : nth l i = some v) : i < l.length := by
  by_cases q : i < l.length
  · exact q
  · rw [nth_none _ _ (by omega)] at h; cases h
theorem block_of (hσ : ∀ f a h, f ≠ 28 → σ f a h = none) {h : H} {v : CV} {xs : List Nat} (B : BSl h v (bc xs)) : BlkOf xs ((lim Try.prog σ).call 42 [v] h) := by
  rw [call_eq (hσ _ _ _ (by decide)) fn_42 rfl rfl, Try.ntmps42, Try.results42]
  simp only [go_sem, Nat.reduceLT, Nat.reduceLeDiff, Nat.reduceEqDiff, Nat.reduceAdd, Nat.reduceSub, Nat.reduceMul, reduceCtorEq, Int.reduceBEq, Int.reduceLT, Int.reduceLE, Int.reduceAdd, Int.reduceSub, Int.reduceEq, Int.reduceNeg, Int.reduceToNat, Int.reduceGT, Int.reduceGE, sl_85, ze_85, rep_one]
  obtain ⟨zb, hzb⟩ : ∃ zb, zb = newBlk (List.replicate 256 (CV.int .u8 0)) := ⟨_, rfl⟩
  have hzn : zb.n = 256 := by rw [hzb, wnewBlk_n, List.length_replicate]
  have hzr : zb.ro = false := by rw [hzb, newBlk_ro]
  have hzg : ∀ i, i < 256 → zb.get i = some (.int .u8 0) := fun i hi => by rw [hzb, newBlk_get, nth_eq, List.getElem?_replicate, if_pos hi]
  rw [← hzb]
  clear hzb
  refine copy_of' (Q := BlkOf xs) (b := zb) (B.ext (((Ext.lo h).alloc' _).alloc' _)) (bc_one _) (alloc_blk_same _ _ _ (by rw [alloc_nx, lo_nx])) hzr hzn ?_
  intro b' hn' hr' hg'
  have hld : b'.loadN 0 256 = some (bc (blkL xs)) := loadN_of _ _ _ (by rw [bc_len, blkL_len]) fun i v hv => by
    have hi := nlt hv
    rw [bc_len, blkL_len] at hi
    rw [Nat.zero_add, hg']
    have hv' : (blkL xs)[i]?.map (fun b => CV.int .u8 (Int.ofNat b)) = some v := by rw [← hv, nth_eq]; simp [bc]
    unfold blkL at hv'
    rw [List.getElem?_take, if_pos hi, List.getElem?_append] at hv'
    by_cases q : i < xs.length
    · rw [if_pos q] at hv'
      rw [if_pos (by rw [List.length_take, bc_len]; omega), nth_eq, ← hv']
      simp [bc]
    · rw [if_neg q, z256_at (by omega)] at hv'
      rw [if_neg (by rw [List.length_take, bc_len]; omega), hzg i hi, ← hv']
      rfl
  obtain ⟨b2, e2, hn2, hr2, hg2⟩ := storeA_ok (bc (blkL xs)) zb 0 (by rw [bc_len, blkL_len, hzn]; omega) (bc_one _)
  have hld2 : b2.loadN 0 256 = some (bc (blkL xs)) := loadN_of _ _ _ (by rw [bc_len, blkL_len]) fun i v hv => by
    have hi := nlt hv
    rw [Nat.zero_add, hg2, if_pos ⟨Nat.zero_le _, by omega⟩]
    exact hv
  have hne : h.nx ≠ h.nx + 1 := by omega
  have hlen : (bc (blkL xs)).length = 256 := by rw [bc_len, blkL_len]
  simp only [go_sem, Nat.reduceLT, Nat.reduceLeDiff, Nat.reduceEqDiff, Nat.reduceAdd, Nat.reduceSub, Nat.reduceMul, reduceCtorEq, Int.reduceBEq, Int.reduceLT, Int.reduceLE, Int.reduceAdd, Int.reduceSub, Int.reduceEq, Int.reduceNeg, Int.reduceToNat, Int.reduceGT, Int.reduceGE, hld, hne, hzr, e2, hld2, hlen]
  rw [fin_q _ _ _ (by simp only [go_sem, Nat.reduceLT, Nat.reduceLeDiff, Nat.reduceEqDiff, Nat.reduceAdd, Nat.reduceSub, Nat.reduceMul, reduceCtorEq, Int.reduceBEq, Int.reduceLT, Int.reduceLE, Int.reduceAdd, Int.reduceSub, Int.reduceEq, Int.reduceNeg, Int.reduceToNat, Int.reduceGT, Int.reduceGE]; omega) (by rw [okB_agg]; exact okBL_bc _ _)]
  rfl

/-! ### a part, as the document has it -/
def pB (kind size : Int) (n : Nat) (xs : List Nat) : List Nat :=
  if kind = 1 then (if sizeOk size then be n size.toNat else []) else if kind = 2 then [if n % 2 = 1 then 1 else 0] else if kind = 3 then xs else if kind = 4 then be xs.length 2 ++ xs
  else if kind = 5 then [(size % 256).toNat] else if kind = 6 then blkL xs else []
def pG (kind size : Int) (n : Nat) : Bool := if kind = 1 then sizeOk size && decide (n / 256 ^ size.toNat = 0) else if kind = 5 then decide (0 ≤ size ∧ size ≤ 255) else true
def partC (kind size : Int) (n : Nat) (v : CV) : CV := .agg [.int .i64 kind, .int .i64 size, .int .u64 (Int.ofNat n), v]

theorem wrap_u8i (a : Int) : IntKind.wrap .u8 a = Int.ofNat (a % 256).toNat := by
  unfold IntKind.wrap
  simp only [IntKind.bits, IntKind.signed, Bool.false_and, show (2 ^ 8 : Int) = 256 from rfl]
  simp; omega

set_option maxRecDepth 100000 in
theorem part_run (hσ : ∀ f a h, f ≠ 28 → σ f a h = none) {h : H} {v : CV} {xs : List Nat} (B : BSl h v (bc xs)) (kind size : Int) (n : Nat) (hn : n < 2 ^ 64) (h2 : xs.length ≤ 65535) :
    BOk h (pB kind size n xs) (pG kind size n) ((lim Try.prog σ).call 29 [partC kind size n v] h) := by
  rw [call_eq (hσ _ _ _ (by decide)) fn_29 rfl rfl, Try.ntmps29, Try.results29]
  obtain ⟨v1, v2⟩ := B.one
  obtain ⟨X, hX⟩ : ∃ X, X = h.lo.alloc (.cells (newBlk [.int .i64 kind, .int .i64 size, .int .u64 (Int.ofNat n), v])) := ⟨_, rfl⟩
  have E : Ext h X := by rw [hX]; exact (Ext.lo h).alloc' _
  have hXb : X.blk h.nx = some (newBlk [.int .i64 kind, .int .i64 size, .int .u64 (Int.ofNat n), v]) := by rw [hX]; exact alloc_blk_same _ _ _ rfl
  have hXn : X.nx = h.nx + 1 := by rw [hX]; rfl
  have hXr : h.nx ≠ X.nx := by omega
  have BX := B.ext E
  by_cases k1 : kind = 1
  · subst k1
    obtain ⟨u, x, e, E1, B1, _⟩ := put_run hσ X n hn size
    simp only [partC, go_sem, Nat.reduceLT, Nat.reduceLeDiff, Nat.reduceEqDiff, Nat.reduceAdd, Nat.reduceSub, Nat.reduceMul, reduceCtorEq, Int.reduceBEq, Int.reduceLT, Int.reduceLE, Int.reduceAdd, Int.reduceSub, Int.reduceEq, Int.reduceNeg, Int.reduceToNat, Int.reduceGT, Int.reduceGE, v1, ← hX, hXb, e]
    obtain ⟨y, e2, E2, B2⟩ := fin_bslT (E.trans E1) B1 (sizeOk size && decide (n / 256 ^ size.toNat = 0))
    rw [e2]
    exact ⟨_, _, rfl, E2, B2⟩
  by_cases k2 : kind = 2
  · subst k2
    obtain ⟨u, x, e, E1, B1⟩ := rflag_run hσ X (decide (n % 2 = 1))
    have q : (Int.ofNat n).tmod 2 = Int.ofNat (n % 2) := rfl
    have q2 : decide (Int.ofNat (n % 2) = 1) = decide (n % 2 = 1) := by
      by_cases c : n % 2 = 1
      · rw [c]; rfl
      · rw [decide_eq_false c]; exact decide_eq_false fun e => c (Int.ofNat.inj e)
    simp only [partC, go_sem, Nat.reduceLT, Nat.reduceLeDiff, Nat.reduceEqDiff, Nat.reduceAdd, Nat.reduceSub, Nat.reduceMul, reduceCtorEq, Int.reduceBEq, Int.reduceLT, Int.reduceLE, Int.reduceAdd, Int.reduceSub, Int.reduceEq, Int.reduceNeg, Int.reduceToNat, Int.reduceGT, Int.reduceGE, v1, ← hX, hXb, q, q2, e]
    have B1' : BSl (x.getD X) u (bc (pB 2 size n xs)) := by
      rw [show pB 2 size n xs = [if n % 2 = 1 then 1 else 0] from rfl]
      simpa using B1
    obtain ⟨y, e2, E2, B2⟩ := fin_bslT (E.trans E1) B1' true
    rw [e2]
    exact ⟨_, _, rfl, E2, B2⟩
  by_cases k3 : kind = 3
  · subst k3
    simp only [partC, go_sem, Nat.reduceLT, Nat.reduceLeDiff, Nat.reduceEqDiff, Nat.reduceAdd, Nat.reduceSub, Nat.reduceMul, reduceCtorEq, Int.reduceBEq, Int.reduceLT, Int.reduceLE, Int.reduceAdd, Int.reduceSub, Int.reduceEq, Int.reduceNeg, Int.reduceToNat, Int.reduceGT, Int.reduceGE, v1, ← hX, hXb]
    obtain ⟨y, e2, E2, B2⟩ := fin_bslT (E) BX true
    rw [e2]
    exact ⟨_, _, rfl, E2, B2⟩
  by_cases k4 : kind = 4
  · subst k4
    obtain ⟨u, x, e, E1, B1⟩ := rblob_run hσ BX h2
    simp only [partC, go_sem, Nat.reduceLT, Nat.reduceLeDiff, Nat.reduceEqDiff, Nat.reduceAdd, Nat.reduceSub, Nat.reduceMul, reduceCtorEq, Int.reduceBEq, Int.reduceLT, Int.reduceLE, Int.reduceAdd, Int.reduceSub, Int.reduceEq, Int.reduceNeg, Int.reduceToNat, Int.reduceGT, Int.reduceGE, v1, ← hX, hXb, e]
    obtain ⟨y, e2, E2, B2⟩ := fin_bslT (E.trans E1) B1 true
    rw [e2]
    exact ⟨_, _, rfl, E2, B2⟩
  by_cases k5 : kind = 5
  · subst k5
    simp only [partC, go_sem, Nat.reduceLT, Nat.reduceLeDiff, Nat.reduceEqDiff, Nat.reduceAdd, Nat.reduceSub, Nat.reduceMul, reduceCtorEq, Int.reduceBEq, Int.reduceLT, Int.reduceLE, Int.reduceAdd, Int.reduceSub, Int.reduceEq, Int.reduceNeg, Int.reduceToNat, Int.reduceGT, Int.reduceGE, v1, ← hX, hXb]
    rw [cnd_closed]
    rotate_left
    · kernel_rfl
    have E1 : Ext h (X.alloc (.cells (({ n := 1, d := [.int .u8 0], t := .nil } : Blk).st 0 (.int .u8 (.ofNat (size % 256).toNat))))) := E.alloc' _
    have B1 : BSl (X.alloc (.cells (({ n := 1, d := [.int .u8 0], t := .nil } : Blk).st 0 (.int .u8 (.ofNat (size % 256).toNat))))) (.sl X.nx 0 1 (.exact 1)) (bc [(size % 256).toNat]) :=
      .inr (.inr ⟨_, _, _, _, rfl, by simp only [go_sem, Nat.reduceLT, Nat.reduceLeDiff, Nat.reduceEqDiff, Nat.reduceAdd, Nat.reduceSub, Nat.reduceMul, reduceCtorEq, Int.reduceBEq, Int.reduceLT, Int.reduceLE, Int.reduceAdd, Int.reduceSub, Int.reduceEq, Int.reduceNeg, Int.reduceToNat, Int.reduceGT, Int.reduceGE], alloc_blk_same _ _ _ rfl, rfl⟩)
    by_cases c0 : size ≥ 0
    · simp only [partC, go_sem, Nat.reduceLT, Nat.reduceLeDiff, Nat.reduceEqDiff, Nat.reduceAdd, Nat.reduceSub, Nat.reduceMul, reduceCtorEq, Int.reduceBEq, Int.reduceLT, Int.reduceLE, Int.reduceAdd, Int.reduceSub, Int.reduceEq, Int.reduceNeg, Int.reduceToNat, Int.reduceGT, Int.reduceGE, v1, ← hX, hXb, hXr, c0, wrap_u8i]
      rw [cnd_closed]
      rotate_left
      · kernel_rfl
      simp only [partC, go_sem, Nat.reduceLT, Nat.reduceLeDiff, Nat.reduceEqDiff, Nat.reduceAdd, Nat.reduceSub, Nat.reduceMul, reduceCtorEq, Int.reduceBEq, Int.reduceLT, Int.reduceLE, Int.reduceAdd, Int.reduceSub, Int.reduceEq, Int.reduceNeg, Int.reduceToNat, Int.reduceGT, Int.reduceGE, v1, ← hX, hXb, hXr, c0, wrap_u8i]
      obtain ⟨y, e2, E2, B2⟩ := fin_bslT E1 B1 (decide (size ≤ 255))
      rw [e2, show pG 5 size n = decide (size ≤ 255) from by
        have : (0 ≤ size ∧ size ≤ 255) = (size ≤ 255) := by simp; omega
        simp [pG, this]]
      exact ⟨_, _, rfl, E2, B2⟩
    · simp only [partC, go_sem, Nat.reduceLT, Nat.reduceLeDiff, Nat.reduceEqDiff, Nat.reduceAdd, Nat.reduceSub, Nat.reduceMul, reduceCtorEq, Int.reduceBEq, Int.reduceLT, Int.reduceLE, Int.reduceAdd, Int.reduceSub, Int.reduceEq, Int.reduceNeg, Int.reduceToNat, Int.reduceGT, Int.reduceGE, v1, ← hX, hXb, hXr, c0, wrap_u8i]
      rw [cnd_closed]
      rotate_left
      · kernel_rfl
      simp only [partC, go_sem, Nat.reduceLT, Nat.reduceLeDiff, Nat.reduceEqDiff, Nat.reduceAdd, Nat.reduceSub, Nat.reduceMul, reduceCtorEq, Int.reduceBEq, Int.reduceLT, Int.reduceLE, Int.reduceAdd, Int.reduceSub, Int.reduceEq, Int.reduceNeg, Int.reduceToNat, Int.reduceGT, Int.reduceGE, v1, ← hX, hXb, hXr, c0, wrap_u8i]
      obtain ⟨y, e2, E2, B2⟩ := fin_bslT E1 B1 false
      rw [e2, show pG 5 size n = false from decide_eq_false fun q => c0 q.1]
      exact ⟨_, _, rfl, E2, B2⟩
  by_cases k6 : kind = 6
  · subst k6
    have e : (lim Try.prog σ).call 42 [v] X = some (.agg (bc (blkL xs)), none) := block_of hσ BX
    simp only [partC, go_sem, Nat.reduceLT, Nat.reduceLeDiff, Nat.reduceEqDiff, Nat.reduceAdd, Nat.reduceSub, Nat.reduceMul, reduceCtorEq, Int.reduceBEq, Int.reduceLT, Int.reduceLE, Int.reduceAdd, Int.reduceSub, Int.reduceEq, Int.reduceNeg, Int.reduceToNat, Int.reduceGT, Int.reduceGE, v1, ← hX, hXb, e, ze_85, rep_one]
    obtain ⟨zb, hzb⟩ : ∃ zb, zb = newBlk (List.replicate 256 (CV.int .u8 0)) := ⟨_, rfl⟩
    have hzn : zb.n = 256 := by rw [hzb, wnewBlk_n, List.length_replicate]
    have hzr : zb.ro = false := by rw [hzb, newBlk_ro]
    rw [← hzb]
    clear hzb
    obtain ⟨b2, e2, hn2, hr2, hg2⟩ := storeA_ok (bc (blkL xs)) zb 0 (by rw [bc_len, blkL_len, hzn]; omega) (bc_one _)
    have hlen : (bc (blkL xs)).length = 256 := by rw [bc_len, blkL_len]
    have hld2 : b2.loadN 0 256 = some (bc (blkL xs)) := loadN_of _ _ _ (by rw [bc_len, blkL_len]) fun i v hv => by
      have hi := nlt hv
      rw [Nat.zero_add, hg2, if_pos ⟨Nat.zero_le _, by omega⟩]
      exact hv
    simp only [partC, go_sem, Nat.reduceLT, Nat.reduceLeDiff, Nat.reduceEqDiff, Nat.reduceAdd, Nat.reduceSub, Nat.reduceMul, reduceCtorEq, Int.reduceBEq, Int.reduceLT, Int.reduceLE, Int.reduceAdd, Int.reduceSub, Int.reduceEq, Int.reduceNeg, Int.reduceToNat, Int.reduceGT, Int.reduceGE, v1, ← hX, hXb, e, hzr, hlen, e2, sl_85]
    have E1 : Ext h ((X.alloc (.cells zb)).put X.nx (.cells b2)) := (E.alloc' _).put _ E.nx
    have B1 : BSl ((X.alloc (.cells zb)).put X.nx (.cells b2)) (.sl X.nx 0 256 (.exact 256)) (bc (blkL xs)) :=
      .inr (.inr ⟨_, 0, .exact 256, _, by rw [hlen], by simp only [go_sem, Nat.reduceLT, Nat.reduceLeDiff, Nat.reduceEqDiff, Nat.reduceAdd, Nat.reduceSub, Nat.reduceMul, reduceCtorEq, Int.reduceBEq, Int.reduceLT, Int.reduceLE, Int.reduceAdd, Int.reduceSub, Int.reduceEq, Int.reduceNeg, Int.reduceToNat, Int.reduceGT, Int.reduceGE], put_blk_same _ _ _, by rw [hlen]; exact hld2⟩)
    obtain ⟨y, e2, E2, B2⟩ := fin_bslT E1 B1 true
    rw [e2]
    exact ⟨_, _, rfl, E2, B2⟩
  simp only [partC, go_sem, Nat.reduceLT, Nat.reduceLeDiff, Nat.reduceEqDiff, Nat.reduceAdd, Nat.reduceSub, Nat.reduceMul, reduceCtorEq, Int.reduceBEq, Int.reduceLT, Int.reduceLE, Int.reduceAdd, Int.reduceSub, Int.reduceEq, Int.reduceNeg, Int.reduceToNat, Int.reduceGT, Int.reduceGE, v1, ← hX, hXb, k1, k2, k3, k4, k5, k6]
  obtain ⟨y, e2, E2, B2⟩ := fin_bslT (cs := []) E (.inl ⟨rfl, rfl⟩) true
  rw [e2, show pB kind size n xs = [] by simp [pB, k1, k2, k3, k4, k5, k6], show pG kind size n = true by simp [pG, k1, k5]]
  exact ⟨_, _, rfl, E2, B2⟩
end Go.Cl.A

namespace Go.Cl.A
variable {σ : Sums}

/-- a part: its numbers, its slice's value, its bytes -/
structure Part where
  kind : Int
  size : Int
  n : Nat
  v : CV
  xs : List Nat
def pcells : List Part → List CV
  | [] => []
  | p :: l => .int .i64 p.kind :: .int .i64 p.size :: .int .u64 (Int.ofNat p.n) :: p.v :: pcells l
theorem pcells_at : ∀ (l : List Part) (i : Nat) (p : Part), l[i]? = some p → nth (pcells l) (i * 4) = some (.int .i64 p.kind) ∧ nth (pcells l) (i * 4 + 1) = some (.int .i64 p.size) ∧ nth (pcells l) (i * 4 + 2) = some (.int .u64 (Int.ofNat p.n)) ∧ nth (pcells l) (i * 4 + 3) = some p.v
  | [], i, g, h => by simp at h
  | a :: l, 0, g, h => by simp at h; subst h; exact ⟨rfl, rfl, rfl, rfl⟩
  | a :: l, i + 1, g, h => by
    have := pcells_at l i g (by simpa using h)
    rw [show (i + 1) * 4 = i * 4 + 1 + 1 + 1 + 1 by omega]
    exact this

structure Parts (h : H) (v : CV) (l : List Part) : Prop where
  sl : Sl Try.prog 65 h v 4 l.length (pcells l)
  ok : ∀ p ∈ l, BSl h p.v (bc p.xs) ∧ p.n < 2 ^ 64 ∧ (∀ b ∈ p.xs, b < 256) ∧ p.v.one = true
theorem Parts.at_ {h : H} {v : CV} {l : List Part} (P : Parts h v l) {i : Nat} {p : Part} (hp : l[i]? = some p) :
    ∃ id off b, (∀ kd, indexAddrT Try.prog 65 v (.int kd (Int.ofNat i)) = some (.ptr id off)) ∧ id < h.nx ∧ h.blk id = some b ∧ b.get off = some (.int .i64 p.kind) ∧ b.get (off + 1) = some (.int .i64 p.size) ∧ b.get (off + 2) = some (.int .u64 (Int.ofNat p.n)) ∧ b.get (off + 3) = some p.v := by
  have hi : i < l.length := (List.getElem?_eq_some_iff.1 hp).1
  obtain ⟨id, off, b, h1, h2, h3, _, h5⟩ := P.sl.elt i hi
  obtain ⟨q0, q1, q2, q3⟩ := pcells_at l i p hp
  exact ⟨id, off, b, h1, h2, h3, h5 0 _ (by decide) q0, h5 1 _ (by decide) q1, h5 2 _ (by decide) q2, h5 3 _ (by decide) q3⟩

def total : List Part → Nat
  | [] => 0
  | p :: l => min p.xs.length 20001 + total l
theorem total_app (l k : List Part) : total (l ++ k) = total l + total k := by
  induction l with
  | nil => simp [total]
  | cons a l ih => simp [total, ih]; omega

theorem total_take (l : List Part) (i : Nat) : total (l.take i) ≤ total l := by
  have := total_app (l.take i) (l.drop i)
  rw [List.take_append_drop] at this
  omega
theorem total_mem : ∀ {l : List Part} {p : Part}, p ∈ l → min p.xs.length 20001 ≤ total l
  | a :: l, p, h => by
    rcases List.mem_cons.1 h with rfl | h
    · simp [total]
    · have := total_mem h
      simp [total]; omega
def muchOf (l : List Part) : Bool := decide (40 < l.length) || decide (20000 < total (l.take 41))

theorem bi_min {P : Program} (h : H) (ts : List TypeId) (k k' : IntKind) (a b : Int) : builtinT P h .min ts [.int k a, .int k' b] = some (.val (.int k (if b < a then b else a))) := rfl
def MuchIs (l : List Part) (r : Option (CV × Option H)) : Prop := r = some (.bool (muchOf l), none)
set_option maxRecDepth 100000 in
theorem much_run (hσ : ∀ f a h, f ≠ 28 → σ f a h = none) {h : H} {v : CV} {l : List Part} (P : Parts h v l) :
    MuchIs l ((lim Try.prog σ).call 27 [v] h) := by
  rw [call_eq (hσ _ _ _ (by decide)) fn_27 rfl rfl, Try.ntmps27, Try.results27]
  simp only [go_sem, Nat.reduceLT, Nat.reduceLeDiff, Nat.reduceEqDiff, Nat.reduceAdd, Nat.reduceSub, Nat.reduceMul, reduceCtorEq, Int.reduceBEq, Int.reduceLT, Int.reduceLE, Int.reduceAdd, Int.reduceSub, Int.reduceEq, Int.reduceNeg, Int.reduceToNat, Int.reduceGT, Int.reduceGE]
  refine loop_ind (Q := MuchIs l) (fun i env h' => evT env 0 = v ∧ evT env 4 = .int .i64 (Int.ofNat i) ∧ evT env 3 = .int .i64 (Int.ofNat (total (l.take i))) ∧ h' = h.lo) (min l.length 41) 0 ?_ (Nat.zero_le _) ?_ ?_
  · refine ⟨by simp only [go_sem, Nat.reduceLT, Nat.reduceLeDiff, Nat.reduceEqDiff, Nat.reduceAdd, Nat.reduceSub, Nat.reduceMul, reduceCtorEq, Int.reduceBEq, Int.reduceLT, Int.reduceLE, Int.reduceAdd, Int.reduceSub, Int.reduceEq, Int.reduceNeg, Int.reduceToNat, Int.reduceGT, Int.reduceGE], by simp only [go_sem, Nat.reduceLT, Nat.reduceLeDiff, Nat.reduceEqDiff, Nat.reduceAdd, Nat.reduceSub, Nat.reduceMul, reduceCtorEq, Int.reduceBEq, Int.reduceLT, Int.reduceLE, Int.reduceAdd, Int.reduceSub, Int.reduceEq, Int.reduceNeg, Int.reduceToNat, Int.reduceGT, Int.reduceGE]; rfl, by simp only [go_sem, Nat.reduceLT, Nat.reduceLeDiff, Nat.reduceEqDiff, Nat.reduceAdd, Nat.reduceSub, Nat.reduceMul, reduceCtorEq, Int.reduceBEq, Int.reduceLT, Int.reduceLE, Int.reduceAdd, Int.reduceSub, Int.reduceEq, Int.reduceNeg, Int.reduceToNat, Int.reduceGT, Int.reduceGE]; rfl, by simp only [go_sem, Nat.reduceLT, Nat.reduceLeDiff, Nat.reduceEqDiff, Nat.reduceAdd, Nat.reduceSub, Nat.reduceMul, reduceCtorEq, Int.reduceBEq, Int.reduceLT, Int.reduceLE, Int.reduceAdd, Int.reduceSub, Int.reduceEq, Int.reduceNeg, Int.reduceToNat, Int.reduceGT, Int.reduceGE]⟩
  · rintro i env h' ⟨e0, e4, e3, rfl⟩ hi next
    have hi1 : i < l.length := by omega
    obtain ⟨p, hp⟩ : ∃ p, l[i]? = some p := ⟨_, List.getElem?_eq_getElem hi1⟩
    obtain ⟨id, off, b, hix, hid, hb, g0, g1, g2, g3⟩ := P.at_ hp
    have hpm : p ∈ l := List.mem_of_getElem? hp
    obtain ⟨B, _, _, hone⟩ := P.ok p hpm
    have hlt := ofNat_lt hi1
    have h40 : Int.ofNat i ≤ 40 := by simp; omega
    have hw : IntKind.wrap .i64 (Int.ofNat i + 1) = Int.ofNat (i + 1) := wrap_succ (by omega)
    have htk : l.take (i + 1) = l.take i ++ [p] := by rw [List.take_add_one, hp]; rfl
    have htot : total (l.take i) ≤ 41 * 20001 := by
      have : ∀ k : List Part, total k ≤ k.length * 20001 := fun k => by
        induction k with
        | nil => simp [total]
        | cons a k ih => simp [total]; omega
      have q := this (l.take i)
      have q2 : (l.take i).length ≤ 41 := by rw [List.length_take]; omega
      have := Nat.mul_le_mul_right 20001 q2
      omega
    have hmin : (if (20001 : Int) < Int.ofNat p.xs.length then 20001 else Int.ofNat p.xs.length) = Int.ofNat (min p.xs.length 20001) := by
      simp; split <;> omega
    have hw2 : IntKind.wrap .i64 (Int.ofNat (total (l.take i)) + Int.ofNat (min p.xs.length 20001)) = Int.ofNat (total (l.take (i + 1))) := by
      rw [htk, total_app, wrap_i64 (by simp; omega) (by simp; omega)]
      simp [total]
    simp only [go_sem, Nat.reduceLT, Nat.reduceLeDiff, Nat.reduceEqDiff, Nat.reduceAdd, Nat.reduceSub, Nat.reduceMul, reduceCtorEq, Int.reduceBEq, Int.reduceLT, Int.reduceLE, Int.reduceAdd, Int.reduceSub, Int.reduceEq, Int.reduceNeg, Int.reduceToNat, Int.reduceGT, Int.reduceGE, e0, e4, e3, P.sl.len, hlt, h40, hix, hb, g3, B.len, bc_len, bi_min, hmin, hw, hw2]
    exact next _ _ ⟨by simp only [go_sem, Nat.reduceLT, Nat.reduceLeDiff, Nat.reduceEqDiff, Nat.reduceAdd, Nat.reduceSub, Nat.reduceMul, reduceCtorEq, Int.reduceBEq, Int.reduceLT, Int.reduceLE, Int.reduceAdd, Int.reduceSub, Int.reduceEq, Int.reduceNeg, Int.reduceToNat, Int.reduceGT, Int.reduceGE, e0], by simp only [go_sem, Nat.reduceLT, Nat.reduceLeDiff, Nat.reduceEqDiff, Nat.reduceAdd, Nat.reduceSub, Nat.reduceMul, reduceCtorEq, Int.reduceBEq, Int.reduceLT, Int.reduceLE, Int.reduceAdd, Int.reduceSub, Int.reduceEq, Int.reduceNeg, Int.reduceToNat, Int.reduceGT, Int.reduceGE], by simp only [go_sem, Nat.reduceLT, Nat.reduceLeDiff, Nat.reduceEqDiff, Nat.reduceAdd, Nat.reduceSub, Nat.reduceMul, reduceCtorEq, Int.reduceBEq, Int.reduceLT, Int.reduceLE, Int.reduceAdd, Int.reduceSub, Int.reduceEq, Int.reduceNeg, Int.reduceToNat, Int.reduceGT, Int.reduceGE], by simp only [go_sem, Nat.reduceLT, Nat.reduceLeDiff, Nat.reduceEqDiff, Nat.reduceAdd, Nat.reduceSub, Nat.reduceMul, reduceCtorEq, Int.reduceBEq, Int.reduceLT, Int.reduceLE, Int.reduceAdd, Int.reduceSub, Int.reduceEq, Int.reduceNeg, Int.reduceToNat, Int.reduceGT, Int.reduceGE]⟩
  · rintro env h' ⟨e0, e4, e3, rfl⟩
    by_cases hc : l.length ≤ 41
    · have hmin : min l.length 41 = l.length := by omega
      rw [hmin] at e4 e3
      have hlt := ofNat_nlt (Nat.le_refl l.length)
      rw [List.take_of_length_le (Nat.le_refl _)] at e3
      by_cases h40 : Int.ofNat l.length > 40
      · simp only [go_sem, Nat.reduceLT, Nat.reduceLeDiff, Nat.reduceEqDiff, Nat.reduceAdd, Nat.reduceSub, Nat.reduceMul, reduceCtorEq, Int.reduceBEq, Int.reduceLT, Int.reduceLE, Int.reduceAdd, Int.reduceSub, Int.reduceEq, Int.reduceNeg, Int.reduceToNat, Int.reduceGT, Int.reduceGE, e0, e4, e3, P.sl.len, hlt, h40]
        rw [fin_q _ _ _ rfl rfl]
        exact congrArg (fun b => some (CV.bool b, none)) (show true = muchOf l by
          unfold muchOf; rw [decide_eq_true (show 40 < l.length by simp at h40; omega)]; rfl)
      · simp only [go_sem, Nat.reduceLT, Nat.reduceLeDiff, Nat.reduceEqDiff, Nat.reduceAdd, Nat.reduceSub, Nat.reduceMul, reduceCtorEq, Int.reduceBEq, Int.reduceLT, Int.reduceLE, Int.reduceAdd, Int.reduceSub, Int.reduceEq, Int.reduceNeg, Int.reduceToNat, Int.reduceGT, Int.reduceGE, e0, e4, e3, P.sl.len, hlt, h40]
        rw [fin_q _ _ _ rfl rfl]
        exact congrArg (fun b => some (CV.bool b, none)) (show _ = muchOf l by
          unfold muchOf
          rw [decide_eq_false (show ¬ 40 < l.length by simp at h40; omega), Bool.false_or, List.take_of_length_le hc]
          by_cases q : 20000 < total l
          · rw [decide_eq_true q]; exact decide_eq_true (by simp; omega)
          · rw [decide_eq_false q]; exact decide_eq_false (by simp; omega))
    · have hmin : min l.length 41 = 41 := by omega
      rw [hmin] at e4 e3
      have hlt : Int.ofNat 41 < Int.ofNat l.length := ofNat_lt (by omega)
      have h41 : ¬ Int.ofNat 41 ≤ 40 := by decide
      have h40 : Int.ofNat l.length > 40 := by simp; omega
      simp only [go_sem, Nat.reduceLT, Nat.reduceLeDiff, Nat.reduceEqDiff, Nat.reduceAdd, Nat.reduceSub, Nat.reduceMul, reduceCtorEq, Int.reduceBEq, Int.reduceLT, Int.reduceLE, Int.reduceAdd, Int.reduceSub, Int.reduceEq, Int.reduceNeg, Int.reduceToNat, Int.reduceGT, Int.reduceGE, e0, e4, e3, P.sl.len, hlt, h41, h40]
      rw [fin_q _ _ _ rfl rfl]
      exact congrArg (fun b => some (CV.bool b, none)) (show true = muchOf l by
        unfold muchOf; rw [decide_eq_true (show 40 < l.length by omega)]; rfl)

/-- what the writer makes of a part -/
def pW (p : Part) : Option (List Nat) :=
  if p.kind = 1 then numB p.n p.size else if p.kind = 2 then some [if p.n % 2 = 1 then 1 else 0] else if p.kind = 3 then some p.xs else if p.kind = 4 then some (be p.xs.length 2 ++ p.xs)
  else if p.kind = 5 then (if 0 ≤ p.size ∧ p.size ≤ 255 then some [p.size.toNat] else none) else if p.kind = 6 then some (blkL p.xs) else some []
def wAll (l : List Part) : Bool × List Nat := l.foldl (fun s p => wput s (pW p)) (false, [])
theorem wAll_app (l : List Part) (p : Part) : wAll (l ++ [p]) = wput (wAll l) (pW p) := by simp [wAll]

theorem pW_len (p : Part) (xs : List Nat) (e : pW p = some xs) : xs.length ≤ p.xs.length + 256 := by
  unfold pW numB sizeOk at e
  repeat' split at e
  all_goals (first | cases e | skip)
  all_goals (first | (simp [be_len, blkL_len]; done) | (simp [be_len, blkL_len]; omega) | skip)
  rename_i h1 h2 h3
  have : p.size = 1 ∨ p.size = 2 ∨ p.size = 4 ∨ p.size = 8 := of_decide_eq_true h2
  rw [be_len]; omega
theorem wput_len (s : Bool × List Nat) (p : Part) : (wput s (pW p)).2.length ≤ s.2.length + p.xs.length + 256 := by
  unfold wput
  split
  · omega
  · cases e : pW p with
    | none => simp; omega
    | some xs => have := pW_len p xs e; simp; omega

theorem wok_step {β : Type} {Q : Option β → Prop} {X : H} {w lid : Nat} {s : Bool × List Nat} {r : Option (CV × Option H)} {K : CV → Option H → Option β} (W : WOk X w lid s r)
    (k : ∀ x lid', WrAt (x.getD X) w lid' s.1 s.2 → WFr X (x.getD X) w lid → (lid' = lid ∨ X.nx ≤ lid') → Q (K (.ptr w 0) x)) : Q (@thn _ β r ⟨KP K⟩) := by
  obtain ⟨x, lid', rfl, A, F, hl, _⟩ := W
  exact k x lid' A F hl

structure PutI (h : H) (v : CV) (env : T CV) (h' : H) (s : Bool × List Nat) : Prop where
  e0 : evT env 0 = v
  e3 : evT env 3 = .ptr h.nx 0
  w : ∃ lid, h.nx ≤ lid ∧ WrAt h' h.nx lid s.1 s.2
  ext : Ext h h'

def PutOk (h : H) (s : Bool × List Nat) (r : Option (CV × Option H)) : Prop := ∃ h' lid, r = some (.ptr h.nx 0, some h') ∧ h.nx ≤ lid ∧ WrAt h' h.nx lid s.1 s.2 ∧ Ext h h'

set_option maxRecDepth 100000 in
theorem puts_run (hσ : ∀ f a h, f ≠ 28 → σ f a h = none) {h : H} {v : CV} {l : List Part} (P : Parts h v l) (h40 : l.length ≤ 40) (htot : total l ≤ 20000) :
    PutOk h (wAll l) ((lim Try.prog σ).call 30 [v] h) := by
  rw [call_eq (hσ _ _ _ (by decide)) fn_30 rfl rfl, Try.ntmps30, Try.results30]
  simp only [go_sem, Nat.reduceLT, Nat.reduceLeDiff, Nat.reduceEqDiff, Nat.reduceAdd, Nat.reduceSub, Nat.reduceMul, reduceCtorEq, Int.reduceBEq, Int.reduceLT, Int.reduceLE, Int.reduceAdd, Int.reduceSub, Int.reduceEq, Int.reduceNeg, Int.reduceToNat, Int.reduceGT, Int.reduceGE]
  refine loop_ind (Q := PutOk h (wAll l)) (fun i env h' => evT env 4 = .int .i64 (Int.ofNat i) ∧ PutI h v env h' (wAll (l.take i)) ∧ (wAll (l.take i)).2.length ≤ total (l.take i) + 256 * i) l.length 0 ?_ (Nat.zero_le _) ?_ ?_
  · refine ⟨by simp only [go_sem, Nat.reduceLT, Nat.reduceLeDiff, Nat.reduceEqDiff, Nat.reduceAdd, Nat.reduceSub, Nat.reduceMul, reduceCtorEq, Int.reduceBEq, Int.reduceLT, Int.reduceLE, Int.reduceAdd, Int.reduceSub, Int.reduceEq, Int.reduceNeg, Int.reduceToNat, Int.reduceGT, Int.reduceGE]; rfl, ⟨by simp only [go_sem, Nat.reduceLT, Nat.reduceLeDiff, Nat.reduceEqDiff, Nat.reduceAdd, Nat.reduceSub, Nat.reduceMul, reduceCtorEq, Int.reduceBEq, Int.reduceLT, Int.reduceLE, Int.reduceAdd, Int.reduceSub, Int.reduceEq, Int.reduceNeg, Int.reduceToNat, Int.reduceGT, Int.reduceGE], by simp only [go_sem, Nat.reduceLT, Nat.reduceLeDiff, Nat.reduceEqDiff, Nat.reduceAdd, Nat.reduceSub, Nat.reduceMul, reduceCtorEq, Int.reduceBEq, Int.reduceLT, Int.reduceLE, Int.reduceAdd, Int.reduceSub, Int.reduceEq, Int.reduceNeg, Int.reduceToNat, Int.reduceGT, Int.reduceGE], ⟨h.nx, Nat.le_refl _, by simp only [go_sem, Nat.reduceLT, Nat.reduceLeDiff, Nat.reduceEqDiff, Nat.reduceAdd, Nat.reduceSub, Nat.reduceMul, reduceCtorEq, Int.reduceBEq, Int.reduceLT, Int.reduceLE, Int.reduceAdd, Int.reduceSub, Int.reduceEq, Int.reduceNeg, Int.reduceToNat, Int.reduceGT, Int.reduceGE], fun q => absurd rfl q, _, _, alloc_blk_same _ _ _ rfl, rfl, rfl, rfl, rfl, Lst.nil _ _ _⟩, (Ext.lo h).alloc' _⟩, Nat.le_refl _⟩
  · rintro i env h' ⟨e4, I, hlen⟩ hi next
    have e0 := I.e0
    have e3 := I.e3
    obtain ⟨lid, hlid, A⟩ := I.w
    obtain ⟨p, hp⟩ : ∃ p, l[i]? = some p := ⟨_, List.getElem?_eq_getElem hi⟩
    obtain ⟨id, off, b, hix, hid, hb, g0, g1, g2, g3⟩ := P.at_ hp
    have hpm : p ∈ l := List.mem_of_getElem? hp
    obtain ⟨B, hn, hby, hone⟩ := P.ok p hpm
    have hlt := ofNat_lt hi
    have hw : IntKind.wrap .i64 (Int.ofNat i + 1) = Int.ofNat (i + 1) := wrap_succ (by omega)
    have hb' : h'.blk id = some b := (I.ext.blk hid).trans hb
    have w2 : p.xs.length ≤ 20000 := by
      have := total_mem hpm
      omega
    have w3 := total_take l i
    have eX : ∀ o o2, Ext h' ((h'.alloc o).put h'.nx o2) := fun o o2 => ((Ext.refl _).alloc' _).put _ (Nat.le_refl _)
    have key : ∀ (X : H) (x : Option H) (lid' : Nat), Ext h' X → WrAt (x.getD X) h.nx lid' (wput (wAll (l.take i)) (pW p)).1 (wput (wAll (l.take i)) (pW p)).2 → WFr X (x.getD X) h.nx lid → (lid' = lid ∨ X.nx ≤ lid') →
        ∀ env', evT env' 0 = v → evT env' 3 = .ptr h.nx 0 → PutI h v env' (x.getD X) (wAll (l.take (i + 1))) ∧ (wAll (l.take (i + 1))).2.length ≤ total (l.take (i + 1)) + 256 * (i + 1) := by
      intro X x lid' E A' F hl' env' q0 q3
      have htk : l.take (i + 1) = l.take i ++ [p] := by rw [List.take_add_one, hp]; rfl
      rw [htk, wAll_app]
      have := E.nx
      have := I.ext.nx
      refine ⟨⟨q0, q3, ⟨lid', by omega, A'⟩, F.ext (I.ext.trans E) (Nat.le_refl _) hlid⟩, ?_⟩
      have w1 := wput_len (wAll (l.take i)) p
      rw [total_app]
      simp [total]
      omega
    by_cases k1 : p.kind = 1
    · have hpW : pW p = numB p.n p.size := by unfold pW; simp [k1]
      simp only [go_sem, Nat.reduceLT, Nat.reduceLeDiff, Nat.reduceEqDiff, Nat.reduceAdd, Nat.reduceSub, Nat.reduceMul, reduceCtorEq, Int.reduceBEq, Int.reduceLT, Int.reduceLE, Int.reduceAdd, Int.reduceSub, Int.reduceEq, Int.reduceNeg, Int.reduceToNat, Int.reduceGT, Int.reduceGE, e0, e4, e3, P.sl.len, hlt, hix, hb', g0, g1, g2, g3, hone, k1]
      refine wok_step (Q := PutOk h (wAll l)) (number_run hσ (A.ext' (eX _ _)) _ hn _ (by omega)) ?_
      intro x lid' A' F' hl'
      simp only [go_sem, Nat.reduceLT, Nat.reduceLeDiff, Nat.reduceEqDiff, Nat.reduceAdd, Nat.reduceSub, Nat.reduceMul, reduceCtorEq, Int.reduceBEq, Int.reduceLT, Int.reduceLE, Int.reduceAdd, Int.reduceSub, Int.reduceEq, Int.reduceNeg, Int.reduceToNat, Int.reduceGT, Int.reduceGE, e0, e4, e3, hw]
      exact next _ _ ⟨by simp only [go_sem, Nat.reduceLT, Nat.reduceLeDiff, Nat.reduceEqDiff, Nat.reduceAdd, Nat.reduceSub, Nat.reduceMul, reduceCtorEq, Int.reduceBEq, Int.reduceLT, Int.reduceLE, Int.reduceAdd, Int.reduceSub, Int.reduceEq, Int.reduceNeg, Int.reduceToNat, Int.reduceGT, Int.reduceGE], key _ x lid' (eX _ _) (by rw [hpW]; exact A') F' hl' _ (by simp only [go_sem, Nat.reduceLT, Nat.reduceLeDiff, Nat.reduceEqDiff, Nat.reduceAdd, Nat.reduceSub, Nat.reduceMul, reduceCtorEq, Int.reduceBEq, Int.reduceLT, Int.reduceLE, Int.reduceAdd, Int.reduceSub, Int.reduceEq, Int.reduceNeg, Int.reduceToNat, Int.reduceGT, Int.reduceGE, e0]) (by simp only [go_sem, Nat.reduceLT, Nat.reduceLeDiff, Nat.reduceEqDiff, Nat.reduceAdd, Nat.reduceSub, Nat.reduceMul, reduceCtorEq, Int.reduceBEq, Int.reduceLT, Int.reduceLE, Int.reduceAdd, Int.reduceSub, Int.reduceEq, Int.reduceNeg, Int.reduceToNat, Int.reduceGT, Int.reduceGE])⟩
    by_cases k2 : p.kind = 2
    · have hpW : pW p = some [if p.n % 2 = 1 then 1 else 0] := by unfold pW; simp [k2]
      have q : (Int.ofNat p.n).tmod 2 = Int.ofNat (p.n % 2) := rfl
      have q2 : decide (Int.ofNat (p.n % 2) = 1) = decide (p.n % 2 = 1) := by
        by_cases c : p.n % 2 = 1
        · rw [c]; rfl
        · rw [decide_eq_false c]; exact decide_eq_false fun e => c (Int.ofNat.inj e)
      simp only [go_sem, Nat.reduceLT, Nat.reduceLeDiff, Nat.reduceEqDiff, Nat.reduceAdd, Nat.reduceSub, Nat.reduceMul, reduceCtorEq, Int.reduceBEq, Int.reduceLT, Int.reduceLE, Int.reduceAdd, Int.reduceSub, Int.reduceEq, Int.reduceNeg, Int.reduceToNat, Int.reduceGT, Int.reduceGE, e0, e4, e3, P.sl.len, hlt, hix, hb', g0, g1, g2, g3, hone, k2, q, q2]
      refine wok_step (Q := PutOk h (wAll l)) (flag_run hσ (A.ext' (eX _ _)) (decide (p.n % 2 = 1)) (by omega)) ?_
      intro x lid' A' F' hl'
      simp only [go_sem, Nat.reduceLT, Nat.reduceLeDiff, Nat.reduceEqDiff, Nat.reduceAdd, Nat.reduceSub, Nat.reduceMul, reduceCtorEq, Int.reduceBEq, Int.reduceLT, Int.reduceLE, Int.reduceAdd, Int.reduceSub, Int.reduceEq, Int.reduceNeg, Int.reduceToNat, Int.reduceGT, Int.reduceGE, e0, e4, e3, hw]
      exact next _ _ ⟨by simp only [go_sem, Nat.reduceLT, Nat.reduceLeDiff, Nat.reduceEqDiff, Nat.reduceAdd, Nat.reduceSub, Nat.reduceMul, reduceCtorEq, Int.reduceBEq, Int.reduceLT, Int.reduceLE, Int.reduceAdd, Int.reduceSub, Int.reduceEq, Int.reduceNeg, Int.reduceToNat, Int.reduceGT, Int.reduceGE], key _ x lid' (eX _ _) (by rw [hpW]; simpa using A') F' hl' _ (by simp only [go_sem, Nat.reduceLT, Nat.reduceLeDiff, Nat.reduceEqDiff, Nat.reduceAdd, Nat.reduceSub, Nat.reduceMul, reduceCtorEq, Int.reduceBEq, Int.reduceLT, Int.reduceLE, Int.reduceAdd, Int.reduceSub, Int.reduceEq, Int.reduceNeg, Int.reduceToNat, Int.reduceGT, Int.reduceGE, e0]) (by simp only [go_sem, Nat.reduceLT, Nat.reduceLeDiff, Nat.reduceEqDiff, Nat.reduceAdd, Nat.reduceSub, Nat.reduceMul, reduceCtorEq, Int.reduceBEq, Int.reduceLT, Int.reduceLE, Int.reduceAdd, Int.reduceSub, Int.reduceEq, Int.reduceNeg, Int.reduceToNat, Int.reduceGT, Int.reduceGE])⟩
    by_cases k3 : p.kind = 3
    · have hpW : pW p = some p.xs := by unfold pW; simp [k3]
      simp only [go_sem, Nat.reduceLT, Nat.reduceLeDiff, Nat.reduceEqDiff, Nat.reduceAdd, Nat.reduceSub, Nat.reduceMul, reduceCtorEq, Int.reduceBEq, Int.reduceLT, Int.reduceLE, Int.reduceAdd, Int.reduceSub, Int.reduceEq, Int.reduceNeg, Int.reduceToNat, Int.reduceGT, Int.reduceGE, e0, e4, e3, P.sl.len, hlt, hix, hb', g0, g1, g2, g3, hone, k3]
      refine wok_step (Q := PutOk h (wAll l)) (bytes_run hσ (A.ext' (eX _ _)) (B.ext (I.ext.trans (eX _ _))) (by omega)) ?_
      intro x lid' A' F' hl'
      simp only [go_sem, Nat.reduceLT, Nat.reduceLeDiff, Nat.reduceEqDiff, Nat.reduceAdd, Nat.reduceSub, Nat.reduceMul, reduceCtorEq, Int.reduceBEq, Int.reduceLT, Int.reduceLE, Int.reduceAdd, Int.reduceSub, Int.reduceEq, Int.reduceNeg, Int.reduceToNat, Int.reduceGT, Int.reduceGE, e0, e4, e3, hw]
      exact next _ _ ⟨by simp only [go_sem, Nat.reduceLT, Nat.reduceLeDiff, Nat.reduceEqDiff, Nat.reduceAdd, Nat.reduceSub, Nat.reduceMul, reduceCtorEq, Int.reduceBEq, Int.reduceLT, Int.reduceLE, Int.reduceAdd, Int.reduceSub, Int.reduceEq, Int.reduceNeg, Int.reduceToNat, Int.reduceGT, Int.reduceGE], key _ x lid' (eX _ _) (by rw [hpW]; exact A') F' hl' _ (by simp only [go_sem, Nat.reduceLT, Nat.reduceLeDiff, Nat.reduceEqDiff, Nat.reduceAdd, Nat.reduceSub, Nat.reduceMul, reduceCtorEq, Int.reduceBEq, Int.reduceLT, Int.reduceLE, Int.reduceAdd, Int.reduceSub, Int.reduceEq, Int.reduceNeg, Int.reduceToNat, Int.reduceGT, Int.reduceGE, e0]) (by simp only [go_sem, Nat.reduceLT, Nat.reduceLeDiff, Nat.reduceEqDiff, Nat.reduceAdd, Nat.reduceSub, Nat.reduceMul, reduceCtorEq, Int.reduceBEq, Int.reduceLT, Int.reduceLE, Int.reduceAdd, Int.reduceSub, Int.reduceEq, Int.reduceNeg, Int.reduceToNat, Int.reduceGT, Int.reduceGE])⟩
    by_cases k4 : p.kind = 4
    · have hpW : pW p = some (be p.xs.length 2 ++ p.xs) := by unfold pW; simp [k4]
      simp only [go_sem, Nat.reduceLT, Nat.reduceLeDiff, Nat.reduceEqDiff, Nat.reduceAdd, Nat.reduceSub, Nat.reduceMul, reduceCtorEq, Int.reduceBEq, Int.reduceLT, Int.reduceLE, Int.reduceAdd, Int.reduceSub, Int.reduceEq, Int.reduceNeg, Int.reduceToNat, Int.reduceGT, Int.reduceGE, e0, e4, e3, P.sl.len, hlt, hix, hb', g0, g1, g2, g3, hone, k4]
      refine wok_step (Q := PutOk h (wAll l)) (blob_run hσ (A.ext' (eX _ _)) B (I.ext.trans (eX _ _)) (Nat.le_refl _) hlid (by omega) (by omega)) ?_
      intro x lid' A' F' hl'
      simp only [go_sem, Nat.reduceLT, Nat.reduceLeDiff, Nat.reduceEqDiff, Nat.reduceAdd, Nat.reduceSub, Nat.reduceMul, reduceCtorEq, Int.reduceBEq, Int.reduceLT, Int.reduceLE, Int.reduceAdd, Int.reduceSub, Int.reduceEq, Int.reduceNeg, Int.reduceToNat, Int.reduceGT, Int.reduceGE, e0, e4, e3, hw]
      exact next _ _ ⟨by simp only [go_sem, Nat.reduceLT, Nat.reduceLeDiff, Nat.reduceEqDiff, Nat.reduceAdd, Nat.reduceSub, Nat.reduceMul, reduceCtorEq, Int.reduceBEq, Int.reduceLT, Int.reduceLE, Int.reduceAdd, Int.reduceSub, Int.reduceEq, Int.reduceNeg, Int.reduceToNat, Int.reduceGT, Int.reduceGE], key _ x lid' (eX _ _) (by rw [hpW]; exact A') F' hl' _ (by simp only [go_sem, Nat.reduceLT, Nat.reduceLeDiff, Nat.reduceEqDiff, Nat.reduceAdd, Nat.reduceSub, Nat.reduceMul, reduceCtorEq, Int.reduceBEq, Int.reduceLT, Int.reduceLE, Int.reduceAdd, Int.reduceSub, Int.reduceEq, Int.reduceNeg, Int.reduceToNat, Int.reduceGT, Int.reduceGE, e0]) (by simp only [go_sem, Nat.reduceLT, Nat.reduceLeDiff, Nat.reduceEqDiff, Nat.reduceAdd, Nat.reduceSub, Nat.reduceMul, reduceCtorEq, Int.reduceBEq, Int.reduceLT, Int.reduceLE, Int.reduceAdd, Int.reduceSub, Int.reduceEq, Int.reduceNeg, Int.reduceToNat, Int.reduceGT, Int.reduceGE])⟩
    by_cases k5 : p.kind = 5
    · have hpW : pW p = (if 0 ≤ p.size ∧ p.size ≤ 255 then some [p.size.toNat] else none) := by unfold pW; simp [k5]
      simp only [go_sem, Nat.reduceLT, Nat.reduceLeDiff, Nat.reduceEqDiff, Nat.reduceAdd, Nat.reduceSub, Nat.reduceMul, reduceCtorEq, Int.reduceBEq, Int.reduceLT, Int.reduceLE, Int.reduceAdd, Int.reduceSub, Int.reduceEq, Int.reduceNeg, Int.reduceToNat, Int.reduceGT, Int.reduceGE, e0, e4, e3, P.sl.len, hlt, hix, hb', g0, g1, g2, g3, hone, k5]
      refine wok_step (Q := PutOk h (wAll l)) (count_run hσ (A.ext' (eX _ _)) _ (by omega)) ?_
      intro x lid' A' F' hl'
      simp only [go_sem, Nat.reduceLT, Nat.reduceLeDiff, Nat.reduceEqDiff, Nat.reduceAdd, Nat.reduceSub, Nat.reduceMul, reduceCtorEq, Int.reduceBEq, Int.reduceLT, Int.reduceLE, Int.reduceAdd, Int.reduceSub, Int.reduceEq, Int.reduceNeg, Int.reduceToNat, Int.reduceGT, Int.reduceGE, e0, e4, e3, hw]
      exact next _ _ ⟨by simp only [go_sem, Nat.reduceLT, Nat.reduceLeDiff, Nat.reduceEqDiff, Nat.reduceAdd, Nat.reduceSub, Nat.reduceMul, reduceCtorEq, Int.reduceBEq, Int.reduceLT, Int.reduceLE, Int.reduceAdd, Int.reduceSub, Int.reduceEq, Int.reduceNeg, Int.reduceToNat, Int.reduceGT, Int.reduceGE], key _ x lid' (eX _ _) (by rw [hpW]; exact A') F' hl' _ (by simp only [go_sem, Nat.reduceLT, Nat.reduceLeDiff, Nat.reduceEqDiff, Nat.reduceAdd, Nat.reduceSub, Nat.reduceMul, reduceCtorEq, Int.reduceBEq, Int.reduceLT, Int.reduceLE, Int.reduceAdd, Int.reduceSub, Int.reduceEq, Int.reduceNeg, Int.reduceToNat, Int.reduceGT, Int.reduceGE, e0]) (by simp only [go_sem, Nat.reduceLT, Nat.reduceLeDiff, Nat.reduceEqDiff, Nat.reduceAdd, Nat.reduceSub, Nat.reduceMul, reduceCtorEq, Int.reduceBEq, Int.reduceLT, Int.reduceLE, Int.reduceAdd, Int.reduceSub, Int.reduceEq, Int.reduceNeg, Int.reduceToNat, Int.reduceGT, Int.reduceGE])⟩
    by_cases k6 : p.kind = 6
    · have hpW : pW p = some (blkL p.xs) := by unfold pW; simp [k6]
      have eB : ∀ o o2, (lim Try.prog σ).call 42 [p.v] ((h'.alloc o).put h'.nx o2) = some (.agg (bc (blkL p.xs)), none) := fun o o2 => block_of hσ (B.ext (I.ext.trans (eX o o2)))
      simp only [go_sem, Nat.reduceLT, Nat.reduceLeDiff, Nat.reduceEqDiff, Nat.reduceAdd, Nat.reduceSub, Nat.reduceMul, reduceCtorEq, Int.reduceBEq, Int.reduceLT, Int.reduceLE, Int.reduceAdd, Int.reduceSub, Int.reduceEq, Int.reduceNeg, Int.reduceToNat, Int.reduceGT, Int.reduceGE, e0, e4, e3, P.sl.len, hlt, hix, hb', g0, g1, g2, g3, hone, k6, eB]
      refine wok_step (Q := PutOk h (wAll l)) (block_run hσ (A.ext' (eX _ _)) (blkL_len _) (by omega)) ?_
      intro x lid' A' F' hl'
      simp only [go_sem, Nat.reduceLT, Nat.reduceLeDiff, Nat.reduceEqDiff, Nat.reduceAdd, Nat.reduceSub, Nat.reduceMul, reduceCtorEq, Int.reduceBEq, Int.reduceLT, Int.reduceLE, Int.reduceAdd, Int.reduceSub, Int.reduceEq, Int.reduceNeg, Int.reduceToNat, Int.reduceGT, Int.reduceGE, e0, e4, e3, hw]
      exact next _ _ ⟨by simp only [go_sem, Nat.reduceLT, Nat.reduceLeDiff, Nat.reduceEqDiff, Nat.reduceAdd, Nat.reduceSub, Nat.reduceMul, reduceCtorEq, Int.reduceBEq, Int.reduceLT, Int.reduceLE, Int.reduceAdd, Int.reduceSub, Int.reduceEq, Int.reduceNeg, Int.reduceToNat, Int.reduceGT, Int.reduceGE], key _ x lid' (eX _ _) (by rw [hpW]; exact A') F' hl' _ (by simp only [go_sem, Nat.reduceLT, Nat.reduceLeDiff, Nat.reduceEqDiff, Nat.reduceAdd, Nat.reduceSub, Nat.reduceMul, reduceCtorEq, Int.reduceBEq, Int.reduceLT, Int.reduceLE, Int.reduceAdd, Int.reduceSub, Int.reduceEq, Int.reduceNeg, Int.reduceToNat, Int.reduceGT, Int.reduceGE, e0]) (by simp only [go_sem, Nat.reduceLT, Nat.reduceLeDiff, Nat.reduceEqDiff, Nat.reduceAdd, Nat.reduceSub, Nat.reduceMul, reduceCtorEq, Int.reduceBEq, Int.reduceLT, Int.reduceLE, Int.reduceAdd, Int.reduceSub, Int.reduceEq, Int.reduceNeg, Int.reduceToNat, Int.reduceGT, Int.reduceGE])⟩
    have hpW : pW p = some [] := by unfold pW; simp [k1, k2, k3, k4, k5, k6]
    simp only [go_sem, Nat.reduceLT, Nat.reduceLeDiff, Nat.reduceEqDiff, Nat.reduceAdd, Nat.reduceSub, Nat.reduceMul, reduceCtorEq, Int.reduceBEq, Int.reduceLT, Int.reduceLE, Int.reduceAdd, Int.reduceSub, Int.reduceEq, Int.reduceNeg, Int.reduceToNat, Int.reduceGT, Int.reduceGE, e0, e4, e3, P.sl.len, hlt, hix, hb', g0, g1, g2, g3, hone, k1, k2, k3, k4, k5, k6, hw]
    have hp0 : wput (wAll (l.take i)) (pW p) = wAll (l.take i) := by
      rw [hpW]
      generalize wAll (l.take i) = s
      obtain ⟨f, bs⟩ := s
      cases f <;> simp [wput]
    exact next _ _ ⟨by simp only [go_sem, Nat.reduceLT, Nat.reduceLeDiff, Nat.reduceEqDiff, Nat.reduceAdd, Nat.reduceSub, Nat.reduceMul, reduceCtorEq, Int.reduceBEq, Int.reduceLT, Int.reduceLE, Int.reduceAdd, Int.reduceSub, Int.reduceEq, Int.reduceNeg, Int.reduceToNat, Int.reduceGT, Int.reduceGE], key _ none lid (eX _ _) (by rw [hp0]; exact A.ext' (eX _ _)) (WFr.refl _ _ _) (.inl rfl) _ (by simp only [go_sem, Nat.reduceLT, Nat.reduceLeDiff, Nat.reduceEqDiff, Nat.reduceAdd, Nat.reduceSub, Nat.reduceMul, reduceCtorEq, Int.reduceBEq, Int.reduceLT, Int.reduceLE, Int.reduceAdd, Int.reduceSub, Int.reduceEq, Int.reduceNeg, Int.reduceToNat, Int.reduceGT, Int.reduceGE, e0]) (by simp only [go_sem, Nat.reduceLT, Nat.reduceLeDiff, Nat.reduceEqDiff, Nat.reduceAdd, Nat.reduceSub, Nat.reduceMul, reduceCtorEq, Int.reduceBEq, Int.reduceLT, Int.reduceLE, Int.reduceAdd, Int.reduceSub, Int.reduceEq, Int.reduceNeg, Int.reduceToNat, Int.reduceGT, Int.reduceGE, e3])⟩
  · rintro env h' ⟨e4, I, hlen⟩
    have e0 := I.e0
    have e3 := I.e3
    have hlt := ofNat_nlt (Nat.le_refl l.length)
    simp only [go_sem, Nat.reduceLT, Nat.reduceLeDiff, Nat.reduceEqDiff, Nat.reduceAdd, Nat.reduceSub, Nat.reduceMul, reduceCtorEq, Int.reduceBEq, Int.reduceLT, Int.reduceLE, Int.reduceAdd, Int.reduceSub, Int.reduceEq, Int.reduceNeg, Int.reduceToNat, Int.reduceGT, Int.reduceGE, e0, e4, e3, P.sl.len, hlt]
    obtain ⟨lid, hlid, A⟩ := I.w
    rw [fin_new _ _ _ (by simp only [go_sem, Nat.reduceLT, Nat.reduceLeDiff, Nat.reduceEqDiff, Nat.reduceAdd, Nat.reduceSub, Nat.reduceMul, reduceCtorEq, Int.reduceBEq, Int.reduceLT, Int.reduceLE, Int.reduceAdd, Int.reduceSub, Int.reduceEq, Int.reduceNeg, Int.reduceToNat, Int.reduceGT, Int.reduceGE]; exact decide_eq_false (by omega))]
    rw [List.take_of_length_le (Nat.le_refl _)] at A
    exact ⟨_, lid, rfl, hlid, A.up _, I.ext.up' _⟩
end Go.Cl.A

namespace Go.Cl.A
variable {σ : Sums}

def gP (p : Part) : Bool := pG p.kind p.size p.n
def bP (p : Part) : List Nat := pB p.kind p.size p.n p.xs
def flat (l : List Part) : List Nat := l.flatMap bP
theorem pW_eq (p : Part) : pW p = if gP p then some (bP p) else none := by
  unfold pW gP bP pG pB numB
  by_cases k1 : p.kind = 1
  · simp only [k1, if_true]
    cases sizeOk p.size <;> simp
  by_cases k5 : p.kind = 5
  · simp only [k5]
    simp
    split
    · congr 2; congr 1; omega
    · rfl
  simp only [k1, k5, if_false]
  simp
  repeat' split
  all_goals rfl
theorem fold_good : ∀ (l : List Part) (bs : List Nat), l.all gP = true → l.foldl (fun s p => wput s (pW p)) (false, bs) = (false, bs ++ flat l)
  | [], bs, _ => by simp [flat]
  | p :: l, bs, h => by
    simp only [List.all_cons, Bool.and_eq_true] at h
    rw [List.foldl_cons, pW_eq, h.1, show wput (false, bs) (if true = true then some (bP p) else none) = (false, bs ++ bP p) from rfl, fold_good l _ h.2]
    simp [flat]
theorem fold_true : ∀ (l : List Part) (bs : List Nat), l.foldl (fun s p => wput s (pW p)) (true, bs) = (true, bs)
  | [], bs => rfl
  | p :: l, bs => by rw [List.foldl_cons]; exact fold_true l bs
theorem fold_bad : ∀ (l : List Part) (bs : List Nat), l.all gP = false → (l.foldl (fun s p => wput s (pW p)) (false, bs)).1 = true
  | [], bs, h => by cases h
  | p :: l, bs, h => by
    rw [List.foldl_cons, pW_eq]
    cases hg : gP p
    · rw [show wput (false, bs) (if false = true then some (bP p) else none) = (true, bs) from rfl, fold_true]
    · rw [show wput (false, bs) (if true = true then some (bP p) else none) = (false, bs ++ bP p) from rfl]
      exact fold_bad l _ (by simpa [hg] using h)
theorem fold_len : ∀ (l : List Part) (s : Bool × List Nat), (∀ p ∈ l, p.xs.length ≤ 20000) → (l.foldl (fun s p => wput s (pW p)) s).2.length ≤ s.2.length + total l + 256 * l.length
  | [], s, _ => by simp [total]
  | p :: l, s, h => by
    rw [List.foldl_cons]
    have h1 := fold_len l (wput s (pW p)) fun q hq => h q (List.mem_cons_of_mem _ hq)
    have h2 := wput_len s p
    have h3 := h p List.mem_cons_self
    simp only [total, List.length_cons]
    omega
theorem num32_run (hσ : ∀ f a h, f ≠ 28 → σ f a h = none) (h : H) (n : Int) : (lim Try.prog σ).call 32 [.int .i64 n] h = some (.int .i64 n, none) := by
  rw [call_eq (hσ _ _ _ (by decide)) fn_32 rfl rfl, Try.ntmps32, Try.results32]
  simp only [go_sem, Nat.reduceLT, Nat.reduceLeDiff, Nat.reduceEqDiff, Nat.reduceAdd, Nat.reduceSub, Nat.reduceMul, reduceCtorEq, Int.reduceBEq, Int.reduceLT, Int.reduceLE, Int.reduceAdd, Int.reduceSub, Int.reduceEq, Int.reduceNeg, Int.reduceToNat, Int.reduceGT, Int.reduceGE]
  rw [fin_q _ _ _ rfl rfl]
theorem be_lt (n k : Nat) : ∀ b ∈ be n k, b < 256 := fun b hb => by
  obtain ⟨j, _, rfl⟩ := List.mem_map.1 hb
  exact Nat.mod_lt _ (by decide)
theorem blkL_lt {xs : List Nat} (h : ∀ b ∈ xs, b < 256) : ∀ b ∈ blkL xs, b < 256 := fun b hb => by
  rcases List.mem_append.1 (List.mem_of_mem_take hb) with h1 | h1
  · exact h b h1
  · unfold z256 at h1; have := List.eq_of_mem_replicate h1; omega
theorem bP_lt {p : Part} (h : ∀ b ∈ p.xs, b < 256) : ∀ b ∈ bP p, b < 256 := by
  unfold bP pB
  repeat' split
  · exact be_lt _ _
  · simp
  · intro b hb; simp at hb; omega
  · intro b hb; simp at hb; omega
  · exact h
  · intro b hb
    rcases List.mem_append.1 hb with h1 | h1
    · exact be_lt _ _ b h1
    · exact h b h1
  · intro b hb; simp at hb; omega
  · exact blkL_lt h
  · simp
theorem bP_len (p : Part) : (bP p).length ≤ p.xs.length + 256 := by
  unfold bP pB
  repeat' split
  all_goals (try simp [be_len, blkL_len])
  all_goals (try omega)
  rename_i h1 h2
  have : p.size = 1 ∨ p.size = 2 ∨ p.size = 4 ∨ p.size = 8 := of_decide_eq_true h2
  omega
theorem flat_app (l : List Part) (p : Part) : flat (l ++ [p]) = flat l ++ bP p := by simp [flat]

theorem Parts.ext {h h' : H} {v : CV} {l : List Part} (P : Parts h v l) (E : Ext h h') : Parts h' v l :=
  ⟨⟨P.sl.len, fun i hi => by
    obtain ⟨id, off, b, h1, h2, h3, h4, h5⟩ := P.sl.elt i hi
    exact ⟨id, off, b, h1, Nat.lt_of_lt_of_le h2 E.nx, (E.blk h2).trans h3, h4, h5⟩⟩, fun p hp => by
    obtain ⟨h1, h2, h3, h4⟩ := P.ok p hp
    exact ⟨h1.ext E, h2, h3, h4⟩⟩

structure WI (h : H) (v : CV) (l : List Part) (i : Nat) (env : T CV) (h' : H) : Prop where
  e0 : evT env 0 = v
  e5 : evT env 5 = .int .i64 (Int.ofNat i)
  e4 : evT env 4 = .bool ((l.take i).all gP)
  e3 : ∃ lid n, Lst h' 1 (evT env 3) lid n (bc (flat (l.take i))) ∧ h.nx ≤ lid
  ext : Ext h h'
  len : (flat (l.take i)).length ≤ total (l.take i) + 256 * i

set_option maxRecDepth 100000 in
theorem writes_run (hσ : ∀ f a h, f ≠ 28 → σ f a h = none) (hk : ∀ h, (lim Try.prog σ).call 28 [] h = some (.bool true, none)) {h : H} {v : CV} {l : List Part} (P : Parts h v l) :
    Tru ((lim Try.prog σ).call 7 [v] h) := by
  rw [call_eq (hσ _ _ _ (by decide)) fn_7 rfl rfl, Try.ntmps7, Try.results7]
  have hm : ∀ h', Ext h h' → (lim Try.prog σ).call 27 [v] h' = some (.bool (muchOf l), none) := fun h' E => much_run hσ (P.ext E)
  cases hmu : muchOf l
  · have h40 : l.length ≤ 40 := by
      unfold muchOf at hmu
      simp at hmu
      omega
    have htot : total l ≤ 20000 := by
      unfold muchOf at hmu
      simp at hmu
      rw [List.take_of_length_le (by omega)] at hmu
      omega
    simp only [go_sem, Nat.reduceLT, Nat.reduceLeDiff, Nat.reduceEqDiff, Nat.reduceAdd, Nat.reduceSub, Nat.reduceMul, reduceCtorEq, Int.reduceBEq, Int.reduceLT, Int.reduceLE, Int.reduceAdd, Int.reduceSub, Int.reduceEq, Int.reduceNeg, Int.reduceToNat, Int.reduceGT, Int.reduceGE, hm _ (Ext.lo h), hmu]
    refine loop_ind (Q := Tru) (fun i env h' => WI h v l i env h') l.length 0 ?_ (Nat.zero_le _) ?_ ?_
    · refine ⟨by simp only [go_sem, Nat.reduceLT, Nat.reduceLeDiff, Nat.reduceEqDiff, Nat.reduceAdd, Nat.reduceSub, Nat.reduceMul, reduceCtorEq, Int.reduceBEq, Int.reduceLT, Int.reduceLE, Int.reduceAdd, Int.reduceSub, Int.reduceEq, Int.reduceNeg, Int.reduceToNat, Int.reduceGT, Int.reduceGE], by simp only [go_sem, Nat.reduceLT, Nat.reduceLeDiff, Nat.reduceEqDiff, Nat.reduceAdd, Nat.reduceSub, Nat.reduceMul, reduceCtorEq, Int.reduceBEq, Int.reduceLT, Int.reduceLE, Int.reduceAdd, Int.reduceSub, Int.reduceEq, Int.reduceNeg, Int.reduceToNat, Int.reduceGT, Int.reduceGE]; rfl, by simp only [go_sem, Nat.reduceLT, Nat.reduceLeDiff, Nat.reduceEqDiff, Nat.reduceAdd, Nat.reduceSub, Nat.reduceMul, reduceCtorEq, Int.reduceBEq, Int.reduceLT, Int.reduceLE, Int.reduceAdd, Int.reduceSub, Int.reduceEq, Int.reduceNeg, Int.reduceToNat, Int.reduceGT, Int.reduceGE]; rfl, ⟨h.nx, 0, by simp only [go_sem, Nat.reduceLT, Nat.reduceLeDiff, Nat.reduceEqDiff, Nat.reduceAdd, Nat.reduceSub, Nat.reduceMul, reduceCtorEq, Int.reduceBEq, Int.reduceLT, Int.reduceLE, Int.reduceAdd, Int.reduceSub, Int.reduceEq, Int.reduceNeg, Int.reduceToNat, Int.reduceGT, Int.reduceGE]; exact Lst.nil _ _ _, Nat.le_refl _⟩, Ext.lo h, Nat.le_refl _⟩
    · rintro i env h' I hi next
      obtain ⟨e0, e5, e4, ⟨lid, n, L, hlid⟩, E, hlen⟩ := I
      obtain ⟨p, hp⟩ : ∃ p, l[i]? = some p := ⟨_, List.getElem?_eq_getElem hi⟩
      obtain ⟨id, off, b, hix, hid, hb, g0, g1, g2, g3⟩ := P.at_ hp
      have hpm : p ∈ l := List.mem_of_getElem? hp
      obtain ⟨B, hn, hby, hone⟩ := P.ok p hpm
      have hlt := ofNat_lt hi
      have hw : IntKind.wrap .i64 (Int.ofNat i + 1) = Int.ofNat (i + 1) := wrap_succ (by omega)
      have hb' : h'.blk id = some b := (E.blk hid).trans hb
      have w2 : p.xs.length ≤ 20000 := by
        have := total_mem hpm
        omega
      have w3 := total_take l i
      obtain ⟨u, x, er, E1, B1⟩ := part_run hσ (B.ext E) p.kind p.size p.n hn (by omega)
      have er' : (lim Try.prog σ).call 29 [.agg [.int .i64 p.kind, .int .i64 p.size, .int .u64 (Int.ofNat p.n), p.v]] h' = some (.tup [u, .bool (gP p)], x) := er
      have hbl := bP_len p
      have htk : l.take (i + 1) = l.take i ++ [p] := by rw [List.take_add_one, hp]; rfl
      have hn2 : n = (flat (l.take i)).length := by have := L.len; rw [bc_len] at this; omega
      simp only [go_sem, Nat.reduceLT, Nat.reduceLeDiff, Nat.reduceEqDiff, Nat.reduceAdd, Nat.reduceSub, Nat.reduceMul, reduceCtorEq, Int.reduceBEq, Int.reduceLT, Int.reduceLE, Int.reduceAdd, Int.reduceSub, Int.reduceEq, Int.reduceNeg, Int.reduceToNat, Int.reduceGT, Int.reduceGE, e0, e4, e5, P.sl.len, hlt, hix, hb', g0, g1, g2, g3, hone, er']
      have hall : (l.take (i + 1)).all gP = ((l.take i).all gP && gP p) := by rw [htk]; simp
      have fin : ∀ env' h2, evT env' 0 = v → evT env' 5 = .int .i64 (Int.ofNat (i + 1)) → evT env' 4 = .bool ((l.take i).all gP && gP p) → ∀ s' lid' , evT env' 3 = s' → Lst h2 1 s' lid' (n + (bc (bP p)).length) (bc (flat (l.take i)) ++ bc (bP p)) → AppFr (x.getD h') h2 lid n lid' (bc (bP p)).length →
          WI h v l (i + 1) env' h2 := by
        intro env' h2 q0 q5 q4 s' lid' q3 L2 F2
        have hq := E.nx
        have hq1 := E1.nx
        refine ⟨q0, q5, by rw [q4, hall], ⟨lid', _, by rw [q3, htk, flat_app, bc_app]; exact L2, by have := F2.id; omega⟩, ⟨by have := F2.nx; omega, F2.gn.trans (E1.gn.trans E.gn), fun k hk => ?_⟩, ?_⟩
        · rw [F2.old k (by omega) (by omega), E1.old k (by omega), E.old k hk]
        · rw [htk, flat_app, total_app]; simp [total]; omega
      cases hg : (l.take i).all gP
      · rw [hg] at e4 fin
        simp only [go_sem, Nat.reduceLT, Nat.reduceLeDiff, Nat.reduceEqDiff, Nat.reduceAdd, Nat.reduceSub, Nat.reduceMul, reduceCtorEq, Int.reduceBEq, Int.reduceLT, Int.reduceLE, Int.reduceAdd, Int.reduceSub, Int.reduceEq, Int.reduceNeg, Int.reduceToNat, Int.reduceGT, Int.reduceGE, e0, e4, e5, er', hw]
        refine appb_step (Q := Tru) (L.ext E1) B1 (bc_one _) (by rw [bc_len]; show n + (bP p).length ≤ _; omega) ?_
        intro s' lid' h2 L2 F2 _
        simp only [go_sem, Nat.reduceLT, Nat.reduceLeDiff, Nat.reduceEqDiff, Nat.reduceAdd, Nat.reduceSub, Nat.reduceMul, reduceCtorEq, Int.reduceBEq, Int.reduceLT, Int.reduceLE, Int.reduceAdd, Int.reduceSub, Int.reduceEq, Int.reduceNeg, Int.reduceToNat, Int.reduceGT, Int.reduceGE, e0, e4, e5, er', hw]
        exact next _ _ (fin _ _ (by simp only [go_sem, Nat.reduceLT, Nat.reduceLeDiff, Nat.reduceEqDiff, Nat.reduceAdd, Nat.reduceSub, Nat.reduceMul, reduceCtorEq, Int.reduceBEq, Int.reduceLT, Int.reduceLE, Int.reduceAdd, Int.reduceSub, Int.reduceEq, Int.reduceNeg, Int.reduceToNat, Int.reduceGT, Int.reduceGE, e0]) (by simp only [go_sem, Nat.reduceLT, Nat.reduceLeDiff, Nat.reduceEqDiff, Nat.reduceAdd, Nat.reduceSub, Nat.reduceMul, reduceCtorEq, Int.reduceBEq, Int.reduceLT, Int.reduceLE, Int.reduceAdd, Int.reduceSub, Int.reduceEq, Int.reduceNeg, Int.reduceToNat, Int.reduceGT, Int.reduceGE]) (by simp only [go_sem, Nat.reduceLT, Nat.reduceLeDiff, Nat.reduceEqDiff, Nat.reduceAdd, Nat.reduceSub, Nat.reduceMul, reduceCtorEq, Int.reduceBEq, Int.reduceLT, Int.reduceLE, Int.reduceAdd, Int.reduceSub, Int.reduceEq, Int.reduceNeg, Int.reduceToNat, Int.reduceGT, Int.reduceGE]) s' lid' (by simp only [go_sem, Nat.reduceLT, Nat.reduceLeDiff, Nat.reduceEqDiff, Nat.reduceAdd, Nat.reduceSub, Nat.reduceMul, reduceCtorEq, Int.reduceBEq, Int.reduceLT, Int.reduceLE, Int.reduceAdd, Int.reduceSub, Int.reduceEq, Int.reduceNeg, Int.reduceToNat, Int.reduceGT, Int.reduceGE]) L2 F2)
      · rw [hg] at e4 fin
        simp only [go_sem, Nat.reduceLT, Nat.reduceLeDiff, Nat.reduceEqDiff, Nat.reduceAdd, Nat.reduceSub, Nat.reduceMul, reduceCtorEq, Int.reduceBEq, Int.reduceLT, Int.reduceLE, Int.reduceAdd, Int.reduceSub, Int.reduceEq, Int.reduceNeg, Int.reduceToNat, Int.reduceGT, Int.reduceGE, e0, e4, e5, er', hw]
        refine appb_step (Q := Tru) (L.ext E1) B1 (bc_one _) (by rw [bc_len]; show n + (bP p).length ≤ _; omega) ?_
        intro s' lid' h2 L2 F2 _
        simp only [go_sem, Nat.reduceLT, Nat.reduceLeDiff, Nat.reduceEqDiff, Nat.reduceAdd, Nat.reduceSub, Nat.reduceMul, reduceCtorEq, Int.reduceBEq, Int.reduceLT, Int.reduceLE, Int.reduceAdd, Int.reduceSub, Int.reduceEq, Int.reduceNeg, Int.reduceToNat, Int.reduceGT, Int.reduceGE, e0, e4, e5, er', hw]
        exact next _ _ (fin _ _ (by simp only [go_sem, Nat.reduceLT, Nat.reduceLeDiff, Nat.reduceEqDiff, Nat.reduceAdd, Nat.reduceSub, Nat.reduceMul, reduceCtorEq, Int.reduceBEq, Int.reduceLT, Int.reduceLE, Int.reduceAdd, Int.reduceSub, Int.reduceEq, Int.reduceNeg, Int.reduceToNat, Int.reduceGT, Int.reduceGE, e0]) (by simp only [go_sem, Nat.reduceLT, Nat.reduceLeDiff, Nat.reduceEqDiff, Nat.reduceAdd, Nat.reduceSub, Nat.reduceMul, reduceCtorEq, Int.reduceBEq, Int.reduceLT, Int.reduceLE, Int.reduceAdd, Int.reduceSub, Int.reduceEq, Int.reduceNeg, Int.reduceToNat, Int.reduceGT, Int.reduceGE]) (by simp only [go_sem, Nat.reduceLT, Nat.reduceLeDiff, Nat.reduceEqDiff, Nat.reduceAdd, Nat.reduceSub, Nat.reduceMul, reduceCtorEq, Int.reduceBEq, Int.reduceLT, Int.reduceLE, Int.reduceAdd, Int.reduceSub, Int.reduceEq, Int.reduceNeg, Int.reduceToNat, Int.reduceGT, Int.reduceGE]) s' lid' (by simp only [go_sem, Nat.reduceLT, Nat.reduceLeDiff, Nat.reduceEqDiff, Nat.reduceAdd, Nat.reduceSub, Nat.reduceMul, reduceCtorEq, Int.reduceBEq, Int.reduceLT, Int.reduceLE, Int.reduceAdd, Int.reduceSub, Int.reduceEq, Int.reduceNeg, Int.reduceToNat, Int.reduceGT, Int.reduceGE]) L2 F2)
    · rintro env0 h' I
      obtain ⟨e0, e5, e4, ⟨lid, n, L, hlid⟩, E, hlen⟩ := I
      have hlt := ofNat_nlt (Nat.le_refl l.length)
      rw [List.take_of_length_le (Nat.le_refl _)] at L hlen e4
      obtain ⟨h1, lw, ep, hlw, A, E1⟩ := puts_run hσ (P.ext E) h40 htot
      cases hg : l.all gP
      · rw [hg] at e4
        have hbad : (wAll l).1 = true := fold_bad l [] hg
        rw [hbad] at A
        simp only [go_sem, Nat.reduceLT, Nat.reduceLeDiff, Nat.reduceEqDiff, Nat.reduceAdd, Nat.reduceSub, Nat.reduceMul, reduceCtorEq, Int.reduceBEq, Int.reduceLT, Int.reduceLE, Int.reduceAdd, Int.reduceSub, Int.reduceEq, Int.reduceNeg, Int.reduceToNat, Int.reduceGT, Int.reduceGE, e0, e4, e5, P.sl.len, hlt, ep]
        have hwl : (wAll l).2.length ≤ 900000 := by
          have h1 : (wAll l).2.length ≤ ([] : List Nat).length + total l + 256 * l.length := fold_len l (false, []) fun p hp => by
            have := total_mem hp
            omega
          simp at h1; omega
        obtain ⟨u, x, ee, E2, B2, _⟩ := end_run hσ A hwl
        have ee : (lim Try.prog σ).call 31 [.ptr h'.nx 0] h1 = some (.tup [u, .int .i64 2], x) := ee
        have B3 : BSl (x.getD h1) u [] := B2
        have b3 : ∀ h', builtinT Try.prog h' .len [67] [u] = some (.val (.int .i64 0)) := B3.len
        simp only [go_sem, Nat.reduceLT, Nat.reduceLeDiff, Nat.reduceEqDiff, Nat.reduceAdd, Nat.reduceSub, Nat.reduceMul, reduceCtorEq, Int.reduceBEq, Int.reduceLT, Int.reduceLE, Int.reduceAdd, Int.reduceSub, Int.reduceEq, Int.reduceNeg, Int.reduceToNat, Int.reduceGT, Int.reduceGE, e0, e4, e5, P.sl.len, hlt, ep, ee, b3, num32_run hσ, hk, tru_fin]
      · rw [hg] at e4
        have hgood : wAll l = (false, flat l) := fold_good l [] hg
        rw [hgood] at A
        simp only [go_sem, Nat.reduceLT, Nat.reduceLeDiff, Nat.reduceEqDiff, Nat.reduceAdd, Nat.reduceSub, Nat.reduceMul, reduceCtorEq, Int.reduceBEq, Int.reduceLT, Int.reduceLE, Int.reduceAdd, Int.reduceSub, Int.reduceEq, Int.reduceNeg, Int.reduceToNat, Int.reduceGT, Int.reduceGE, e0, e4, e5, P.sl.len, hlt, ep]
        obtain ⟨u, x, ee, E2, B2, hu⟩ := end_run hσ A (show (flat l).length ≤ 900000 by omega)
        have ee : (lim Try.prog σ).call 31 [.ptr h'.nx 0] h1 = some (.tup [u, .int .i64 0], x) := ee
        simp only [go_sem, Nat.reduceLT, Nat.reduceLeDiff, Nat.reduceEqDiff, Nat.reduceAdd, Nat.reduceSub, Nat.reduceMul, reduceCtorEq, Int.reduceBEq, Int.reduceLT, Int.reduceLE, Int.reduceAdd, Int.reduceSub, Int.reduceEq, Int.reduceNeg, Int.reduceToNat, Int.reduceGT, Int.reduceGE, e0, e4, e5, P.sl.len, hlt, ep, ee]
        have hlen2 := bc_len (flat l)
        refine copy_of (Q := Tru) B2 (bc_one _) (by show (bc (flat l)).length ≤ _; omega) ?_
        intro s' h2 E3 B3 hne hnil _
        have hul : ∀ h', builtinT Try.prog h' .len [67] [u] = some (.val (.int .i64 (Int.ofNat (flat l).length))) := fun h' => by
          rw [B2.len]; show some (Out.val (CV.int .i64 (Int.ofNat (bc (flat l)).length))) = _; rw [bc_len]
        simp only [go_sem, Nat.reduceLT, Nat.reduceLeDiff, Nat.reduceEqDiff, Nat.reduceAdd, Nat.reduceSub, Nat.reduceMul, reduceCtorEq, Int.reduceBEq, Int.reduceLT, Int.reduceLE, Int.reduceAdd, Int.reduceSub, Int.reduceEq, Int.reduceNeg, Int.reduceToNat, Int.reduceGT, Int.reduceGE, e0, e4, e5, P.sl.len, hlt, ep, ee]
        obtain ⟨id, hid⟩ : ∃ id, flat l ≠ [] → u = .sl id 0 (flat l).length (.opn 1) ∧ h1.nx ≤ id ∧ Lst (x.getD h1) 1 u id (flat l).length (bc (flat l)) := by
          by_cases q : flat l = []
          · exact ⟨0, fun q2 => absurd q q2⟩
          · obtain ⟨id, q1, q2, q3⟩ := hu rfl q
            exact ⟨id, fun _ => ⟨q1, q2, q3⟩⟩
        have hE2 := E2.nx
        have hE3 := E3.nx
        have hE1 := E1.nx
        refine loop_ind (Q := Tru) (fun i env h3 => evT env 8 = .ptr h'.nx 0 ∧ evT env 3 = evT env0 3 ∧ evT env 9 = u ∧ evT env 10 = .int .i64 0 ∧ evT env 11 = s' ∧ evT env 12 = .int .i64 (Int.ofNat i) ∧ h2.nx = h3.nx ∧ h3.gn = h2.gn ∧ (∀ k, (flat l ≠ [] → k ≠ id) → h3.t.get k = h2.t.get k) ∧
          (flat l ≠ [] → ∃ b, h3.blk id = some b ∧ b.ro = false ∧ b.n = (flat l).length ∧ ∀ j, j < (flat l).length → ∃ m, b.get j = some (.int .u8 m))) (flat l).length 0 ?_ (Nat.zero_le _) ?_ ?_
        · refine ⟨by simp only [go_sem, Nat.reduceLT, Nat.reduceLeDiff, Nat.reduceEqDiff, Nat.reduceAdd, Nat.reduceSub, Nat.reduceMul, reduceCtorEq, Int.reduceBEq, Int.reduceLT, Int.reduceLE, Int.reduceAdd, Int.reduceSub, Int.reduceEq, Int.reduceNeg, Int.reduceToNat, Int.reduceGT, Int.reduceGE], by simp only [go_sem, Nat.reduceLT, Nat.reduceLeDiff, Nat.reduceEqDiff, Nat.reduceAdd, Nat.reduceSub, Nat.reduceMul, reduceCtorEq, Int.reduceBEq, Int.reduceLT, Int.reduceLE, Int.reduceAdd, Int.reduceSub, Int.reduceEq, Int.reduceNeg, Int.reduceToNat, Int.reduceGT, Int.reduceGE], by simp only [go_sem, Nat.reduceLT, Nat.reduceLeDiff, Nat.reduceEqDiff, Nat.reduceAdd, Nat.reduceSub, Nat.reduceMul, reduceCtorEq, Int.reduceBEq, Int.reduceLT, Int.reduceLE, Int.reduceAdd, Int.reduceSub, Int.reduceEq, Int.reduceNeg, Int.reduceToNat, Int.reduceGT, Int.reduceGE], by simp only [go_sem, Nat.reduceLT, Nat.reduceLeDiff, Nat.reduceEqDiff, Nat.reduceAdd, Nat.reduceSub, Nat.reduceMul, reduceCtorEq, Int.reduceBEq, Int.reduceLT, Int.reduceLE, Int.reduceAdd, Int.reduceSub, Int.reduceEq, Int.reduceNeg, Int.reduceToNat, Int.reduceGT, Int.reduceGE], by simp only [go_sem, Nat.reduceLT, Nat.reduceLeDiff, Nat.reduceEqDiff, Nat.reduceAdd, Nat.reduceSub, Nat.reduceMul, reduceCtorEq, Int.reduceBEq, Int.reduceLT, Int.reduceLE, Int.reduceAdd, Int.reduceSub, Int.reduceEq, Int.reduceNeg, Int.reduceToNat, Int.reduceGT, Int.reduceGE], by simp only [go_sem, Nat.reduceLT, Nat.reduceLeDiff, Nat.reduceEqDiff, Nat.reduceAdd, Nat.reduceSub, Nat.reduceMul, reduceCtorEq, Int.reduceBEq, Int.reduceLT, Int.reduceLE, Int.reduceAdd, Int.reduceSub, Int.reduceEq, Int.reduceNeg, Int.reduceToNat, Int.reduceGT, Int.reduceGE]; rfl, rfl, rfl, fun _ _ => rfl, fun q => ?_⟩
          obtain ⟨r1, r2, r3⟩ := hid q
          have r4 := (r3.ext E3)
          rcases r4.val with ⟨r5, _⟩ | ⟨_, _, _, b, r5, r6, r7, r8⟩
          · exact absurd (List.length_eq_zero_iff.1 r5) q
          · refine ⟨b, r5, r6, by omega, fun j hj => ?_⟩
            rw [r8, nth_eq]
            simp [bc, hj]
        · rintro i env h3 ⟨q8, q3, q9, q10, q11, q12, hnx, hgn, hold, hcell⟩ hi next
          have hne : flat l ≠ [] := fun q => by rw [q] at hi; simp at hi
          obtain ⟨r1, r2, r3⟩ := hid hne
          obtain ⟨b, hb, hro, hbn, hget⟩ := hcell hne
          obtain ⟨m, hm⟩ := hget i hi
          have hlt := ofNat_lt hi
          have hw : IntKind.wrap .i64 (Int.ofNat i + 1) = Int.ofNat (i + 1) := wrap_succ (by omega)
          rw [r1] at q9 hul
          simp only [go_sem, Nat.reduceLT, Nat.reduceLeDiff, Nat.reduceEqDiff, Nat.reduceAdd, Nat.reduceSub, Nat.reduceMul, reduceCtorEq, Int.reduceBEq, Int.reduceLT, Int.reduceLE, Int.reduceAdd, Int.reduceSub, Int.reduceEq, Int.reduceNeg, Int.reduceToNat, Int.reduceGT, Int.reduceGE, q8, q9, q12, hul, hlt, hb, hro, hbn, hm, hi, Nat.mul_one, hw]
          refine next _ _ ⟨by simp only [go_sem, Nat.reduceLT, Nat.reduceLeDiff, Nat.reduceEqDiff, Nat.reduceAdd, Nat.reduceSub, Nat.reduceMul, reduceCtorEq, Int.reduceBEq, Int.reduceLT, Int.reduceLE, Int.reduceAdd, Int.reduceSub, Int.reduceEq, Int.reduceNeg, Int.reduceToNat, Int.reduceGT, Int.reduceGE, q8], by simp only [go_sem, Nat.reduceLT, Nat.reduceLeDiff, Nat.reduceEqDiff, Nat.reduceAdd, Nat.reduceSub, Nat.reduceMul, reduceCtorEq, Int.reduceBEq, Int.reduceLT, Int.reduceLE, Int.reduceAdd, Int.reduceSub, Int.reduceEq, Int.reduceNeg, Int.reduceToNat, Int.reduceGT, Int.reduceGE, q3], by simp only [go_sem, Nat.reduceLT, Nat.reduceLeDiff, Nat.reduceEqDiff, Nat.reduceAdd, Nat.reduceSub, Nat.reduceMul, reduceCtorEq, Int.reduceBEq, Int.reduceLT, Int.reduceLE, Int.reduceAdd, Int.reduceSub, Int.reduceEq, Int.reduceNeg, Int.reduceToNat, Int.reduceGT, Int.reduceGE, q9, r1], by simp only [go_sem, Nat.reduceLT, Nat.reduceLeDiff, Nat.reduceEqDiff, Nat.reduceAdd, Nat.reduceSub, Nat.reduceMul, reduceCtorEq, Int.reduceBEq, Int.reduceLT, Int.reduceLE, Int.reduceAdd, Int.reduceSub, Int.reduceEq, Int.reduceNeg, Int.reduceToNat, Int.reduceGT, Int.reduceGE, q10], by simp only [go_sem, Nat.reduceLT, Nat.reduceLeDiff, Nat.reduceEqDiff, Nat.reduceAdd, Nat.reduceSub, Nat.reduceMul, reduceCtorEq, Int.reduceBEq, Int.reduceLT, Int.reduceLE, Int.reduceAdd, Int.reduceSub, Int.reduceEq, Int.reduceNeg, Int.reduceToNat, Int.reduceGT, Int.reduceGE, q11], by simp only [go_sem, Nat.reduceLT, Nat.reduceLeDiff, Nat.reduceEqDiff, Nat.reduceAdd, Nat.reduceSub, Nat.reduceMul, reduceCtorEq, Int.reduceBEq, Int.reduceLT, Int.reduceLE, Int.reduceAdd, Int.reduceSub, Int.reduceEq, Int.reduceNeg, Int.reduceToNat, Int.reduceGT, Int.reduceGE], by simp only [go_sem, Nat.reduceLT, Nat.reduceLeDiff, Nat.reduceEqDiff, Nat.reduceAdd, Nat.reduceSub, Nat.reduceMul, reduceCtorEq, Int.reduceBEq, Int.reduceLT, Int.reduceLE, Int.reduceAdd, Int.reduceSub, Int.reduceEq, Int.reduceNeg, Int.reduceToNat, Int.reduceGT, Int.reduceGE, hnx], by simp only [go_sem, Nat.reduceLT, Nat.reduceLeDiff, Nat.reduceEqDiff, Nat.reduceAdd, Nat.reduceSub, Nat.reduceMul, reduceCtorEq, Int.reduceBEq, Int.reduceLT, Int.reduceLE, Int.reduceAdd, Int.reduceSub, Int.reduceEq, Int.reduceNeg, Int.reduceToNat, Int.reduceGT, Int.reduceGE, hgn], fun k hk => ?_, fun _ => ⟨_, put_blk_same _ _ _, by simp only [go_sem, Nat.reduceLT, Nat.reduceLeDiff, Nat.reduceEqDiff, Nat.reduceAdd, Nat.reduceSub, Nat.reduceMul, reduceCtorEq, Int.reduceBEq, Int.reduceLT, Int.reduceLE, Int.reduceAdd, Int.reduceSub, Int.reduceEq, Int.reduceNeg, Int.reduceToNat, Int.reduceGT, Int.reduceGE, hro], by simp only [go_sem, Nat.reduceLT, Nat.reduceLeDiff, Nat.reduceEqDiff, Nat.reduceAdd, Nat.reduceSub, Nat.reduceMul, reduceCtorEq, Int.reduceBEq, Int.reduceLT, Int.reduceLE, Int.reduceAdd, Int.reduceSub, Int.reduceEq, Int.reduceNeg, Int.reduceToNat, Int.reduceGT, Int.reduceGE, hbn], fun j hj => ?_⟩⟩
          · rw [put_get_ne _ _ _ _ (hk hne)]; exact hold k hk
          · by_cases c : j = i
            · subst c; exact ⟨_, st_get_same _ _ _ (by omega)⟩
            · obtain ⟨m', hm'⟩ := hget j hj
              exact ⟨m', by rw [st_get_ne _ _ _ _ c]; exact hm'⟩
        · rintro env h3 ⟨q8, q3, q9, q10, q11, q12, hnx, hgn, hold, hcell⟩
          have hlt := ofNat_nlt (Nat.le_refl (flat l).length)
          have E13 : Ext h1 h3 := ⟨by omega, by rw [hgn]; exact E3.gn.trans E2.gn, fun k hk => by
            rw [hold k fun q e => by have := (hid q).2.1; omega, E3.old k (by omega), E2.old k hk]⟩
          have A3 := A.ext' E13
          obtain ⟨c, y, ec, E4, B4, _⟩ := end_run hσ A3 (show (flat l).length ≤ 900000 by omega)
          have ec : (lim Try.prog σ).call 31 [.ptr h'.nx 0] h3 = some (.tup [c, .int .i64 0], y) := ec
          have hfb : ∀ b ∈ flat l, b < 256 := fun b hb => by
            obtain ⟨p, hp, hbp⟩ := List.mem_flatMap.1 hb
            exact bP_lt (P.ok p hp).2.2.1 b hbp
          have c1 := BSl.str (B4 : BSl (y.getD h3) c (bc (flat l))) hfb
          have c2 := BSl.str ((lst_bsl L).ext ((E1.trans E13).trans E4)) hfb
          have B5 : BSl h3 s' (bc (flat l)) := by
            by_cases q : flat l = []
            · obtain ⟨q1, q2⟩ := hnil (by rw [show (bc (flat l)) = [] by rw [q]; rfl]; rfl)
              rw [q1, q]; exact .inl ⟨rfl, rfl⟩
            · obtain ⟨k, q1, q2, q3⟩ := hne (by intro e; apply q; simpa [bc] using e)
              obtain ⟨_, _, r3⟩ := hid q
              have hk := r3.lt (fun e => q (List.length_eq_zero_iff.1 e))
              exact lst_bsl (q3.mono (by omega) fun _ => blk_eq (hold k fun _ e => by omega))
          have c3 := BSl.str (B5.ext E4) hfb
          have w0 : IntKind.wrap .i64 0 = 0 := by decide
          simp only [go_sem, Nat.reduceLT, Nat.reduceLeDiff, Nat.reduceEqDiff, Nat.reduceAdd, Nat.reduceSub, Nat.reduceMul, reduceCtorEq, Int.reduceBEq, Int.reduceLT, Int.reduceLE, Int.reduceAdd, Int.reduceSub, Int.reduceEq, Int.reduceNeg, Int.reduceToNat, Int.reduceGT, Int.reduceGE, q8, q9, q12, hul, hlt, ec, q3, q10, q11, c1, c2, c3, num32_run hσ, w0, hk, tru_fin]
  · simp only [go_sem, Nat.reduceLT, Nat.reduceLeDiff, Nat.reduceEqDiff, Nat.reduceAdd, Nat.reduceSub, Nat.reduceMul, reduceCtorEq, Int.reduceBEq, Int.reduceLT, Int.reduceLE, Int.reduceAdd, Int.reduceSub, Int.reduceEq, Int.reduceNeg, Int.reduceToNat, Int.reduceGT, Int.reduceGE, hm _ (Ext.lo h), hmu, hk, tru_fin]
end Go.Cl.A

namespace Go.Cl.A
variable {σ : Sums}

/-- what a reader has left -/
def RL (h : H) (v : CV) (rest : List Nat) : Prop :=
  (v = .nils ∧ rest = []) ∨ (∃ a b c, v = .slend a b c 1 ∧ rest = []) ∨
  ∃ id off b, v = .sl id off rest.length (.opn 1) ∧ rest ≠ [] ∧ id < h.nx ∧ h.blk id = some b ∧ b.n = off + rest.length ∧ b.loadN off rest.length = some (bc rest)
structure RdAt (h : H) (r lid : Nat) (rest : List Nat) : Prop where
  lt : r < h.nx
  blk : ∃ b v, h.blk r = some b ∧ b.ro = false ∧ b.n = 3 ∧ b.get 0 = some v ∧ b.get 1 = some (.bool true) ∧ b.get 2 = some (.bool false) ∧ RL h v rest ∧ ∀ id off l c, v = .sl id off l c → id = lid ∧ id ≠ r
theorem RL.len {h : H} {v : CV} {rest : List Nat} (R : RL h v rest) (h' : H) : builtinT Try.prog h' .len [67] [v] = some (.val (.int .i64 (Int.ofNat rest.length))) := by
  rcases R with ⟨rfl, rfl⟩ | ⟨a, b, c, rfl, rfl⟩ | ⟨id, off, b, rfl, _⟩
  · simp [builtinT, Try.underlying67, lenC]
  · simp [builtinT, Try.underlying67, lenC]
  · exact len_67 _ _ _ _ _ _ _
/-- the same but for one block -/
structure But (h h' : H) (r : Nat) : Prop where
  nx : h'.nx = h.nx
  gn : h'.gn = h.gn
  old : ∀ k, k ≠ r → h'.t.get k = h.t.get k

theorem RL.one {h : H} {v : CV} {rest : List Nat} (R : RL h v rest) : v.one = true ∧ v.cells = [v] := by
  rcases R with ⟨rfl, rfl⟩ | ⟨a, b, c, rfl, rfl⟩ | ⟨id, off, b, rfl, _⟩ <;> exact ⟨rfl, rfl⟩
theorem drop_load {b : Blk} {off : Nat} {xs : List Nat} (h : b.loadN off xs.length = some (bc xs)) {n : Nat} (hn : n ≤ xs.length) :
    b.loadN off n = some (bc (xs.take n)) ∧ b.loadN (off + n) (xs.length - n) = some (bc (xs.drop n)) := by
  obtain ⟨hl, hg⟩ := loadN_spec h
  have hg' : ∀ j, j < xs.length → b.get (off + j) = some (.int .u8 (Int.ofNat (xs[j]?.getD 0))) := fun j hj => by
    rw [hg j hj]
    simp [bc, hj]
  constructor
  · refine loadN_of _ _ _ (by rw [bc_len, List.length_take]; omega) fun i v hv => ?_
    have hi := nlt hv
    rw [bc_len, List.length_take] at hi
    rw [hg' i (by omega), ← hv, nth_eq]
    have : i < n := by omega
    simp [bc, this, show i < xs.length by omega]
  · refine loadN_of _ _ _ (by rw [bc_len, List.length_drop]) fun i v hv => ?_
    have hi := nlt hv
    rw [bc_len, List.length_drop] at hi
    rw [Nat.add_assoc, hg' (n + i) (by omega), ← hv, nth_eq]
    simp [bc, show n + i < xs.length by omega]

/-- cutting it: the taken ones, the others -/
theorem RL.cut {h : H} {v : CV} {rest : List Nat} (R : RL h v rest) {n : Nat} (hn : n ≤ rest.length) :
    ∃ a b, sliceT Try.prog h 67 v none (some (.int .i64 (Int.ofNat n))) (some (.int .i64 (Int.ofNat n))) = some a ∧ sliceT Try.prog h 67 v (some (.int .i64 (Int.ofNat n))) none none = some b ∧ BSl h a (bc (rest.take n)) ∧ RL h b (rest.drop n) ∧
      (∀ id off l c, b = .sl id off l c ∨ a = .sl id off l c → ∃ off' l' c', v = .sl id off' l' c') := by
  rcases R with ⟨rfl, rfl⟩ | ⟨x1, x2, x3, rfl, rfl⟩ | ⟨id, off, b, rfl, hne, hid, hb, hbn, hld⟩
  · have : n = 0 := by simpa using hn
    subst this
    exact ⟨.nils, .nils, by kernel_rfl, by kernel_rfl, .inl ⟨by simp [bc], rfl⟩, .inl ⟨rfl, by simp⟩, fun _ _ _ _ e => by rcases e with e | e <;> cases e <;> exact ⟨_, _, _, rfl⟩⟩
  · have : n = 0 := by simpa using hn
    subst this
    exact ⟨.sl0 x1 x2 x3 1, .slend x1 x2 x3 1, by kernel_rfl, by kernel_rfl, .inr (.inl ⟨by simp [bc], _, _, _, _, rfl⟩), .inr (.inl ⟨_, _, _, rfl, by simp⟩), fun _ _ _ _ e => by rcases e with e | e <;> cases e <;> exact ⟨_, _, _, rfl⟩⟩
  · obtain ⟨d1, d2⟩ := drop_load hld hn
    have hbe : Nat.beq n 0 = decide (n = 0) := beq_eq' _ _
    have hlen : (rest.take n).length = n := by rw [List.length_take]; omega
    by_cases h0 : n = rest.length
    · refine ⟨.sl id off n (.exact n), .slend id off n 1, ?_, ?_, .inr (.inr ⟨id, off, _, b, by rw [bc_len, hlen], hid, hb, by rw [bc_len, hlen]; exact d1⟩), .inr (.inl ⟨_, _, _, rfl, by rw [h0]; simp⟩), fun _ _ _ _ e => by rcases e with e | e <;> cases e <;> exact ⟨_, _, _, rfl⟩⟩
      · simp [sliceT, Try.underlying67, sz_5, capK, hb, bnd, toN, hbn, ble_eq', beq_eq', blt_eq', hn]
      · have : ¬ n = 0 := by rw [h0]; intro q; exact hne (List.length_eq_zero_iff.1 q)
        simp [sliceT, Try.underlying67, sz_5, capK, hb, bnd, toN, hbn, ble_eq', beq_eq', blt_eq', hn, h0, hne]
    · have hlt : n < rest.length := by omega
      refine ⟨.sl id off n (.exact n), .sl id (off + n) (rest.length - n) (.opn 1), ?_, ?_, .inr (.inr ⟨id, off, _, b, by rw [bc_len, hlen], hid, hb, by rw [bc_len, hlen]; exact d1⟩),
        .inr (.inr ⟨id, off + n, b, by rw [List.length_drop], fun q => by have := congrArg List.length q; rw [List.length_drop] at this; simp at this; omega, hid, hb, by rw [List.length_drop]; omega, by rw [List.length_drop]; exact d2⟩), fun _ _ _ _ e => by rcases e with e | e <;> cases e <;> exact ⟨_, _, _, rfl⟩⟩
      · simp [sliceT, Try.underlying67, sz_5, capK, hb, bnd, toN, hbn, ble_eq', beq_eq', blt_eq', hn]
      · simp [sliceT, Try.underlying67, sz_5, capK, hb, bnd, toN, hbn, ble_eq', beq_eq', blt_eq', hn, hlt]

theorem BSl.but {h h' : H} {r : Nat} {v : CV} {cs : List CV} (B : BSl h v cs) (F : But h h' r) (hne : ∀ id off l c, v = .sl id off l c → id ≠ r) : BSl h' v cs := by
  rcases B with h1 | h1 | ⟨id, off, c, b, rfl, h2, h3, h4⟩
  · exact .inl h1
  · exact .inr (.inl h1)
  · exact .inr (.inr ⟨id, off, c, b, rfl, by rw [F.nx]; exact h2, (blk_eq (F.old id (hne _ _ _ _ rfl))).trans h3, h4⟩)
theorem RL.ext {h h' : H} {v : CV} {cs : List Nat} (B : RL h v cs) (F : Ext h h') : RL h' v cs := by
  rcases B with h1 | h1 | ⟨id, off, b, rfl, h2, h3, h4, h5⟩
  · exact .inl h1
  · exact .inr (.inl h1)
  · exact .inr (.inr ⟨id, off, b, rfl, h2, Nat.lt_of_lt_of_le h3 F.nx, (F.blk h3).trans h4, h5⟩)
theorem RL.but {h h' : H} {r : Nat} {v : CV} {cs : List Nat} (B : RL h v cs) (F : But h h' r) (hne : ∀ id off l c, v = .sl id off l c → id ≠ r) : RL h' v cs := by
  rcases B with h1 | h1 | ⟨id, off, b, rfl, h2, h3, h4, h5⟩
  · exact .inl h1
  · exact .inr (.inl h1)
  · exact .inr (.inr ⟨id, off, b, rfl, h2, by rw [F.nx]; exact h3, (blk_eq (F.old id (hne _ _ _ _ rfl))).trans h4, h5⟩)

def TakOk (h : H) (r lid : Nat) (rest : List Nat) (n : Nat) (o : Option (CV × Option H)) : Prop :=
  ∃ v h', o = some (.tup [v, .bool true], some h') ∧ BSl h' v (bc (rest.take n)) ∧ RdAt h' r lid (rest.drop n) ∧ But h h' r ∧ h'.low ≤ r ∧ h'.low ≤ h.low

set_option maxRecDepth 100000 in
theorem take_run (hσ : ∀ f a h, f ≠ 28 → σ f a h = none) {h : H} {r lid : Nat} {rest : List Nat} (R : RdAt h r lid rest) {n : Nat} (hn : n ≤ rest.length) :
    TakOk h r lid rest n ((lim Try.prog σ).call 64 [.ptr r 0, .int .i64 (Int.ofNat n)] h) := by
  obtain ⟨b, v, hb, hro, hbn, h0, h1, h2, RL, hne⟩ := R.blk
  have hlt := R.lt
  rw [call_eq (hσ _ _ _ (by decide)) fn_64 rfl rfl, Try.ntmps64, Try.results64]
  have c1 : ¬ Int.ofNat n < 0 := by simp
  have c2 : ¬ Int.ofNat n > Int.ofNat rest.length := by simp; omega
  obtain ⟨x, y, e1, e2, B, R2, hid⟩ := (RL.ext (Ext.lo h)).cut hn
  simp only [go_sem, Nat.reduceLT, Nat.reduceLeDiff, Nat.reduceEqDiff, Nat.reduceAdd, Nat.reduceSub, Nat.reduceMul, reduceCtorEq, Int.reduceBEq, Int.reduceLT, Int.reduceLE, Int.reduceAdd, Int.reduceSub, Int.reduceEq, Int.reduceNeg, Int.reduceToNat, Int.reduceGT, Int.reduceGE, hb, h0, h1, h2, hro, hbn, RL.len, c1, c2, e1, e2, R2.one]
  have F : But h.lo (h.lo.put r (.cells (b.st 0 y))) r := ⟨rfl, rfl, fun k hk => put_get_ne _ _ _ _ hk⟩
  rw [fin_l _ _ _ (by simp only [go_sem, Nat.reduceLT, Nat.reduceLeDiff, Nat.reduceEqDiff, Nat.reduceAdd, Nat.reduceSub, Nat.reduceMul, reduceCtorEq, Int.reduceBEq, Int.reduceLT, Int.reduceLE, Int.reduceAdd, Int.reduceSub, Int.reduceEq, Int.reduceNeg, Int.reduceToNat, Int.reduceGT, Int.reduceGE]; omega)]
  have hy : ∀ id off l c, y = .sl id off l c → id = lid ∧ id ≠ r := fun id off l c e => by
    obtain ⟨_, _, _, e'⟩ := hid _ _ _ _ (.inl e)
    exact hne _ _ _ _ e'
  have hx : ∀ id off l c, x = .sl id off l c → id ≠ r := fun id off l c e => by
    obtain ⟨_, _, _, e'⟩ := hid _ _ _ _ (.inr e)
    exact (hne _ _ _ _ e').2
  refine ⟨x, _, rfl, (B.but F hx).ext (Ext.up _ _), ⟨by simp only [go_sem, Nat.reduceLT, Nat.reduceLeDiff, Nat.reduceEqDiff, Nat.reduceAdd, Nat.reduceSub, Nat.reduceMul, reduceCtorEq, Int.reduceBEq, Int.reduceLT, Int.reduceLE, Int.reduceAdd, Int.reduceSub, Int.reduceEq, Int.reduceNeg, Int.reduceToNat, Int.reduceGT, Int.reduceGE]; exact hlt, _, y, put_blk_same _ _ _, by simp only [go_sem, Nat.reduceLT, Nat.reduceLeDiff, Nat.reduceEqDiff, Nat.reduceAdd, Nat.reduceSub, Nat.reduceMul, reduceCtorEq, Int.reduceBEq, Int.reduceLT, Int.reduceLE, Int.reduceAdd, Int.reduceSub, Int.reduceEq, Int.reduceNeg, Int.reduceToNat, Int.reduceGT, Int.reduceGE, hro], by simp only [go_sem, Nat.reduceLT, Nat.reduceLeDiff, Nat.reduceEqDiff, Nat.reduceAdd, Nat.reduceSub, Nat.reduceMul, reduceCtorEq, Int.reduceBEq, Int.reduceLT, Int.reduceLE, Int.reduceAdd, Int.reduceSub, Int.reduceEq, Int.reduceNeg, Int.reduceToNat, Int.reduceGT, Int.reduceGE, hbn], by simp only [go_sem, Nat.reduceLT, Nat.reduceLeDiff, Nat.reduceEqDiff, Nat.reduceAdd, Nat.reduceSub, Nat.reduceMul, reduceCtorEq, Int.reduceBEq, Int.reduceLT, Int.reduceLE, Int.reduceAdd, Int.reduceSub, Int.reduceEq, Int.reduceNeg, Int.reduceToNat, Int.reduceGT, Int.reduceGE, hbn], by simp only [go_sem, Nat.reduceLT, Nat.reduceLeDiff, Nat.reduceEqDiff, Nat.reduceAdd, Nat.reduceSub, Nat.reduceMul, reduceCtorEq, Int.reduceBEq, Int.reduceLT, Int.reduceLE, Int.reduceAdd, Int.reduceSub, Int.reduceEq, Int.reduceNeg, Int.reduceToNat, Int.reduceGT, Int.reduceGE, h1], by simp only [go_sem, Nat.reduceLT, Nat.reduceLeDiff, Nat.reduceEqDiff, Nat.reduceAdd, Nat.reduceSub, Nat.reduceMul, reduceCtorEq, Int.reduceBEq, Int.reduceLT, Int.reduceLE, Int.reduceAdd, Int.reduceSub, Int.reduceEq, Int.reduceNeg, Int.reduceToNat, Int.reduceGT, Int.reduceGE, h2], (R2.but F fun id off l c e => (hy id off l c e).2).ext (Ext.up _ _), hy⟩, ⟨rfl, rfl, fun k hk => put_get_ne _ _ _ _ hk⟩, by simp only [go_sem, Nat.reduceLT, Nat.reduceLeDiff, Nat.reduceEqDiff, Nat.reduceAdd, Nat.reduceSub, Nat.reduceMul, reduceCtorEq, Int.reduceBEq, Int.reduceLT, Int.reduceLE, Int.reduceAdd, Int.reduceSub, Int.reduceEq, Int.reduceNeg, Int.reduceToNat, Int.reduceGT, Int.reduceGE]; omega, by simp only [go_sem, Nat.reduceLT, Nat.reduceLeDiff, Nat.reduceEqDiff, Nat.reduceAdd, Nat.reduceSub, Nat.reduceMul, reduceCtorEq, Int.reduceBEq, Int.reduceLT, Int.reduceLE, Int.reduceAdd, Int.reduceSub, Int.reduceEq, Int.reduceNeg, Int.reduceToNat, Int.reduceGT, Int.reduceGE]; omega⟩

theorem BSl.at_ {h : H} {v : CV} {cs : List CV} (B : BSl h v cs) {i : Nat} {x : CV} (hx : nth cs i = some x) :
    ∃ id off b, (∀ kd, indexAddrT Try.prog 67 v (.int kd (Int.ofNat i)) = some (.ptr id off)) ∧ h.blk id = some b ∧ b.get off = some x ∧ id < h.nx := by
  have hi := nlt hx
  rcases B with ⟨rfl, _⟩ | ⟨rfl, _⟩ | ⟨id, off, c, b, rfl, h2, h3, h4⟩
  · simp at hi
  · simp at hi
  · refine ⟨id, off + i, b, fun kd => by rw [ia_67, blt_eq', decide_eq_true hi, cond_true, Nat.mul_one], h3, ?_, h2⟩
    rw [(loadN_spec h4).2 i hi, ← hx, nth_eq]

def valB (xs : List Nat) : Nat := xs.foldl (fun a b => a * 256 + b) 0
theorem valB_app (xs : List Nat) (b : Nat) : valB (xs ++ [b]) = valB xs * 256 + b := by simp [valB]
theorem valB_lt : ∀ (k : Nat) (xs : List Nat), xs.length = k → (∀ b ∈ xs, b < 256) → valB xs < 256 ^ k
  | 0, xs, hl, _ => by rw [List.length_eq_zero_iff.1 hl]; decide
  | k + 1, xs, hl, h => by
    have hne : xs ≠ [] := fun q => by rw [q] at hl; simp at hl
    have e := List.dropLast_concat_getLast hne
    have h1 := valB_lt k xs.dropLast (by simp [hl]) fun b hb => h b ((List.dropLast_sublist xs).subset hb)
    have h2 := h _ (List.getLast_mem hne)
    rw [← e, valB_app, Nat.pow_succ]
    omega
theorem bin_or {P : Program} {t xo yo} {a b : Nat} (ha : a < 18446744073709551616) (hb : b < 18446744073709551616) : binT P .or t xo yo (.int .u64 (Int.ofNat a)) (.int .u64 (Int.ofNat b)) = some (.int .u64 (Int.ofNat (a ||| b))) := by
  have : binT P .or t xo yo (.int .u64 (Int.ofNat a)) (.int .u64 (Int.ofNat b)) = some (.int .u64 (IntKind.wrap .u64 (BitVec.ofInt 64 (Int.ofNat a) ||| BitVec.ofInt 64 (Int.ofNat b)).toNat)) := rfl
  rw [this, show ((BitVec.ofInt 64 (Int.ofNat a) ||| BitVec.ofInt 64 (Int.ofNat b)).toNat : Int) = Int.ofNat (a ||| b) from ?_, wrap_u64 (Nat.or_lt_two_pow (n := 64) ha hb)]
  rw [BitVec.toNat_or]
  simp
  rw [Nat.mod_eq_of_lt ha, Nat.mod_eq_of_lt hb]
theorem bin_shl8 {P : Program} (t xo yo k a k') : binT P .shl t xo yo (.int k a) (.int k' 8) = some (.int k (k.wrap (a * 2 ^ (min 8 k.bits)))) := rfl
theorem or_add {a b : Nat} (hb : b < 256) : a * 256 ||| b = a * 256 + b := by
  have := Nat.two_pow_add_eq_or_of_lt (i := 8) (b := b) hb a
  rw [Nat.mul_comm a 256]; exact this.symm

def NumR (h : H) (r lid : Nat) (rest : List Nat) (n : Nat) (o : Option (CV × Option H)) : Prop :=
  ∃ h', o = some (.int .u64 (Int.ofNat (valB (rest.take n))), some h') ∧ RdAt h' r lid (rest.drop n) ∧ But h h' r ∧ h'.low ≤ r ∧ h'.low ≤ h.low

set_option maxRecDepth 100000 in
theorem rnumber_run (hσ : ∀ f a h, f ≠ 28 → σ f a h = none) {h : H} {r lid : Nat} {rest : List Nat} (R : RdAt h r lid rest) {n : Nat} (hn : n ≤ rest.length) (hs : sizeOk (Int.ofNat n) = true) (hby : ∀ b ∈ rest, b < 256) :
    NumR h r lid rest n ((lim Try.prog σ).call 36 [.ptr r 0, .int .i64 (Int.ofNat n)] h) := by
  have hw := wsize_run hσ h.lo (Int.ofNat n)
  have hw : (lim Try.prog σ).call 62 [.int .i64 (Int.ofNat n)] h.lo = some (.bool true, none) := hw.trans (by rw [show decide (Int.ofNat n = 1 ∨ Int.ofNat n = 2 ∨ Int.ofNat n = 4 ∨ Int.ofNat n = 8) = true from hs])
  have hn8 : n ≤ 8 := by
    have : Int.ofNat n = 1 ∨ Int.ofNat n = 2 ∨ Int.ofNat n = 4 ∨ Int.ofNat n = 8 := of_decide_eq_true hs
    simp at this; omega
  have R0 : RdAt h.lo r lid rest := by
    obtain ⟨b, v, hb, hro, hbn, h0, h1, h2, RL, hne⟩ := R.blk
    exact ⟨R.lt, b, v, hb, hro, hbn, h0, h1, h2, RL.ext (Ext.lo h), hne⟩
  obtain ⟨v, h1, e, B, R1, F, hlow, hlow2⟩ := take_run hσ R0 hn
  have hlt := R.lt
  have hlen : (rest.take n).length = n := by rw [List.length_take]; omega
  have hvl : ∀ h', builtinT Try.prog h' .len [67] [v] = some (.val (.int .i64 (Int.ofNat n))) := fun h' => by rw [B.len, bc_len, hlen]
  rw [call_eq (hσ _ _ _ (by decide)) fn_36 rfl rfl, Try.ntmps36, Try.results36]
  simp only [go_sem, Nat.reduceLT, Nat.reduceLeDiff, Nat.reduceEqDiff, Nat.reduceAdd, Nat.reduceSub, Nat.reduceMul, reduceCtorEq, Int.reduceBEq, Int.reduceLT, Int.reduceLE, Int.reduceAdd, Int.reduceSub, Int.reduceEq, Int.reduceNeg, Int.reduceToNat, Int.reduceGT, Int.reduceGE, hw, e, hvl]
  refine loop_ind (Q := NumR h r lid rest n) (fun i env h' => evT env 7 = .int .u64 (Int.ofNat (valB ((rest.take n).take i))) ∧ evT env 21 = v ∧ evT env 22 = .int .i64 (Int.ofNat n) ∧ evT env 23 = .int .i64 (Int.ofNat i) ∧ h' = h1) n 0 ?_ (Nat.zero_le _) ?_ ?_
  · refine ⟨by simp only [go_sem, Nat.reduceLT, Nat.reduceLeDiff, Nat.reduceEqDiff, Nat.reduceAdd, Nat.reduceSub, Nat.reduceMul, reduceCtorEq, Int.reduceBEq, Int.reduceLT, Int.reduceLE, Int.reduceAdd, Int.reduceSub, Int.reduceEq, Int.reduceNeg, Int.reduceToNat, Int.reduceGT, Int.reduceGE]; rfl, by simp only [go_sem, Nat.reduceLT, Nat.reduceLeDiff, Nat.reduceEqDiff, Nat.reduceAdd, Nat.reduceSub, Nat.reduceMul, reduceCtorEq, Int.reduceBEq, Int.reduceLT, Int.reduceLE, Int.reduceAdd, Int.reduceSub, Int.reduceEq, Int.reduceNeg, Int.reduceToNat, Int.reduceGT, Int.reduceGE], by simp only [go_sem, Nat.reduceLT, Nat.reduceLeDiff, Nat.reduceEqDiff, Nat.reduceAdd, Nat.reduceSub, Nat.reduceMul, reduceCtorEq, Int.reduceBEq, Int.reduceLT, Int.reduceLE, Int.reduceAdd, Int.reduceSub, Int.reduceEq, Int.reduceNeg, Int.reduceToNat, Int.reduceGT, Int.reduceGE], by simp only [go_sem, Nat.reduceLT, Nat.reduceLeDiff, Nat.reduceEqDiff, Nat.reduceAdd, Nat.reduceSub, Nat.reduceMul, reduceCtorEq, Int.reduceBEq, Int.reduceLT, Int.reduceLE, Int.reduceAdd, Int.reduceSub, Int.reduceEq, Int.reduceNeg, Int.reduceToNat, Int.reduceGT, Int.reduceGE]; rfl, by simp only [go_sem, Nat.reduceLT, Nat.reduceLeDiff, Nat.reduceEqDiff, Nat.reduceAdd, Nat.reduceSub, Nat.reduceMul, reduceCtorEq, Int.reduceBEq, Int.reduceLT, Int.reduceLE, Int.reduceAdd, Int.reduceSub, Int.reduceEq, Int.reduceNeg, Int.reduceToNat, Int.reduceGT, Int.reduceGE]⟩
  · rintro i env h' ⟨e7, e21, e22, e23, rfl⟩ hi next
    obtain ⟨x, hx⟩ : ∃ x, (rest.take n)[i]? = some x := ⟨_, List.getElem?_eq_getElem (by omega)⟩
    have hx' : nth (bc (rest.take n)) i = some (.int .u8 (Int.ofNat x)) := by rw [nth_eq]; unfold bc; rw [List.getElem?_map, hx]; rfl
    obtain ⟨id, off, b, hix, hb, hg, _⟩ := B.at_ hx'
    have hxm : x ∈ rest := List.mem_of_mem_take (List.mem_of_getElem? hx)
    have hx256 := hby x hxm
    have hlt2 := ofNat_lt hi
    have hw2 : IntKind.wrap .i64 (Int.ofNat i + 1) = Int.ofNat (i + 1) := wrap_succ (by omega)
    have hv0 : valB ((rest.take n).take i) < 256 ^ i := valB_lt i _ (by rw [List.length_take, hlen]; omega) fun b hb => hby b (List.mem_of_mem_take (List.mem_of_mem_take hb))
    have hv1 : 256 ^ i * 256 ≤ 18446744073709551616 := by
      rw [← Nat.pow_succ]
      exact Nat.pow_le_pow_right (by decide) (show i + 1 ≤ 8 by omega)
    have hs1 : IntKind.wrap .u64 (Int.ofNat (valB ((rest.take n).take i)) * 2 ^ min 8 64) = Int.ofNat (valB ((rest.take n).take i) * 256) := by
      have : (Int.ofNat (valB ((rest.take n).take i)) * 2 ^ min 8 64 : Int) = Int.ofNat (valB ((rest.take n).take i) * 256) := by
        show _ * (2 ^ 8 : Int) = _
        simp
      rw [this]
      exact wrap_u64 (by omega)
    have hs2 : IntKind.wrap .u64 (Int.ofNat x) = Int.ofNat x := wrap_u64 (by omega)
    have htk : (rest.take n).take (i + 1) = (rest.take n).take i ++ [x] := by rw [List.take_add_one, hx]; rfl
    have hor := fun t xo yo => bin_or (P := Try.prog) (t := t) (xo := xo) (yo := yo) (show valB ((rest.take n).take i) * 256 < 18446744073709551616 by omega) (show x < 18446744073709551616 by omega)
    simp only [go_sem, Nat.reduceLT, Nat.reduceLeDiff, Nat.reduceEqDiff, Nat.reduceAdd, Nat.reduceSub, Nat.reduceMul, reduceCtorEq, Int.reduceBEq, Int.reduceLT, Int.reduceLE, Int.reduceAdd, Int.reduceSub, Int.reduceEq, Int.reduceNeg, Int.reduceToNat, Int.reduceGT, Int.reduceGE, e7, e21, e22, e23, hlt2, hix, hb, hg, bin_shl8, hs1, hs2, hor, or_add hx256, hw2]
    exact next _ _ ⟨by simp only [go_sem, Nat.reduceLT, Nat.reduceLeDiff, Nat.reduceEqDiff, Nat.reduceAdd, Nat.reduceSub, Nat.reduceMul, reduceCtorEq, Int.reduceBEq, Int.reduceLT, Int.reduceLE, Int.reduceAdd, Int.reduceSub, Int.reduceEq, Int.reduceNeg, Int.reduceToNat, Int.reduceGT, Int.reduceGE, htk, valB_app], by simp only [go_sem, Nat.reduceLT, Nat.reduceLeDiff, Nat.reduceEqDiff, Nat.reduceAdd, Nat.reduceSub, Nat.reduceMul, reduceCtorEq, Int.reduceBEq, Int.reduceLT, Int.reduceLE, Int.reduceAdd, Int.reduceSub, Int.reduceEq, Int.reduceNeg, Int.reduceToNat, Int.reduceGT, Int.reduceGE, e21], by simp only [go_sem, Nat.reduceLT, Nat.reduceLeDiff, Nat.reduceEqDiff, Nat.reduceAdd, Nat.reduceSub, Nat.reduceMul, reduceCtorEq, Int.reduceBEq, Int.reduceLT, Int.reduceLE, Int.reduceAdd, Int.reduceSub, Int.reduceEq, Int.reduceNeg, Int.reduceToNat, Int.reduceGT, Int.reduceGE, e22], by simp only [go_sem, Nat.reduceLT, Nat.reduceLeDiff, Nat.reduceEqDiff, Nat.reduceAdd, Nat.reduceSub, Nat.reduceMul, reduceCtorEq, Int.reduceBEq, Int.reduceLT, Int.reduceLE, Int.reduceAdd, Int.reduceSub, Int.reduceEq, Int.reduceNeg, Int.reduceToNat, Int.reduceGT, Int.reduceGE], by simp only [go_sem, Nat.reduceLT, Nat.reduceLeDiff, Nat.reduceEqDiff, Nat.reduceAdd, Nat.reduceSub, Nat.reduceMul, reduceCtorEq, Int.reduceBEq, Int.reduceLT, Int.reduceLE, Int.reduceAdd, Int.reduceSub, Int.reduceEq, Int.reduceNeg, Int.reduceToNat, Int.reduceGT, Int.reduceGE]⟩
  · rintro env h' ⟨e7, e21, e22, e23, rfl⟩
    have hlt2 := ofNat_nlt (Nat.le_refl n)
    rw [show (rest.take n).take n = rest.take n by rw [List.take_take]; simp] at e7
    simp only [go_sem, Nat.reduceLT, Nat.reduceLeDiff, Nat.reduceEqDiff, Nat.reduceAdd, Nat.reduceSub, Nat.reduceMul, reduceCtorEq, Int.reduceBEq, Int.reduceLT, Int.reduceLE, Int.reduceAdd, Int.reduceSub, Int.reduceEq, Int.reduceNeg, Int.reduceToNat, Int.reduceGT, Int.reduceGE, e7, e21, e22, e23, hlt2]
    rw [fin_l _ _ _ (by omega)]
    exact ⟨_, rfl, ⟨R1.lt, R1.blk⟩, ⟨F.nx, F.gn, F.old⟩, by simp only [go_sem, Nat.reduceLT, Nat.reduceLeDiff, Nat.reduceEqDiff, Nat.reduceAdd, Nat.reduceSub, Nat.reduceMul, reduceCtorEq, Int.reduceBEq, Int.reduceLT, Int.reduceLE, Int.reduceAdd, Int.reduceSub, Int.reduceEq, Int.reduceNeg, Int.reduceToNat, Int.reduceGT, Int.reduceGE]; omega, by simp only [go_sem, Nat.reduceLT, Nat.reduceLeDiff, Nat.reduceEqDiff, Nat.reduceAdd, Nat.reduceSub, Nat.reduceMul, reduceCtorEq, Int.reduceBEq, Int.reduceLT, Int.reduceLE, Int.reduceAdd, Int.reduceSub, Int.reduceEq, Int.reduceNeg, Int.reduceToNat, Int.reduceGT, Int.reduceGE]; omega⟩

theorem RdAt.lo {h : H} {r lid : Nat} {rest : List Nat} (R : RdAt h r lid rest) : RdAt h.lo r lid rest := by
  obtain ⟨b, v, hb, hro, hbn, h0, h1, h2, RL, hne⟩ := R.blk
  exact ⟨R.lt, b, v, hb, hro, hbn, h0, h1, h2, RL.ext (Ext.lo h), hne⟩
theorem RdAt.ext {h h' : H} {r lid : Nat} {rest : List Nat} (R : RdAt h r lid rest) (E : Ext h h') : RdAt h' r lid rest := by
  obtain ⟨b, v, hb, hro, hbn, h0, h1, h2, RL, hne⟩ := R.blk
  exact ⟨Nat.lt_of_lt_of_le R.lt E.nx, b, v, (E.blk R.lt).trans hb, hro, hbn, h0, h1, h2, RL.ext E, hne⟩
theorem But.up {h h' : H} {r : Nat} (F : But h h' r) (m : Nat) : But h (h'.up m) r := ⟨F.nx, F.gn, F.old⟩
theorem But.unlo {h h' : H} {r : Nat} (F : But h.lo h' r) : But h h' r := ⟨F.nx, F.gn, F.old⟩

def FlagR (h : H) (r lid : Nat) (rest : List Nat) (b : Bool) (o : Option (CV × Option H)) : Prop :=
  ∃ h', o = some (.bool b, some h') ∧ RdAt h' r lid (rest.drop 1) ∧ But h h' r ∧ h'.low ≤ r ∧ h'.low ≤ h.low
theorem rflagr_run (hσ : ∀ f a h, f ≠ 28 → σ f a h = none) {h : H} {r lid : Nat} {rest : List Nat} (R : RdAt h r lid rest) (b : Bool) (more : List Nat) (hr : rest = (if b then 1 else 0) :: more) (hby : ∀ b ∈ rest, b < 256) :
    FlagR h r lid rest b ((lim Try.prog σ).call 37 [.ptr r 0] h) := by
  obtain ⟨h1, e, R1, F, hlow, hlow2⟩ := rnumber_run hσ R.lo (n := 1) (by rw [hr]; simp) rfl hby
  have hlt := R.lt
  rw [call_eq (hσ _ _ _ (by decide)) fn_37 rfl rfl, Try.ntmps37, Try.results37]
  cases b
  · have e : (lim Try.prog σ).call 36 [.ptr r 0, .int .i64 1] h.lo = some (.int .u64 0, some h1) := by rw [show (.int .u64 0 : CV) = .int .u64 (Int.ofNat (valB (rest.take 1))) by rw [hr]; rfl]; exact e
    simp only [go_sem, Nat.reduceLT, Nat.reduceLeDiff, Nat.reduceEqDiff, Nat.reduceAdd, Nat.reduceSub, Nat.reduceMul, reduceCtorEq, Int.reduceBEq, Int.reduceLT, Int.reduceLE, Int.reduceAdd, Int.reduceSub, Int.reduceEq, Int.reduceNeg, Int.reduceToNat, Int.reduceGT, Int.reduceGE, e]
    rw [fin_l _ _ _ (by omega)]
    exact ⟨_, rfl, R1.ext (Ext.up _ _), F.unlo.up _, by simp only [go_sem, Nat.reduceLT, Nat.reduceLeDiff, Nat.reduceEqDiff, Nat.reduceAdd, Nat.reduceSub, Nat.reduceMul, reduceCtorEq, Int.reduceBEq, Int.reduceLT, Int.reduceLE, Int.reduceAdd, Int.reduceSub, Int.reduceEq, Int.reduceNeg, Int.reduceToNat, Int.reduceGT, Int.reduceGE]; omega, by simp only [go_sem, Nat.reduceLT, Nat.reduceLeDiff, Nat.reduceEqDiff, Nat.reduceAdd, Nat.reduceSub, Nat.reduceMul, reduceCtorEq, Int.reduceBEq, Int.reduceLT, Int.reduceLE, Int.reduceAdd, Int.reduceSub, Int.reduceEq, Int.reduceNeg, Int.reduceToNat, Int.reduceGT, Int.reduceGE]; omega⟩
  · have e : (lim Try.prog σ).call 36 [.ptr r 0, .int .i64 1] h.lo = some (.int .u64 1, some h1) := by rw [show (.int .u64 1 : CV) = .int .u64 (Int.ofNat (valB (rest.take 1))) by rw [hr]; rfl]; exact e
    simp only [go_sem, Nat.reduceLT, Nat.reduceLeDiff, Nat.reduceEqDiff, Nat.reduceAdd, Nat.reduceSub, Nat.reduceMul, reduceCtorEq, Int.reduceBEq, Int.reduceLT, Int.reduceLE, Int.reduceAdd, Int.reduceSub, Int.reduceEq, Int.reduceNeg, Int.reduceToNat, Int.reduceGT, Int.reduceGE, e]
    rw [fin_l _ _ _ (by omega)]
    exact ⟨_, rfl, R1.ext (Ext.up _ _), F.unlo.up _, by simp only [go_sem, Nat.reduceLT, Nat.reduceLeDiff, Nat.reduceEqDiff, Nat.reduceAdd, Nat.reduceSub, Nat.reduceMul, reduceCtorEq, Int.reduceBEq, Int.reduceLT, Int.reduceLE, Int.reduceAdd, Int.reduceSub, Int.reduceEq, Int.reduceNeg, Int.reduceToNat, Int.reduceGT, Int.reduceGE]; omega, by simp only [go_sem, Nat.reduceLT, Nat.reduceLeDiff, Nat.reduceEqDiff, Nat.reduceAdd, Nat.reduceSub, Nat.reduceMul, reduceCtorEq, Int.reduceBEq, Int.reduceLT, Int.reduceLE, Int.reduceAdd, Int.reduceSub, Int.reduceEq, Int.reduceNeg, Int.reduceToNat, Int.reduceGT, Int.reduceGE]; omega⟩

def BytR (h : H) (r lid : Nat) (rest : List Nat) (n : Nat) (o : Option (CV × Option H)) : Prop :=
  ∃ v h', o = some (v, some h') ∧ BSl h' v (bc (rest.take n)) ∧ RdAt h' r lid (rest.drop n) ∧ h.nx ≤ h'.nx ∧ h'.gn = h.gn ∧ (∀ k, k < h.nx → k ≠ r → h'.t.get k = h.t.get k) ∧ h'.low ≤ r ∧ h'.low ≤ h.low
theorem rbytes_run (hσ : ∀ f a h, f ≠ 28 → σ f a h = none) {h : H} {r lid : Nat} {rest : List Nat} (R : RdAt h r lid rest) {n : Nat} (hn : n ≤ rest.length) (room : n ≤ 1000000) :
    BytR h r lid rest n ((lim Try.prog σ).call 38 [.ptr r 0, .int .i64 (Int.ofNat n)] h) := by
  obtain ⟨v, h1, e, B, R1, F, hlow, hlow2⟩ := take_run hσ R.lo hn
  have hlt := R.lt
  have hlen : (rest.take n).length = n := by rw [List.length_take]; omega
  rw [call_eq (hσ _ _ _ (by decide)) fn_38 rfl rfl, Try.ntmps38, Try.results38]
  simp only [go_sem, Nat.reduceLT, Nat.reduceLeDiff, Nat.reduceEqDiff, Nat.reduceAdd, Nat.reduceSub, Nat.reduceMul, reduceCtorEq, Int.reduceBEq, Int.reduceLT, Int.reduceLE, Int.reduceAdd, Int.reduceSub, Int.reduceEq, Int.reduceNeg, Int.reduceToNat, Int.reduceGT, Int.reduceGE, e]
  refine copy_of (Q := BytR h r lid rest n) B (bc_one _) (by rw [bc_len]; omega) ?_
  intro s' h2 E B2 hne hnil hl2
  simp only [go_sem, Nat.reduceLT, Nat.reduceLeDiff, Nat.reduceEqDiff, Nat.reduceAdd, Nat.reduceSub, Nat.reduceMul, reduceCtorEq, Int.reduceBEq, Int.reduceLT, Int.reduceLE, Int.reduceAdd, Int.reduceSub, Int.reduceEq, Int.reduceNeg, Int.reduceToNat, Int.reduceGT, Int.reduceGE]
  have hE := E.nx
  have hF := F.nx
  rw [lo_nx] at hF
  rw [fin_l _ _ _ (by omega)]
  exact ⟨_, _, rfl, B2.ext (Ext.up _ _), (R1.ext E).ext (Ext.up _ _), by simp only [go_sem, Nat.reduceLT, Nat.reduceLeDiff, Nat.reduceEqDiff, Nat.reduceAdd, Nat.reduceSub, Nat.reduceMul, reduceCtorEq, Int.reduceBEq, Int.reduceLT, Int.reduceLE, Int.reduceAdd, Int.reduceSub, Int.reduceEq, Int.reduceNeg, Int.reduceToNat, Int.reduceGT, Int.reduceGE]; omega, by simp only [go_sem, Nat.reduceLT, Nat.reduceLeDiff, Nat.reduceEqDiff, Nat.reduceAdd, Nat.reduceSub, Nat.reduceMul, reduceCtorEq, Int.reduceBEq, Int.reduceLT, Int.reduceLE, Int.reduceAdd, Int.reduceSub, Int.reduceEq, Int.reduceNeg, Int.reduceToNat, Int.reduceGT, Int.reduceGE]; exact E.gn.trans F.gn, fun k k1 k2 => by
    show h2.t.get k = _
    rw [E.old k (by omega), F.old k k2]; rfl, by simp only [go_sem, Nat.reduceLT, Nat.reduceLeDiff, Nat.reduceEqDiff, Nat.reduceAdd, Nat.reduceSub, Nat.reduceMul, reduceCtorEq, Int.reduceBEq, Int.reduceLT, Int.reduceLE, Int.reduceAdd, Int.reduceSub, Int.reduceEq, Int.reduceNeg, Int.reduceToNat, Int.reduceGT, Int.reduceGE]; omega, by simp only [go_sem, Nat.reduceLT, Nat.reduceLeDiff, Nat.reduceEqDiff, Nat.reduceAdd, Nat.reduceSub, Nat.reduceMul, reduceCtorEq, Int.reduceBEq, Int.reduceLT, Int.reduceLE, Int.reduceAdd, Int.reduceSub, Int.reduceEq, Int.reduceNeg, Int.reduceToNat, Int.reduceGT, Int.reduceGE]; omega⟩

theorem val_be2 {n : Nat} (h : n < 65536) : valB (be n 2) = n := by
  simp [valB, be, dig, List.range_succ]
  omega

def BlobR (h : H) (r lid : Nat) (xs more : List Nat) (o : Option (CV × Option H)) : Prop :=
  ∃ v h', o = some (v, some h') ∧ BSl h' v (bc xs) ∧ RdAt h' r lid more ∧ h.nx ≤ h'.nx ∧ h'.gn = h.gn ∧ (∀ k, k < h.nx → k ≠ r → h'.t.get k = h.t.get k) ∧ h'.low ≤ r ∧ h'.low ≤ h.low
theorem rblobr_run (hσ : ∀ f a h, f ≠ 28 → σ f a h = none) {h : H} {r lid : Nat} {xs more : List Nat} (R : RdAt h r lid (be xs.length 2 ++ xs ++ more)) (hx : xs.length ≤ 20000) (hby : ∀ b ∈ be xs.length 2 ++ xs ++ more, b < 256) :
    BlobR h r lid xs more ((lim Try.prog σ).call 39 [.ptr r 0] h) := by
  obtain ⟨h1, e, R1, F, hlow, hlow2⟩ := rnumber_run hσ R.lo (n := 2) (by simp [be_len]) rfl hby
  have ht : (be xs.length 2 ++ xs ++ more).take 2 = be xs.length 2 := by
    rw [List.append_assoc, List.take_append_of_le_length (by rw [be_len]; omega), List.take_of_length_le (by rw [be_len]; omega)]
  have hd : (be xs.length 2 ++ xs ++ more).drop 2 = xs ++ more := by
    rw [List.append_assoc, List.drop_append_of_le_length (by rw [be_len]; omega), List.drop_of_length_le (by rw [be_len]; omega), List.nil_append]
  rw [hd] at R1
  rw [ht, val_be2 (by omega)] at e
  have e : (lim Try.prog σ).call 36 [.ptr r 0, .int .i64 2] h.lo = some (.int .u64 (Int.ofNat xs.length), some h1) := e
  obtain ⟨v, h2, e2, B2, R2, n2, g2, o2, l2, l2'⟩ := rbytes_run hσ R1 (n := xs.length) (by simp) (by omega)
  have hlt := R.lt
  have hF := F.nx
  rw [lo_nx] at hF
  have hw : IntKind.wrap .i64 (Int.ofNat xs.length) = Int.ofNat xs.length := wrap_i64 (by simp) (by simp; omega)
  rw [call_eq (hσ _ _ _ (by decide)) fn_39 rfl rfl, Try.ntmps39, Try.results39]
  simp only [go_sem, Nat.reduceLT, Nat.reduceLeDiff, Nat.reduceEqDiff, Nat.reduceAdd, Nat.reduceSub, Nat.reduceMul, reduceCtorEq, Int.reduceBEq, Int.reduceLT, Int.reduceLE, Int.reduceAdd, Int.reduceSub, Int.reduceEq, Int.reduceNeg, Int.reduceToNat, Int.reduceGT, Int.reduceGE, e, hw, e2]
  rw [fin_l _ _ _ (by omega)]
  rw [show (xs ++ more).take xs.length = xs by simp] at B2
  rw [show (xs ++ more).drop xs.length = more by simp] at R2
  exact ⟨_, _, rfl, B2.ext (Ext.up _ _), R2.ext (Ext.up _ _), by simp only [go_sem, Nat.reduceLT, Nat.reduceLeDiff, Nat.reduceEqDiff, Nat.reduceAdd, Nat.reduceSub, Nat.reduceMul, reduceCtorEq, Int.reduceBEq, Int.reduceLT, Int.reduceLE, Int.reduceAdd, Int.reduceSub, Int.reduceEq, Int.reduceNeg, Int.reduceToNat, Int.reduceGT, Int.reduceGE]; omega, by simp only [go_sem, Nat.reduceLT, Nat.reduceLeDiff, Nat.reduceEqDiff, Nat.reduceAdd, Nat.reduceSub, Nat.reduceMul, reduceCtorEq, Int.reduceBEq, Int.reduceLT, Int.reduceLE, Int.reduceAdd, Int.reduceSub, Int.reduceEq, Int.reduceNeg, Int.reduceToNat, Int.reduceGT, Int.reduceGE]; exact g2.trans F.gn, fun k k1 k2 => by
    show h2.t.get k = _
    rw [o2 k (by omega) k2, F.old k k2]; rfl, by simp only [go_sem, Nat.reduceLT, Nat.reduceLeDiff, Nat.reduceEqDiff, Nat.reduceAdd, Nat.reduceSub, Nat.reduceMul, reduceCtorEq, Int.reduceBEq, Int.reduceLT, Int.reduceLE, Int.reduceAdd, Int.reduceSub, Int.reduceEq, Int.reduceNeg, Int.reduceToNat, Int.reduceGT, Int.reduceGE]; omega, by simp only [go_sem, Nat.reduceLT, Nat.reduceLeDiff, Nat.reduceEqDiff, Nat.reduceAdd, Nat.reduceSub, Nat.reduceMul, reduceCtorEq, Int.reduceBEq, Int.reduceLT, Int.reduceLE, Int.reduceAdd, Int.reduceSub, Int.reduceEq, Int.reduceNeg, Int.reduceToNat, Int.reduceGT, Int.reduceGE]; omega⟩

def CountR (h : H) (r lid : Nat) (x : Nat) (more : List Nat) (o : Option (CV × Option H)) : Prop :=
  ∃ h', o = some (.int .i64 (Int.ofNat x), some h') ∧ RdAt h' r lid more ∧ But h h' r ∧ h'.low ≤ r ∧ h'.low ≤ h.low
theorem rcount_run (hσ : ∀ f a h, f ≠ 28 → σ f a h = none) {h : H} {r lid : Nat} {x : Nat} {more : List Nat} (R : RdAt h r lid (x :: more)) (hby : ∀ b ∈ x :: more, b < 256) :
    CountR h r lid x more ((lim Try.prog σ).call 40 [.ptr r 0] h) := by
  obtain ⟨h1, e, R1, F, hlow, hlow2⟩ := rnumber_run hσ R.lo (n := 1) (by simp) rfl hby
  have e : (lim Try.prog σ).call 36 [.ptr r 0, .int .i64 1] h.lo = some (.int .u64 (Int.ofNat x), some h1) := by
    have q : valB ((x :: more).take 1) = x := by simp [valB]
    rw [q] at e; exact e
  have hx := hby x List.mem_cons_self
  have hlt := R.lt
  have hw : IntKind.wrap .i64 (Int.ofNat x) = Int.ofNat x := wrap_i64 (by simp) (by simp; omega)
  rw [call_eq (hσ _ _ _ (by decide)) fn_40 rfl rfl, Try.ntmps40, Try.results40]
  simp only [go_sem, Nat.reduceLT, Nat.reduceLeDiff, Nat.reduceEqDiff, Nat.reduceAdd, Nat.reduceSub, Nat.reduceMul, reduceCtorEq, Int.reduceBEq, Int.reduceLT, Int.reduceLE, Int.reduceAdd, Int.reduceSub, Int.reduceEq, Int.reduceNeg, Int.reduceToNat, Int.reduceGT, Int.reduceGE, e, hw]
  rw [fin_l _ _ _ (by omega)]
  exact ⟨_, rfl, R1.ext (Ext.up _ _), F.unlo.up _, by simp only [go_sem, Nat.reduceLT, Nat.reduceLeDiff, Nat.reduceEqDiff, Nat.reduceAdd, Nat.reduceSub, Nat.reduceMul, reduceCtorEq, Int.reduceBEq, Int.reduceLT, Int.reduceLE, Int.reduceAdd, Int.reduceSub, Int.reduceEq, Int.reduceNeg, Int.reduceToNat, Int.reduceGT, Int.reduceGE]; omega, by simp only [go_sem, Nat.reduceLT, Nat.reduceLeDiff, Nat.reduceEqDiff, Nat.reduceAdd, Nat.reduceSub, Nat.reduceMul, reduceCtorEq, Int.reduceBEq, Int.reduceLT, Int.reduceLE, Int.reduceAdd, Int.reduceSub, Int.reduceEq, Int.reduceNeg, Int.reduceToNat, Int.reduceGT, Int.reduceGE]; omega⟩

def BlockR (h : H) (r lid : Nat) (xs more : List Nat) (o : Option (CV × Option H)) : Prop :=
  ∃ h', o = some (.agg (bc xs), some h') ∧ RdAt h' r lid more ∧ h.nx ≤ h'.nx ∧ h'.gn = h.gn ∧ (∀ k, k < h.nx → k ≠ r → h'.t.get k = h.t.get k) ∧ h'.low ≤ r ∧ h'.low ≤ h.low
theorem rblock_run (hσ : ∀ f a h, f ≠ 28 → σ f a h = none) {h : H} {r lid : Nat} {xs more : List Nat} (R : RdAt h r lid (xs ++ more)) (hlid : lid < h.nx) (hx : xs.length = 256) :
    BlockR h r lid xs more ((lim Try.prog σ).call 41 [.ptr r 0] h) := by
  rw [call_eq (hσ _ _ _ (by decide)) fn_41 rfl rfl, Try.ntmps41, Try.results41]
  simp only [go_sem, Nat.reduceLT, Nat.reduceLeDiff, Nat.reduceEqDiff, Nat.reduceAdd, Nat.reduceSub, Nat.reduceMul, reduceCtorEq, Int.reduceBEq, Int.reduceLT, Int.reduceLE, Int.reduceAdd, Int.reduceSub, Int.reduceEq, Int.reduceNeg, Int.reduceToNat, Int.reduceGT, Int.reduceGE, ze_85, rep_one]
  obtain ⟨zb, hzb⟩ : ∃ zb, zb = newBlk (List.replicate 256 (CV.int .u8 0)) := ⟨_, rfl⟩
  have hzn : zb.n = 256 := by rw [hzb, wnewBlk_n, List.length_replicate]
  have hzr : zb.ro = false := by rw [hzb, newBlk_ro]
  rw [← hzb]
  clear hzb
  have E0 : Ext h ((h.lo.alloc (.cells zb)).alloc (.cells zb)) := ((Ext.lo h).alloc' _).alloc' _
  obtain ⟨v, h1, e, B, R1, F, hlow, hlow2⟩ := take_run hσ (R.ext E0) (n := 256) (by simp; omega)
  have e : (lim Try.prog σ).call 64 [.ptr r 0, .int .i64 256] ((h.lo.alloc (.cells zb)).alloc (.cells zb)) = some (.tup [v, .bool true], some h1) := e
  simp only [go_sem, Nat.reduceLT, Nat.reduceLeDiff, Nat.reduceEqDiff, Nat.reduceAdd, Nat.reduceSub, Nat.reduceMul, reduceCtorEq, Int.reduceBEq, Int.reduceLT, Int.reduceLE, Int.reduceAdd, Int.reduceSub, Int.reduceEq, Int.reduceNeg, Int.reduceToNat, Int.reduceGT, Int.reduceGE, e, sl_85]
  have hF := F.nx
  simp only [go_sem, Nat.reduceLT, Nat.reduceLeDiff, Nat.reduceEqDiff, Nat.reduceAdd, Nat.reduceSub, Nat.reduceMul, reduceCtorEq, Int.reduceBEq, Int.reduceLT, Int.reduceLE, Int.reduceAdd, Int.reduceSub, Int.reduceEq, Int.reduceNeg, Int.reduceToNat, Int.reduceGT, Int.reduceGE] at hF hlow2
  have hlt := R.lt
  refine copy_of' (Q := BlockR h r lid xs more) (b := zb) B (bc_one _) ((blk_eq (F.old (h.nx + 1) (by omega))).trans (alloc_blk_same _ _ _ (by rw [alloc_nx, lo_nx]))) hzr hzn ?_
  intro b' hn' hr' hg'
  have ht : (xs ++ more).take 256 = xs := by rw [List.take_append_of_le_length (by omega), List.take_of_length_le (by omega)]
  have hd : (xs ++ more).drop 256 = more := by rw [List.drop_append_of_le_length (by omega), List.drop_of_length_le (by omega), List.nil_append]
  have hlen : (bc xs).length = 256 := by rw [bc_len, hx]
  rw [ht] at hg'
  have hld : b'.loadN 0 256 = some (bc xs) := loadN_of _ _ _ hlen fun i v hv => by
    have hi := nlt hv
    rw [Nat.zero_add, hg', if_pos (by rw [List.length_take]; omega)]
    exact hv
  obtain ⟨b2, e2, hn2, hr2, hg2⟩ := storeA_ok (bc xs) zb 0 (by rw [hlen, hzn]; omega) (bc_one _)
  have hld2 : b2.loadN 0 256 = some (bc xs) := loadN_of _ _ _ hlen fun i v hv => by
    have hi := nlt hv
    rw [Nat.zero_add, hg2, if_pos ⟨Nat.zero_le _, by omega⟩]
    exact hv
  have hne : h.nx ≠ h.nx + 1 := by omega
  have hz1 : h1.blk h.nx = some zb := (blk_eq (F.old h.nx (by omega))).trans (by rw [alloc_blk_ne _ _ _ (by rw [alloc_nx, lo_nx]; omega)]; exact alloc_blk_same _ _ _ rfl)
  simp only [go_sem, Nat.reduceLT, Nat.reduceLeDiff, Nat.reduceEqDiff, Nat.reduceAdd, Nat.reduceSub, Nat.reduceMul, reduceCtorEq, Int.reduceBEq, Int.reduceLT, Int.reduceLE, Int.reduceAdd, Int.reduceSub, Int.reduceEq, Int.reduceNeg, Int.reduceToNat, Int.reduceGT, Int.reduceGE, hld, hne, hzr, hz1, e2, hld2, hlen]
  rw [fin_l _ _ _ (by simp only [go_sem, Nat.reduceLT, Nat.reduceLeDiff, Nat.reduceEqDiff, Nat.reduceAdd, Nat.reduceSub, Nat.reduceMul, reduceCtorEq, Int.reduceBEq, Int.reduceLT, Int.reduceLE, Int.reduceAdd, Int.reduceSub, Int.reduceEq, Int.reduceNeg, Int.reduceToNat, Int.reduceGT, Int.reduceGE]; omega)]
  rw [hd] at R1
  obtain ⟨b0, v0, q1, q2, q3, q4, q5, q6, RL0, q7⟩ := R1.blk
  refine ⟨_, rfl, RdAt.ext (h := (h1.put (h.nx + 1) (.cells b')).put h.nx (.cells b2)) ⟨by simp only [go_sem, Nat.reduceLT, Nat.reduceLeDiff, Nat.reduceEqDiff, Nat.reduceAdd, Nat.reduceSub, Nat.reduceMul, reduceCtorEq, Int.reduceBEq, Int.reduceLT, Int.reduceLE, Int.reduceAdd, Int.reduceSub, Int.reduceEq, Int.reduceNeg, Int.reduceToNat, Int.reduceGT, Int.reduceGE]; omega, b0, v0, ?_, q2, q3, q4, q5, q6, ?_, q7⟩ (Ext.up _ _), by simp only [go_sem, Nat.reduceLT, Nat.reduceLeDiff, Nat.reduceEqDiff, Nat.reduceAdd, Nat.reduceSub, Nat.reduceMul, reduceCtorEq, Int.reduceBEq, Int.reduceLT, Int.reduceLE, Int.reduceAdd, Int.reduceSub, Int.reduceEq, Int.reduceNeg, Int.reduceToNat, Int.reduceGT, Int.reduceGE]; omega, by simp only [go_sem, Nat.reduceLT, Nat.reduceLeDiff, Nat.reduceEqDiff, Nat.reduceAdd, Nat.reduceSub, Nat.reduceMul, reduceCtorEq, Int.reduceBEq, Int.reduceLT, Int.reduceLE, Int.reduceAdd, Int.reduceSub, Int.reduceEq, Int.reduceNeg, Int.reduceToNat, Int.reduceGT, Int.reduceGE]; exact F.gn, fun k k1 k2 => ?_, by simp only [go_sem, Nat.reduceLT, Nat.reduceLeDiff, Nat.reduceEqDiff, Nat.reduceAdd, Nat.reduceSub, Nat.reduceMul, reduceCtorEq, Int.reduceBEq, Int.reduceLT, Int.reduceLE, Int.reduceAdd, Int.reduceSub, Int.reduceEq, Int.reduceNeg, Int.reduceToNat, Int.reduceGT, Int.reduceGE]; omega, by simp only [go_sem, Nat.reduceLT, Nat.reduceLeDiff, Nat.reduceEqDiff, Nat.reduceAdd, Nat.reduceSub, Nat.reduceMul, reduceCtorEq, Int.reduceBEq, Int.reduceLT, Int.reduceLE, Int.reduceAdd, Int.reduceSub, Int.reduceEq, Int.reduceNeg, Int.reduceToNat, Int.reduceGT, Int.reduceGE]; omega⟩
  · rw [put_blk_ne _ _ _ _ (by omega), put_blk_ne _ _ _ _ (by omega)]; exact q1
  · rcases RL0 with h1 | h1 | ⟨id, off, b, rfl, w2, w3, w4, w5, w6⟩
    · exact .inl h1
    · exact .inr (.inl h1)
    · have hid := (q7 _ _ _ _ rfl).1
      have hl := hlid
      exact .inr (.inr ⟨id, off, b, rfl, w2, w3, by rw [put_blk_ne _ _ _ _ (by omega), put_blk_ne _ _ _ _ (by omega)]; exact w4, w5, w6⟩)
  · show ((h1.put (h.nx + 1) (.cells b')).put h.nx (.cells b2)).t.get k = _
    rw [put_get_ne _ _ _ _ (by omega), put_get_ne _ _ _ _ (by omega), F.old k k2, alloc_get_ne _ _ _ (by simp only [go_sem, Nat.reduceLT, Nat.reduceLeDiff, Nat.reduceEqDiff, Nat.reduceAdd, Nat.reduceSub, Nat.reduceMul, reduceCtorEq, Int.reduceBEq, Int.reduceLT, Int.reduceLE, Int.reduceAdd, Int.reduceSub, Int.reduceEq, Int.reduceNeg, Int.reduceToNat, Int.reduceGT, Int.reduceGE]; omega), alloc_get_ne _ _ _ (by simp only [go_sem, Nat.reduceLT, Nat.reduceLeDiff, Nat.reduceEqDiff, Nat.reduceAdd, Nat.reduceSub, Nat.reduceMul, reduceCtorEq, Int.reduceBEq, Int.reduceLT, Int.reduceLE, Int.reduceAdd, Int.reduceSub, Int.reduceEq, Int.reduceNeg, Int.reduceToNat, Int.reduceGT, Int.reduceGE]; omega)]
    rfl
def EndR (o : Option (CV × Option H)) : Prop := o = some (.int .i64 0, none)
theorem rend_run (hσ : ∀ f a h, f ≠ 28 → σ f a h = none) {h : H} {r lid : Nat} (R : RdAt h r lid []) : EndR ((lim Try.prog σ).call 43 [.ptr r 0] h) := by
  obtain ⟨b, v, hb, hro, hbn, h0, h1, h2, RL, hne⟩ := R.blk
  have hl : ∀ h', builtinT Try.prog h' .len [67] [v] = some (.val (.int .i64 0)) := RL.len
  rw [call_eq (hσ _ _ _ (by decide)) fn_43 rfl rfl, Try.ntmps43, Try.results43]
  simp only [go_sem, Nat.reduceLT, Nat.reduceLeDiff, Nat.reduceEqDiff, Nat.reduceAdd, Nat.reduceSub, Nat.reduceMul, reduceCtorEq, Int.reduceBEq, Int.reduceLT, Int.reduceLE, Int.reduceAdd, Int.reduceSub, Int.reduceEq, Int.reduceNeg, Int.reduceToNat, Int.reduceGT, Int.reduceGE, hb, h0, h1, h2, hl]
  rw [fin_q _ _ _ rfl rfl]
  rfl
def ReadR (h : H) (xs : List Nat) (o : Option (CV × Option H)) : Prop :=
  ∃ r lid h', o = some (.ptr r 0, some h') ∧ h.nx ≤ r ∧ h.nx ≤ lid ∧ lid < h'.nx ∧ RdAt h' r lid xs ∧ Ext h h'
theorem read_run (hσ : ∀ f a h, f ≠ 28 → σ f a h = none) {h : H} {v : CV} {xs : List Nat} (B : BSl h v (bc xs)) (hx : xs.length ≤ 1000000) : ReadR h xs ((lim Try.prog σ).call 35 [v] h) := by
  rw [call_eq (hσ _ _ _ (by decide)) fn_35 rfl rfl, Try.ntmps35, Try.results35]
  simp only [go_sem, Nat.reduceLT, Nat.reduceLeDiff, Nat.reduceEqDiff, Nat.reduceAdd, Nat.reduceSub, Nat.reduceMul, reduceCtorEq, Int.reduceBEq, Int.reduceLT, Int.reduceLE, Int.reduceAdd, Int.reduceSub, Int.reduceEq, Int.reduceNeg, Int.reduceToNat, Int.reduceGT, Int.reduceGE]
  refine copy_of (Q := ReadR h xs) (B.ext (Ext.lo h)) (bc_one _) (by rw [bc_len]; omega) ?_
  intro s' h2 E B2 hne hnil hl2
  have s1 := B2.one
  have hE := E.nx
  rw [lo_nx] at hE
  simp only [go_sem, Nat.reduceLT, Nat.reduceLeDiff, Nat.reduceEqDiff, Nat.reduceAdd, Nat.reduceSub, Nat.reduceMul, reduceCtorEq, Int.reduceBEq, Int.reduceLT, Int.reduceLE, Int.reduceAdd, Int.reduceSub, Int.reduceEq, Int.reduceNeg, Int.reduceToNat, Int.reduceGT, Int.reduceGE, s1]
  rw [fin_new _ _ _ (by simp only [go_sem, Nat.reduceLT, Nat.reduceLeDiff, Nat.reduceEqDiff, Nat.reduceAdd, Nat.reduceSub, Nat.reduceMul, reduceCtorEq, Int.reduceBEq, Int.reduceLT, Int.reduceLE, Int.reduceAdd, Int.reduceSub, Int.reduceEq, Int.reduceNeg, Int.reduceToNat, Int.reduceGT, Int.reduceGE]; exact decide_eq_false (by omega))]
  have E2 : Ext h (h2.alloc (.cells (newBlk [s', .bool true, .bool false]))) := ((Ext.lo h).trans E).alloc' _
  by_cases q : xs = []
  · obtain ⟨q1, q2⟩ := hnil (by rw [q]; rfl)
    subst q1
    exact ⟨h2.nx, h2.nx, _, rfl, hE, hE, by simp only [go_sem, Nat.reduceLT, Nat.reduceLeDiff, Nat.reduceEqDiff, Nat.reduceAdd, Nat.reduceSub, Nat.reduceMul, reduceCtorEq, Int.reduceBEq, Int.reduceLT, Int.reduceLE, Int.reduceAdd, Int.reduceSub, Int.reduceEq, Int.reduceNeg, Int.reduceToNat, Int.reduceGT, Int.reduceGE], RdAt.ext (h := h2.alloc (.cells (newBlk [.nils, .bool true, .bool false]))) ⟨by simp only [go_sem, Nat.reduceLT, Nat.reduceLeDiff, Nat.reduceEqDiff, Nat.reduceAdd, Nat.reduceSub, Nat.reduceMul, reduceCtorEq, Int.reduceBEq, Int.reduceLT, Int.reduceLE, Int.reduceAdd, Int.reduceSub, Int.reduceEq, Int.reduceNeg, Int.reduceToNat, Int.reduceGT, Int.reduceGE], _, .nils, alloc_blk_same _ _ _ rfl, rfl, rfl, rfl, rfl, rfl, .inl ⟨rfl, q⟩, fun _ _ _ _ e => by cases e⟩ (Ext.up _ _), E2.up' _⟩
  · obtain ⟨k, q1, q2, q3⟩ := hne (by intro e; apply q; simpa [bc] using e)
    have hq : (bc xs).length ≠ 0 := by rw [bc_len]; intro e; exact q (List.length_eq_zero_iff.1 e)
    have hk := q3.lt hq
    rw [lo_nx] at q2
    rw [bc_len] at q1 q3
    subst q1
    rcases q3.val with ⟨r5, _⟩ | ⟨_, _, _, b, r5, r6, r7, r8⟩
    · rw [bc_len] at hq; exact absurd r5 hq
    · refine ⟨h2.nx, k, _, rfl, hE, q2, by simp only [go_sem, Nat.reduceLT, Nat.reduceLeDiff, Nat.reduceEqDiff, Nat.reduceAdd, Nat.reduceSub, Nat.reduceMul, reduceCtorEq, Int.reduceBEq, Int.reduceLT, Int.reduceLE, Int.reduceAdd, Int.reduceSub, Int.reduceEq, Int.reduceNeg, Int.reduceToNat, Int.reduceGT, Int.reduceGE]; omega, RdAt.ext (h := h2.alloc (.cells (newBlk [.sl k 0 xs.length (.opn 1), .bool true, .bool false]))) ⟨by simp only [go_sem, Nat.reduceLT, Nat.reduceLeDiff, Nat.reduceEqDiff, Nat.reduceAdd, Nat.reduceSub, Nat.reduceMul, reduceCtorEq, Int.reduceBEq, Int.reduceLT, Int.reduceLE, Int.reduceAdd, Int.reduceSub, Int.reduceEq, Int.reduceNeg, Int.reduceToNat, Int.reduceGT, Int.reduceGE], _, .sl k 0 xs.length (.opn 1), alloc_blk_same _ _ _ rfl, rfl, rfl, rfl, rfl, rfl, .inr (.inr ⟨k, 0, b, rfl, q, by simp only [go_sem, Nat.reduceLT, Nat.reduceLeDiff, Nat.reduceEqDiff, Nat.reduceAdd, Nat.reduceSub, Nat.reduceMul, reduceCtorEq, Int.reduceBEq, Int.reduceLT, Int.reduceLE, Int.reduceAdd, Int.reduceSub, Int.reduceEq, Int.reduceNeg, Int.reduceToNat, Int.reduceGT, Int.reduceGE]; omega, ?_, by omega, loadN_of _ _ _ (bc_len _) fun i v hv => by rw [Nat.zero_add, r8, hv]⟩), fun _ _ _ _ e => by cases e; exact ⟨rfl, by omega⟩⟩ (Ext.up _ _), E2.up' _⟩
      rw [alloc_blk_ne _ _ _ (by omega)]; exact r5
end Go.Cl.A

namespace Go.Cl.A
variable {σ : Sums}

def txt (n : Nat) : Nat → List Nat
  | 0 => []
  | i + 1 => (48 + n / 10 ^ i % 10) :: txt n i
theorem txt_len (n : Nat) : ∀ i, (txt n i).length = i
  | 0 => rfl
  | i + 1 => by simp [txt, txt_len n i]
theorem txt_at (n : Nat) : ∀ N j, j < N → nth (txt n N) j = some (48 + n / 10 ^ (N - 1 - j) % 10)
  | N + 1, 0, _ => rfl
  | N + 1, j + 1, h => by
    rw [txt, nth_s, txt_at n N j (by omega), show N + 1 - 1 - (j + 1) = N - 1 - j by omega]
/-- how many digits a number has -/
theorem count_of (n : Nat) (h : n < 2 ^ 64) : ∃ N, 1 ≤ N ∧ N ≤ 20 ∧ n / 10 ^ N = 0 ∧ ∀ i, 1 ≤ i → i < N → n / 10 ^ i ≠ 0 := by
  have h20 : n / 10 ^ 20 = 0 := Nat.div_eq_of_lt (by omega)
  have key : ∀ m, 1 ≤ m → n / 10 ^ m = 0 → ∃ N, 1 ≤ N ∧ N ≤ m ∧ n / 10 ^ N = 0 ∧ ∀ i, 1 ≤ i → i < N → n / 10 ^ i ≠ 0 := by
    intro m
    induction m with
    | zero => intro h; omega
    | succ m ih =>
      intro _ h1
      by_cases q : 1 ≤ m ∧ n / 10 ^ m = 0
      · obtain ⟨N, a, b, c⟩ := ih q.1 q.2
        exact ⟨N, a, by omega, c⟩
      · refine ⟨m + 1, by omega, Nat.le_refl _, h1, fun i a b c => q ⟨by omega, ?_⟩⟩
        have hle : 10 ^ i ≤ 10 ^ m := Nat.pow_le_pow_right (by decide) (by omega)
        have hp : 0 < 10 ^ i := Nat.pow_pos (by decide)
        exact Nat.div_eq_of_lt (Nat.lt_of_lt_of_le ((Nat.div_eq_zero_iff.1 c).resolve_left (by omega)) hle)
  exact key 20 (by decide) h20

theorem wrap_i32 {x : Int} (h1 : -2147483648 ≤ x) (h2 : x < 2147483648) : IntKind.wrap .i32 x = x := by
  unfold IntKind.wrap
  simp only [IntKind.bits, IntKind.signed, Bool.true_and, decide_eq_true_eq, show (2 ^ 32 : Int) = 4294967296 from rfl, show (2 ^ (32 - 1) : Int) = 2147483648 from rfl]
  split <;> omega
theorem worth_run (hσ : ∀ f a h, f ≠ 28 → σ f a h = none) (h : H) (d : Nat) (hd : d < 10) : (lim Try.prog σ).call 61 [.int .i32 (Int.ofNat (48 + d))] h = some (.int .i64 (Int.ofNat d), none) := by
  rw [call_eq (hσ _ _ _ (by decide)) fn_61 rfl rfl, Try.ntmps61, Try.results61]
  have c1 : (48 : Int) ≤ Int.ofNat (48 + d) := by simp; omega
  have c2 : Int.ofNat (48 + d) ≤ 57 := by simp; omega
  have w1 : IntKind.wrap .i32 (Int.ofNat (48 + d) - 48) = Int.ofNat d := by
    rw [wrap_i32 (by simp; omega) (by simp; omega)]; simp; omega
  have w2 : IntKind.wrap .i64 (Int.ofNat d) = Int.ofNat d := wrap_i64 (by simp) (by simp; omega)
  simp only [go_sem, Nat.reduceLT, Nat.reduceLeDiff, Nat.reduceEqDiff, Nat.reduceAdd, Nat.reduceSub, Nat.reduceMul, reduceCtorEq, Int.reduceBEq, Int.reduceLT, Int.reduceLE, Int.reduceAdd, Int.reduceSub, Int.reduceEq, Int.reduceNeg, Int.reduceToNat, Int.reduceGT, Int.reduceGE, c1, c2, w1, w2]
  rw [fin_q _ _ _ rfl rfl]

def TextR (h : H) (s : List Nat) (o : Option (CV × Option H)) : Prop := ∃ x, o = some (.str s, x) ∧ Ext h (x.getD h)
theorem tmod10 (n : Nat) : (Int.ofNat n).tmod 10 = Int.ofNat (n % 10) := rfl
theorem tdiv10 (n : Nat) : (Int.ofNat n).tdiv 10 = Int.ofNat (n / 10) := rfl
theorem bin_sadd {P : Program} (t xo yo a b) : binT P .add t xo yo (.str a) (.str b) = cond (Nat.ble (a.length + b.length) 70368744177664) (some (.str (a ++ b))) none := rfl
set_option maxRecDepth 100000 in
theorem text_run (hσ : ∀ f a h, f ≠ 28 → σ f a h = none) (h : H) (n : Nat) (hn : n < 2 ^ 64) {N : Nat} (h1 : 1 ≤ N) (h20 : N ≤ 20) (h0 : n / 10 ^ N = 0) (hN : ∀ i, 1 ≤ i → i < N → n / 10 ^ i ≠ 0) :
    TextR h (txt n N) ((lim Try.prog σ).call 34 [.int .u64 (Int.ofNat n)] h) := by
  rw [call_eq (hσ _ _ _ (by decide)) fn_34 rfl rfl, Try.ntmps34, Try.results34]
  simp only [go_sem, Nat.reduceLT, Nat.reduceLeDiff, Nat.reduceEqDiff, Nat.reduceAdd, Nat.reduceSub, Nat.reduceMul, reduceCtorEq, Int.reduceBEq, Int.reduceLT, Int.reduceLE, Int.reduceAdd, Int.reduceSub, Int.reduceEq, Int.reduceNeg, Int.reduceToNat, Int.reduceGT, Int.reduceGE]
  refine loop_ind (Q := TextR h (txt n N)) (fun i env h' => evT env 0 = .int .u64 (Int.ofNat (n / 10 ^ i)) ∧ evT env 3 = .str (txt n i) ∧ Ext h h') N 0 ?_ (Nat.zero_le _) ?_ ?_
  · exact ⟨by simp only [go_sem, Nat.reduceLT, Nat.reduceLeDiff, Nat.reduceEqDiff, Nat.reduceAdd, Nat.reduceSub, Nat.reduceMul, reduceCtorEq, Int.reduceBEq, Int.reduceLT, Int.reduceLE, Int.reduceAdd, Int.reduceSub, Int.reduceEq, Int.reduceNeg, Int.reduceToNat, Int.reduceGT, Int.reduceGE]; simp, by simp only [go_sem, Nat.reduceLT, Nat.reduceLeDiff, Nat.reduceEqDiff, Nat.reduceAdd, Nat.reduceSub, Nat.reduceMul, reduceCtorEq, Int.reduceBEq, Int.reduceLT, Int.reduceLE, Int.reduceAdd, Int.reduceSub, Int.reduceEq, Int.reduceNeg, Int.reduceToNat, Int.reduceGT, Int.reduceGE]; rfl, Ext.lo h⟩
  · rintro i env h' ⟨e0, e3, E⟩ hi next
    have hd : n / 10 ^ i % 10 < 10 := Nat.mod_lt _ (by decide)
    have w1 : IntKind.wrap .u64 (48 + Int.ofNat (n / 10 ^ i % 10)) = Int.ofNat (48 + n / 10 ^ i % 10) := by
      rw [show (48 + Int.ofNat (n / 10 ^ i % 10) : Int) = Int.ofNat (48 + n / 10 ^ i % 10) by simp]
      exact wrap_u64 (by omega)
    have w2 : (48 + n / 10 ^ i % 10) % 256 = 48 + n / 10 ^ i % 10 := by omega
    have w3 : IntKind.wrap .u64 (Int.ofNat (n / 10 ^ i / 10)) = Int.ofNat (n / 10 ^ (i + 1)) := by
      rw [Nat.div_div_eq_div_mul, ← Nat.pow_succ]
      exact wrap_u64 (Nat.lt_of_le_of_lt (Nat.div_le_self _ _) hn)
    have w4 : bytesOf [.int .u8 (Int.ofNat (48 + n / 10 ^ i % 10))] = some [48 + n / 10 ^ i % 10] := bytesOf_bc [48 + n / 10 ^ i % 10] (fun b hb => by rw [List.mem_singleton] at hb; omega)
    have w5 : ((txt n i) == []) = decide (i = 0) := by
      cases i with
      | zero => rfl
      | succ i => rfl
    have hle : 1 + i ≤ 70368744177664 := by omega
    by_cases hz : i = 0
    · have w6 : (txt n i == []) = true := by rw [w5, hz]; rfl
      have hc : decide (Int.ofNat (n / 10 ^ i) > 0) = true ∨ decide (Int.ofNat (n / 10 ^ i) > 0) = false := by cases decide (Int.ofNat (n / 10 ^ i) > 0) <;> simp
      rcases hc with hc | hc
      · simp only [go_sem, Nat.reduceLT, Nat.reduceLeDiff, Nat.reduceEqDiff, Nat.reduceAdd, Nat.reduceSub, Nat.reduceMul, reduceCtorEq, Int.reduceBEq, Int.reduceLT, Int.reduceLE, Int.reduceAdd, Int.reduceSub, Int.reduceEq, Int.reduceNeg, Int.reduceToNat, Int.reduceGT, Int.reduceGE, e0, e3, hc, tmod10, tdiv10, w1, w2, w3, wrap_u8, w4, bin_sadd, txt_len, hle]
        exact next _ _ ⟨by simp only [go_sem, Nat.reduceLT, Nat.reduceLeDiff, Nat.reduceEqDiff, Nat.reduceAdd, Nat.reduceSub, Nat.reduceMul, reduceCtorEq, Int.reduceBEq, Int.reduceLT, Int.reduceLE, Int.reduceAdd, Int.reduceSub, Int.reduceEq, Int.reduceNeg, Int.reduceToNat, Int.reduceGT, Int.reduceGE], by simp only [go_sem, Nat.reduceLT, Nat.reduceLeDiff, Nat.reduceEqDiff, Nat.reduceAdd, Nat.reduceSub, Nat.reduceMul, reduceCtorEq, Int.reduceBEq, Int.reduceLT, Int.reduceLE, Int.reduceAdd, Int.reduceSub, Int.reduceEq, Int.reduceNeg, Int.reduceToNat, Int.reduceGT, Int.reduceGE]; rfl, E.alloc' _⟩
      · simp only [go_sem, Nat.reduceLT, Nat.reduceLeDiff, Nat.reduceEqDiff, Nat.reduceAdd, Nat.reduceSub, Nat.reduceMul, reduceCtorEq, Int.reduceBEq, Int.reduceLT, Int.reduceLE, Int.reduceAdd, Int.reduceSub, Int.reduceEq, Int.reduceNeg, Int.reduceToNat, Int.reduceGT, Int.reduceGE, e0, e3, hc, w6, tmod10, tdiv10, w1, w2, w3, wrap_u8, w4, bin_sadd, txt_len, hle]
        exact next _ _ ⟨by simp only [go_sem, Nat.reduceLT, Nat.reduceLeDiff, Nat.reduceEqDiff, Nat.reduceAdd, Nat.reduceSub, Nat.reduceMul, reduceCtorEq, Int.reduceBEq, Int.reduceLT, Int.reduceLE, Int.reduceAdd, Int.reduceSub, Int.reduceEq, Int.reduceNeg, Int.reduceToNat, Int.reduceGT, Int.reduceGE], by simp only [go_sem, Nat.reduceLT, Nat.reduceLeDiff, Nat.reduceEqDiff, Nat.reduceAdd, Nat.reduceSub, Nat.reduceMul, reduceCtorEq, Int.reduceBEq, Int.reduceLT, Int.reduceLE, Int.reduceAdd, Int.reduceSub, Int.reduceEq, Int.reduceNeg, Int.reduceToNat, Int.reduceGT, Int.reduceGE]; rfl, E.alloc' _⟩
    · have hc : Int.ofNat (n / 10 ^ i) > 0 := by
        have := hN i (by omega) hi
        show Int.ofNat 0 < Int.ofNat (n / 10 ^ i)
        exact Int.ofNat_lt.2 (Nat.pos_of_ne_zero this)
      simp only [go_sem, Nat.reduceLT, Nat.reduceLeDiff, Nat.reduceEqDiff, Nat.reduceAdd, Nat.reduceSub, Nat.reduceMul, reduceCtorEq, Int.reduceBEq, Int.reduceLT, Int.reduceLE, Int.reduceAdd, Int.reduceSub, Int.reduceEq, Int.reduceNeg, Int.reduceToNat, Int.reduceGT, Int.reduceGE, e0, e3, hc, tmod10, tdiv10, w1, w2, w3, wrap_u8, w4, bin_sadd, txt_len, hle]
      exact next _ _ ⟨by simp only [go_sem, Nat.reduceLT, Nat.reduceLeDiff, Nat.reduceEqDiff, Nat.reduceAdd, Nat.reduceSub, Nat.reduceMul, reduceCtorEq, Int.reduceBEq, Int.reduceLT, Int.reduceLE, Int.reduceAdd, Int.reduceSub, Int.reduceEq, Int.reduceNeg, Int.reduceToNat, Int.reduceGT, Int.reduceGE], by simp only [go_sem, Nat.reduceLT, Nat.reduceLeDiff, Nat.reduceEqDiff, Nat.reduceAdd, Nat.reduceSub, Nat.reduceMul, reduceCtorEq, Int.reduceBEq, Int.reduceLT, Int.reduceLE, Int.reduceAdd, Int.reduceSub, Int.reduceEq, Int.reduceNeg, Int.reduceToNat, Int.reduceGT, Int.reduceGE]; rfl, E.alloc' _⟩
  · rintro env h' ⟨e0, e3, E⟩
    have w5 : ((txt n N) == []) = false := by
      cases N with
      | zero => omega
      | succ i => rfl
    rw [h0] at e0
    have z : ¬ (Int.ofNat 0 > 0) := by decide
    simp only [go_sem, Nat.reduceLT, Nat.reduceLeDiff, Nat.reduceEqDiff, Nat.reduceAdd, Nat.reduceSub, Nat.reduceMul, reduceCtorEq, Int.reduceBEq, Int.reduceLT, Int.reduceLE, Int.reduceAdd, Int.reduceSub, Int.reduceEq, Int.reduceNeg, Int.reduceToNat, Int.reduceGT, Int.reduceGE, e0, e3, w5, z]
    obtain ⟨x, hf, he⟩ := fin_ext E (.str (txt n N))
    rw [hf]
    exact ⟨_, rfl, he⟩

theorem rng_9 (h : H) (s : List Nat) : rangeT Try.prog h 9 (.str s) = some (.ptr h.nx 0, h.alloc (.strIter s 0)) := by kernel_rfl
def DecR (n most : Nat) (o : Option (CV × Option H)) : Prop := ∃ x, o = some (.tup [.int .u64 (Int.ofNat (if n ≤ most then n else 0)), .int .i64 (if n ≤ most then 0 else 5)], x)
def DecX (h : H) (n most : Nat) (o : Option (CV × Option H)) : Prop := ∃ x, o = some (.tup [.int .u64 (Int.ofNat (if n ≤ most then n else 0)), .int .i64 (if n ≤ most then 0 else 5)], x) ∧ Ext h (x.getD h)
set_option maxRecDepth 100000 in
theorem decimal_run (hσ : ∀ f a h, f ≠ 28 → σ f a h = none) (h : H) (n most : Nat) (hn : n < 2 ^ 64) {N : Nat} (h1 : 1 ≤ N) (h20 : N ≤ 20) (h0 : n / 10 ^ N = 0) (hN : ∀ i, 1 ≤ i → i < N → n / 10 ^ i ≠ 0) :
    DecX h n most ((lim Try.prog σ).call 33 [.str (txt n N), .int .u64 (Int.ofNat most)] h) := by
  rw [call_eq (hσ _ _ _ (by decide)) fn_33 rfl rfl, Try.ntmps33, Try.results33]
  have hne : (txt n N == []) = false := by
    cases N with
    | zero => omega
    | succ i => rfl
  have hix : indexT Try.prog 9 (.str (txt n N)) (.int .i64 0) = some (.int .u8 (Int.ofNat (48 + n / 10 ^ (N - 1) % 10))) := by
    have := ix_9 (txt n N) 0 .i64
    rw [txt_at n N 0 (by omega)] at this
    exact this
  have hlead : N = 1 ∨ decide (Int.ofNat (48 + n / 10 ^ (N - 1) % 10) = 48) = false := by
    by_cases q : N = 1
    · exact .inl q
    · right
      have a := hN (N - 1) (by omega) (by omega)
      have b : n / 10 ^ (N - 1) < 10 := by
        have : n / 10 ^ (N - 1) / 10 = 0 := by
          rw [Nat.div_div_eq_div_mul, ← Nat.pow_succ, show (N - 1).succ = N by omega]; exact h0
        generalize n / 10 ^ (N - 1) = x at *
        omega
      refine decide_eq_false fun e => ?_
      have e : 48 + n / 10 ^ (N - 1) % 10 = 48 := Int.ofNat.inj e
      generalize n / 10 ^ (N - 1) = x at *
      omega
  have hlen : (Int.ofNat N > 1) ∨ ¬ (Int.ofNat N > 1) := Classical.em _
  rcases hlead with q | q
  case' inl => have q1 : ¬ (Int.ofNat N > 1) := by rw [q]; decide
  case' inl =>
    cases hb : decide (Int.ofNat (48 + n / 10 ^ (N - 1) % 10) = 48)
    all_goals simp only [go_sem, Nat.reduceLT, Nat.reduceLeDiff, Nat.reduceEqDiff, Nat.reduceAdd, Nat.reduceSub, Nat.reduceMul, reduceCtorEq, Int.reduceBEq, Int.reduceLT, Int.reduceLE, Int.reduceAdd, Int.reduceSub, Int.reduceEq, Int.reduceNeg, Int.reduceToNat, Int.reduceGT, Int.reduceGE, hne, hix, hb, txt_len, q1]
  case' inr => simp only [go_sem, Nat.reduceLT, Nat.reduceLeDiff, Nat.reduceEqDiff, Nat.reduceAdd, Nat.reduceSub, Nat.reduceMul, reduceCtorEq, Int.reduceBEq, Int.reduceLT, Int.reduceLE, Int.reduceAdd, Int.reduceSub, Int.reduceEq, Int.reduceNeg, Int.reduceToNat, Int.reduceGT, Int.reduceGE, hne, hix, q]
  all_goals
    rw [rng_9]
    simp only [go_sem, Nat.reduceLT, Nat.reduceLeDiff, Nat.reduceEqDiff, Nat.reduceAdd, Nat.reduceSub, Nat.reduceMul, reduceCtorEq, Int.reduceBEq, Int.reduceLT, Int.reduceLE, Int.reduceAdd, Int.reduceSub, Int.reduceEq, Int.reduceNeg, Int.reduceToNat, Int.reduceGT, Int.reduceGE]
    refine loop_ind (Q := DecX h n most) (fun j env h' => evT env 1 = .int .u64 (Int.ofNat most) ∧ evT env 6 = .int .u64 (Int.ofNat (n / 10 ^ (N - j))) ∧ evT env 7 = .bool false ∧ evT env 24 = .ptr h.nx 0 ∧ h'.t.get h.nx = some (.strIter (txt n N) j) ∧ Ext h h') N 0 ?_ (Nat.zero_le _) ?_ ?_
    · exact ⟨by simp only [go_sem, Nat.reduceLT, Nat.reduceLeDiff, Nat.reduceEqDiff, Nat.reduceAdd, Nat.reduceSub, Nat.reduceMul, reduceCtorEq, Int.reduceBEq, Int.reduceLT, Int.reduceLE, Int.reduceAdd, Int.reduceSub, Int.reduceEq, Int.reduceNeg, Int.reduceToNat, Int.reduceGT, Int.reduceGE], by simp only [go_sem, Nat.reduceLT, Nat.reduceLeDiff, Nat.reduceEqDiff, Nat.reduceAdd, Nat.reduceSub, Nat.reduceMul, reduceCtorEq, Int.reduceBEq, Int.reduceLT, Int.reduceLE, Int.reduceAdd, Int.reduceSub, Int.reduceEq, Int.reduceNeg, Int.reduceToNat, Int.reduceGT, Int.reduceGE]; rw [Nat.sub_zero, h0]; rfl, by simp only [go_sem, Nat.reduceLT, Nat.reduceLeDiff, Nat.reduceEqDiff, Nat.reduceAdd, Nat.reduceSub, Nat.reduceMul, reduceCtorEq, Int.reduceBEq, Int.reduceLT, Int.reduceLE, Int.reduceAdd, Int.reduceSub, Int.reduceEq, Int.reduceNeg, Int.reduceToNat, Int.reduceGT, Int.reduceGE], by simp only [go_sem, Nat.reduceLT, Nat.reduceLeDiff, Nat.reduceEqDiff, Nat.reduceAdd, Nat.reduceSub, Nat.reduceMul, reduceCtorEq, Int.reduceBEq, Int.reduceLT, Int.reduceLE, Int.reduceAdd, Int.reduceSub, Int.reduceEq, Int.reduceNeg, Int.reduceToNat, Int.reduceGT, Int.reduceGE], alloc_get_same _ _ _ rfl, (Ext.lo h).alloc' _⟩
    · rintro j env h' ⟨e1, e6, e7, e24, ht, E⟩ hj next
      have hd : n / 10 ^ (N - 1 - j) % 10 < 10 := Nat.mod_lt _ (by decide)
      have hat := txt_at n N j hj
      have hdec := decode_ascii hat (by omega)
      have hp1 : n / 10 ^ (N - j) = n / 10 ^ (N - 1 - j) / 10 := by
        rw [Nat.div_div_eq_div_mul, ← Nat.pow_succ, show (N - 1 - j).succ = N - j by omega]
      have hp2 : n / 10 ^ (N - 1 - j) ≤ n := Nat.div_le_self _ _
      obtain ⟨d, hdd⟩ : ∃ d, n / 10 ^ (N - 1 - j) % 10 = d := ⟨_, rfl⟩
      obtain ⟨m, hmm⟩ : ∃ m, n / 10 ^ (N - j) = m := ⟨_, rfl⟩
      have hmd : n / 10 ^ (N - 1 - j) = m * 10 + d := by omega
      rw [hdd] at hdec hat hd
      rw [hmm] at e6
      have c1 : ¬ Int.ofNat d < 0 := by simp
      have c2 : ¬ Int.ofNat d > 9 := by simp; omega
      have w1 : IntKind.wrap .u64 (Int.ofNat d) = Int.ofNat d := wrap_u64 (by omega)
      have w2 : IntKind.wrap .u64 (18446744073709551615 - Int.ofNat d) = Int.ofNat (18446744073709551615 - d) := by
        rw [show (18446744073709551615 - Int.ofNat d : Int) = Int.ofNat (18446744073709551615 - d) by simp; omega]
        exact wrap_u64 (by omega)
      have w3 : IntKind.wrap .u64 (Int.ofNat ((18446744073709551615 - d) / 10)) = Int.ofNat ((18446744073709551615 - d) / 10) := wrap_u64 (by omega)
      have c3 : ¬ Int.ofNat m > Int.ofNat ((18446744073709551615 - d) / 10) := by
        intro q
        have q : (18446744073709551615 - d) / 10 < m := Int.ofNat_lt.1 q
        omega
      have w4 : IntKind.wrap .u64 (Int.ofNat m * 10) = Int.ofNat (m * 10) := by
        rw [show (Int.ofNat m * 10 : Int) = Int.ofNat (m * 10) by simp]; exact wrap_u64 (by omega)
      have w5 : IntKind.wrap .u64 (Int.ofNat (m * 10) + Int.ofNat d) = Int.ofNat (m * 10 + d) := by
        rw [show (Int.ofNat (m * 10) + Int.ofNat d : Int) = Int.ofNat (m * 10 + d) by simp]; exact wrap_u64 (by omega)
      have hlt : j < (txt n N).length := by rw [txt_len]; exact hj
      have ww : ∀ h', (lim Try.prog σ).call 61 [.int .i32 ((48 + d : Nat) : Int)] h' = some (.int .i64 (Int.ofNat d), none) := fun h' => worth_run hσ h' d hd
      simp only [go_sem, Nat.reduceLT, Nat.reduceLeDiff, Nat.reduceEqDiff, Nat.reduceAdd, Nat.reduceSub, Nat.reduceMul, reduceCtorEq, Int.reduceBEq, Int.reduceLT, Int.reduceLE, Int.reduceAdd, Int.reduceSub, Int.reduceEq, Int.reduceNeg, Int.reduceToNat, Int.reduceGT, Int.reduceGE, e1, e6, e7, e24, ht, hlt, hdec, ww, c1, c2, w1, w2, tdiv10, w3, c3, w4, w5]
      refine next _ _ ⟨by simp only [go_sem, Nat.reduceLT, Nat.reduceLeDiff, Nat.reduceEqDiff, Nat.reduceAdd, Nat.reduceSub, Nat.reduceMul, reduceCtorEq, Int.reduceBEq, Int.reduceLT, Int.reduceLE, Int.reduceAdd, Int.reduceSub, Int.reduceEq, Int.reduceNeg, Int.reduceToNat, Int.reduceGT, Int.reduceGE, e1], by simp only [go_sem, Nat.reduceLT, Nat.reduceLeDiff, Nat.reduceEqDiff, Nat.reduceAdd, Nat.reduceSub, Nat.reduceMul, reduceCtorEq, Int.reduceBEq, Int.reduceLT, Int.reduceLE, Int.reduceAdd, Int.reduceSub, Int.reduceEq, Int.reduceNeg, Int.reduceToNat, Int.reduceGT, Int.reduceGE]; rw [show N - (j + 1) = N - 1 - j by omega, hmd], by simp only [go_sem, Nat.reduceLT, Nat.reduceLeDiff, Nat.reduceEqDiff, Nat.reduceAdd, Nat.reduceSub, Nat.reduceMul, reduceCtorEq, Int.reduceBEq, Int.reduceLT, Int.reduceLE, Int.reduceAdd, Int.reduceSub, Int.reduceEq, Int.reduceNeg, Int.reduceToNat, Int.reduceGT, Int.reduceGE, e7], by simp only [go_sem, Nat.reduceLT, Nat.reduceLeDiff, Nat.reduceEqDiff, Nat.reduceAdd, Nat.reduceSub, Nat.reduceMul, reduceCtorEq, Int.reduceBEq, Int.reduceLT, Int.reduceLE, Int.reduceAdd, Int.reduceSub, Int.reduceEq, Int.reduceNeg, Int.reduceToNat, Int.reduceGT, Int.reduceGE, e24], put_get_same _ _ _, E.put _ (Nat.le_refl _)⟩
    · rintro env h' ⟨e1, e6, e7, e24, ht, E⟩
      have hlt : ¬ N < (txt n N).length := by rw [txt_len]; omega
      rw [Nat.sub_self, Nat.pow_zero, Nat.div_one] at e6
      by_cases q : n ≤ most
      · have c : ¬ Int.ofNat n > Int.ofNat most := fun e => by have := Int.ofNat_lt.1 e; omega
        simp only [go_sem, Nat.reduceLT, Nat.reduceLeDiff, Nat.reduceEqDiff, Nat.reduceAdd, Nat.reduceSub, Nat.reduceMul, reduceCtorEq, Int.reduceBEq, Int.reduceLT, Int.reduceLE, Int.reduceAdd, Int.reduceSub, Int.reduceEq, Int.reduceNeg, Int.reduceToNat, Int.reduceGT, Int.reduceGE, e1, e6, e7, e24, ht, hlt, c]
        obtain ⟨x, hf, he⟩ := fin_ext E (.tup [.int .u64 (Int.ofNat n), .int .i64 0])
        rw [hf]
        exact ⟨_, by rw [if_pos q, if_pos q], he⟩
      · have c : Int.ofNat n > Int.ofNat most := Int.ofNat_lt.2 (by omega)
        simp only [go_sem, Nat.reduceLT, Nat.reduceLeDiff, Nat.reduceEqDiff, Nat.reduceAdd, Nat.reduceSub, Nat.reduceMul, reduceCtorEq, Int.reduceBEq, Int.reduceLT, Int.reduceLE, Int.reduceAdd, Int.reduceSub, Int.reduceEq, Int.reduceNeg, Int.reduceToNat, Int.reduceGT, Int.reduceGE, e1, e6, e7, e24, ht, hlt, c]
        obtain ⟨x, hf, he⟩ := fin_ext E (.tup [.int .u64 0, .int .i64 5])
        rw [hf]
        exact ⟨_, by rw [if_neg q, if_neg q]; rfl, he⟩
end Go.Cl.A

namespace Go.Cl.A
variable {σ : Sums}

theorem be_succ (n k : Nat) : be n (k + 1) = be (n / 256) k ++ [n % 256] := by
  unfold be
  rw [List.range_succ, List.map_append]
  congr 1
  · refine List.map_congr_left fun j hj => ?_
    have hj : j < k := List.mem_range.1 hj
    unfold dig
    rw [Nat.div_div_eq_div_mul, show (256 : Nat) = 2 ^ 8 from rfl, ← Nat.pow_add, show 8 + 8 * (k - 1 - j) = 8 * (k + 1 - 1 - j) by omega]
  · simp [dig]
theorem val_be : ∀ (k n : Nat), n < 256 ^ k → valB (be n k) = n
  | 0, n, h => by simp at h; subst h; rfl
  | k + 1, n, h => by
    rw [be_succ, valB_app, val_be k (n / 256) (by rw [Nat.pow_succ] at h; omega)]
    omega
theorem flat_drop {l : List Part} {i : Nat} {p : Part} (hp : l[i]? = some p) : flat (l.drop i) = bP p ++ flat (l.drop (i + 1)) := by
  have hi := (List.getElem?_eq_some_iff.1 hp).1
  rw [List.drop_eq_getElem_cons hi]
  have : l[i] = p := (List.getElem?_eq_some_iff.1 hp).2
  rw [this]
  simp [flat]

theorem num_step {β : Type} {Q : Option β → Prop} {X : H} {r lid n : Nat} {rest : List Nat} {o : Option (CV × Option H)} {K : CV → Option H → Option β} (W : NumR X r lid rest n o)
    (k : ∀ h2, RdAt h2 r lid (rest.drop n) → But X h2 r → Q (K (.int .u64 (Int.ofNat (valB (rest.take n)))) (some h2))) : Q (@thn _ β o ⟨KP K⟩) := by
  obtain ⟨h2, rfl, R, F, _⟩ := W
  exact k h2 R F
theorem flag_step {β : Type} {Q : Option β → Prop} {X : H} {r lid : Nat} {rest : List Nat} {b : Bool} {o : Option (CV × Option H)} {K : CV → Option H → Option β} (W : FlagR X r lid rest b o)
    (k : ∀ h2, RdAt h2 r lid (rest.drop 1) → But X h2 r → Q (K (.bool b) (some h2))) : Q (@thn _ β o ⟨KP K⟩) := by
  obtain ⟨h2, rfl, R, F, _⟩ := W
  exact k h2 R F
theorem count_step {β : Type} {Q : Option β → Prop} {X : H} {r lid x : Nat} {more : List Nat} {o : Option (CV × Option H)} {K : CV → Option H → Option β} (W : CountR X r lid x more o)
    (k : ∀ h2, RdAt h2 r lid more → But X h2 r → Q (K (.int .i64 (Int.ofNat x)) (some h2))) : Q (@thn _ β o ⟨KP K⟩) := by
  obtain ⟨h2, rfl, R, F, _⟩ := W
  exact k h2 R F
structure Mo (X h2 : H) (r : Nat) : Prop where
  nx : X.nx ≤ h2.nx
  gn : h2.gn = X.gn
  old : ∀ k, k < X.nx → k ≠ r → h2.t.get k = X.t.get k
theorem But.mo {X h2 : H} {r : Nat} (F : But X h2 r) : Mo X h2 r := ⟨by rw [F.nx]; exact Nat.le_refl _, F.gn, fun k _ h => F.old k h⟩
theorem Mo.ext {h X h2 : H} {r : Nat} (F : Mo X h2 r) (E : Ext h X) (hr : h.nx ≤ r) : Ext h h2 :=
  ⟨Nat.le_trans E.nx F.nx, F.gn.trans E.gn, fun k hk => (F.old k (Nat.lt_of_lt_of_le hk E.nx) (by omega)).trans (E.old k hk)⟩
theorem byt_step {β : Type} {Q : Option β → Prop} {X : H} {r lid n : Nat} {rest : List Nat} {o : Option (CV × Option H)} {K : CV → Option H → Option β} (W : BytR X r lid rest n o)
    (k : ∀ v h2, BSl h2 v (bc (rest.take n)) → RdAt h2 r lid (rest.drop n) → Mo X h2 r → Q (K v (some h2))) : Q (@thn _ β o ⟨KP K⟩) := by
  obtain ⟨v, h2, rfl, B, R, n, g, o, _⟩ := W
  exact k v h2 B R ⟨n, g, o⟩
theorem blob_step {β : Type} {Q : Option β → Prop} {X : H} {r lid : Nat} {xs more : List Nat} {o : Option (CV × Option H)} {K : CV → Option H → Option β} (W : BlobR X r lid xs more o)
    (k : ∀ v h2, BSl h2 v (bc xs) → RdAt h2 r lid more → Mo X h2 r → Q (K v (some h2))) : Q (@thn _ β o ⟨KP K⟩) := by
  obtain ⟨v, h2, rfl, B, R, n, g, o, _⟩ := W
  exact k v h2 B R ⟨n, g, o⟩
theorem block_step {β : Type} {Q : Option β → Prop} {X : H} {r lid : Nat} {xs more : List Nat} {o : Option (CV × Option H)} {K : CV → Option H → Option β} (W : BlockR X r lid xs more o)
    (k : ∀ h2, RdAt h2 r lid more → Mo X h2 r → Q (K (.agg (bc xs)) (some h2))) : Q (@thn _ β o ⟨KP K⟩) := by
  obtain ⟨h2, rfl, R, n, g, o, _⟩ := W
  exact k h2 R ⟨n, g, o⟩

theorem bsl_beq {h : H} {v : CV} {cs : List CV} (B : BSl h v cs) : beqC v v = true := by
  rcases B with ⟨rfl, rfl⟩ | ⟨rfl, id, x1, x2, x3, rfl⟩ | ⟨id, off, c, b, rfl, _⟩
  · rfl
  · simp [beqC]
  · exact beqC_sl _ _ _ _
set_option maxRecDepth 100000 in
theorem eq_85 (xo yo : Operand) (xs : List Nat) (hx : xs.length = 256) : binT Try.prog .eql 85 xo yo (.agg (bc xs)) (.agg (bc xs)) = some (.bool true) := by
  have h1 : eqOk Try.prog 85 xo yo (.agg (bc xs)) (.agg (bc xs)) = true := by kernel_rfl
  have h2 : eqIn Try.prog 100 85 (.agg (bc xs)) (.agg (bc xs)) = some true := eqIn_arr (fuel := 98) Try.underlying85 Try.underlying5 sz_5 (by kernel_rfl) fun i hi => by
    obtain ⟨m, hm⟩ : ∃ m, xs[i]? = some m := ⟨_, List.getElem?_eq_getElem (by omega)⟩
    exact ⟨_, by rw [nth_eq]; unfold bc; rw [List.getElem?_map, hm]; rfl⟩
  show cond (eqOk Try.prog 85 xo yo (.agg (bc xs)) (.agg (bc xs))) ((eqIn Try.prog 100 85 (.agg (bc xs)) (.agg (bc xs))).map fun b => CV.bool b) none = _
  rw [h1, h2]; rfl

structure MI (h : H) (v : CV) (l : List Part) (r lid i : Nat) (env : T CV) (h' : H) : Prop where
  e0 : evT env 0 = v
  e11 : evT env 11 = .ptr r 0
  e12 : evT env 12 = .int .i64 (Int.ofNat i)
  rd : RdAt h' r lid (flat (l.drop i))
  lid : lid < h'.nx
  ext : Ext h h'

set_option maxRecDepth 100000 in
theorem wmeans_run (hσ : ∀ f a h, f ≠ 28 → σ f a h = none) (hk : ∀ h, (lim Try.prog σ).call 28 [] h = some (.bool true, none)) {h : H} {v : CV} {l : List Part} (P : Parts h v l) (n most : Nat) (hn : n < 2 ^ 64) :
    Tru ((lim Try.prog σ).call 8 [v, .int .u64 (Int.ofNat n), .int .u64 (Int.ofNat most)] h) := by
  rw [call_eq (hσ _ _ _ (by decide)) fn_8 rfl rfl, Try.ntmps8, Try.results8]
  have hm : ∀ h', Ext h h' → (lim Try.prog σ).call 27 [v] h' = some (.bool (muchOf l), none) := fun h' E => much_run hσ (P.ext E)
  cases hmu : muchOf l
  · have h40 : l.length ≤ 40 := by
      unfold muchOf at hmu
      simp at hmu
      omega
    have htot : total l ≤ 20000 := by
      unfold muchOf at hmu
      simp at hmu
      rw [List.take_of_length_le (by omega)] at hmu
      omega
    obtain ⟨N, N1, N20, N0, NN⟩ := count_of n hn
    obtain ⟨x1, et, E1⟩ := text_run hσ h.lo n hn N1 N20 N0 NN
    obtain ⟨x2, ed, E2⟩ := decimal_run hσ (x1.getD h.lo) n most hn N1 N20 N0 NN
    have E12 : Ext h (x2.getD (x1.getD h.lo)) := ((Ext.lo h).trans E1).trans E2
    obtain ⟨X, hX⟩ : ∃ X, X = x2.getD (x1.getD h.lo) := ⟨_, rfl⟩
    rw [← hX] at E12
    obtain ⟨h1, lw, ep, hlw, A, E3⟩ := puts_run hσ (P.ext E12) h40 htot
    have hq : n ≤ most ∨ ¬ n ≤ most := Classical.em _
    have c0 : Int.ofNat n ≤ Int.ofNat most ↔ n ≤ most := Int.ofNat_le
    have c1 : Int.ofNat n > Int.ofNat most ↔ ¬ n ≤ most := by rw [gt_iff_lt]; exact Int.ofNat_lt.trans Nat.not_le.symm
    cases hg : l.all gP
    · have hbad : (wAll l).1 = true := fold_bad l [] hg
      rw [hbad] at A
      have hwl : (wAll l).2.length ≤ 900000 := by
        have h1 : (wAll l).2.length ≤ ([] : List Nat).length + total l + 256 * l.length := fold_len l (false, []) fun p hp => by
          have := total_mem hp
          omega
        simp at h1; omega
      obtain ⟨u, x, ee, E4, B4, _⟩ := end_run hσ A hwl
      have ee : (lim Try.prog σ).call 31 [.ptr X.nx 0] h1 = some (.tup [u, .int .i64 2], x) := ee
      rcases hq with q | q
      · rw [if_pos q, if_pos q] at ed
        have c2 := c0.2 q
        have c3 : ¬ Int.ofNat n > Int.ofNat most := fun e => c1.1 e q
        simp only [go_sem, Nat.reduceLT, Nat.reduceLeDiff, Nat.reduceEqDiff, Nat.reduceAdd, Nat.reduceSub, Nat.reduceMul, reduceCtorEq, Int.reduceBEq, Int.reduceLT, Int.reduceLE, Int.reduceAdd, Int.reduceSub, Int.reduceEq, Int.reduceNeg, Int.reduceToNat, Int.reduceGT, Int.reduceGE, hk, hm _ (Ext.lo h), hmu, et, ed, ← hX, ep, ee, num32_run hσ, c2, c3, tru_fin]
      · rw [if_neg q, if_neg q] at ed
        have c2 : ¬ Int.ofNat n ≤ Int.ofNat most := fun e => q (c0.1 e)
        have c3 := c1.2 q
        have ed : (lim Try.prog σ).call 33 [.str (txt n N), .int .u64 (Int.ofNat most)] (x1.getD h.lo) = some (.tup [.int .u64 0, .int .i64 5], x2) := ed
        simp only [go_sem, Nat.reduceLT, Nat.reduceLeDiff, Nat.reduceEqDiff, Nat.reduceAdd, Nat.reduceSub, Nat.reduceMul, reduceCtorEq, Int.reduceBEq, Int.reduceLT, Int.reduceLE, Int.reduceAdd, Int.reduceSub, Int.reduceEq, Int.reduceNeg, Int.reduceToNat, Int.reduceGT, Int.reduceGE, hk, hm _ (Ext.lo h), hmu, et, ed, ← hX, ep, ee, num32_run hσ, c2, c3, tru_fin]
    · have hgood : wAll l = (false, flat l) := fold_good l [] hg
      rw [hgood] at A
      have hfl : (flat l).length ≤ 900000 := by
        have h1 : (wAll l).2.length ≤ ([] : List Nat).length + total l + 256 * l.length := fold_len l (false, []) fun p hp => by
          have := total_mem hp
          omega
        rw [hgood] at h1
        simp at h1; omega
      obtain ⟨u, x, ee, E4, B4, hu⟩ := end_run hσ A hfl
      have ee : (lim Try.prog σ).call 31 [.ptr X.nx 0] h1 = some (.tup [u, .int .i64 0], x) := ee
      obtain ⟨r, lid, h4, er, hr, hl1, hl2, R, E5⟩ := read_run hσ (B4 : BSl (x.getD h1) u (bc (flat l))) (show (flat l).length ≤ 1000000 by omega)
      have E05 : Ext h h4 := ((E12.trans E3).trans E4).trans E5
      have hE3 := (E12.trans E3).trans E4 |>.nx
      have hpass : ∀ p ∈ l, gP p = true := fun p hp => List.all_eq_true.1 hg p hp
      rcases hq with q | q
      case' inl =>
        rw [if_pos q, if_pos q] at ed
        have c2 := c0.2 q
        have c3 : ¬ Int.ofNat n > Int.ofNat most := fun e => c1.1 e q
        simp only [go_sem, Nat.reduceLT, Nat.reduceLeDiff, Nat.reduceEqDiff, Nat.reduceAdd, Nat.reduceSub, Nat.reduceMul, reduceCtorEq, Int.reduceBEq, Int.reduceLT, Int.reduceLE, Int.reduceAdd, Int.reduceSub, Int.reduceEq, Int.reduceNeg, Int.reduceToNat, Int.reduceGT, Int.reduceGE, hk, hm _ (Ext.lo h), hmu, et, ed, ← hX, ep, ee, num32_run hσ, c2, c3, er]
      case' inr =>
        rw [if_neg q, if_neg q] at ed
        have c2 : ¬ Int.ofNat n ≤ Int.ofNat most := fun e => q (c0.1 e)
        have c3 := c1.2 q
        have ed : (lim Try.prog σ).call 33 [.str (txt n N), .int .u64 (Int.ofNat most)] (x1.getD h.lo) = some (.tup [.int .u64 0, .int .i64 5], x2) := ed
        simp only [go_sem, Nat.reduceLT, Nat.reduceLeDiff, Nat.reduceEqDiff, Nat.reduceAdd, Nat.reduceSub, Nat.reduceMul, reduceCtorEq, Int.reduceBEq, Int.reduceLT, Int.reduceLE, Int.reduceAdd, Int.reduceSub, Int.reduceEq, Int.reduceNeg, Int.reduceToNat, Int.reduceGT, Int.reduceGE, hk, hm _ (Ext.lo h), hmu, et, ed, ← hX, ep, ee, num32_run hσ, c2, c3, er]
      all_goals
        refine loop_ind (Q := Tru) (fun i env h' => MI h v l r lid i env h') l.length 0 ?_ (Nat.zero_le _) ?_ ?_
        · exact ⟨by simp only [go_sem, Nat.reduceLT, Nat.reduceLeDiff, Nat.reduceEqDiff, Nat.reduceAdd, Nat.reduceSub, Nat.reduceMul, reduceCtorEq, Int.reduceBEq, Int.reduceLT, Int.reduceLE, Int.reduceAdd, Int.reduceSub, Int.reduceEq, Int.reduceNeg, Int.reduceToNat, Int.reduceGT, Int.reduceGE], by simp only [go_sem, Nat.reduceLT, Nat.reduceLeDiff, Nat.reduceEqDiff, Nat.reduceAdd, Nat.reduceSub, Nat.reduceMul, reduceCtorEq, Int.reduceBEq, Int.reduceLT, Int.reduceLE, Int.reduceAdd, Int.reduceSub, Int.reduceEq, Int.reduceNeg, Int.reduceToNat, Int.reduceGT, Int.reduceGE], by simp only [go_sem, Nat.reduceLT, Nat.reduceLeDiff, Nat.reduceEqDiff, Nat.reduceAdd, Nat.reduceSub, Nat.reduceMul, reduceCtorEq, Int.reduceBEq, Int.reduceLT, Int.reduceLE, Int.reduceAdd, Int.reduceSub, Int.reduceEq, Int.reduceNeg, Int.reduceToNat, Int.reduceGT, Int.reduceGE]; rfl, by rw [List.drop_zero]; exact R, hl2, E05⟩
        · rintro i env h' I hi next
          obtain ⟨e0, e11, e12, R', hlid, E⟩ := I
          obtain ⟨p, hp⟩ : ∃ p, l[i]? = some p := ⟨_, List.getElem?_eq_getElem hi⟩
          obtain ⟨id, off, b, hix, hid, hb, g0, g1, g2, g3⟩ := P.at_ hp
          have hpm : p ∈ l := List.mem_of_getElem? hp
          obtain ⟨B, hpn, hby, hone⟩ := P.ok p hpm
          have hgp := hpass p hpm
          have hlt := ofNat_lt hi
          have hw : IntKind.wrap .i64 (Int.ofNat i + 1) = Int.ofNat (i + 1) := wrap_succ (by omega)
          have hb' : h'.blk id = some b := (E.blk hid).trans hb
          have w2 : p.xs.length ≤ 20000 := by
            have := total_mem hpm
            omega
          have eX : ∀ o o2, Ext h' ((h'.alloc o).put h'.nx o2) := fun o o2 => ((Ext.refl _).alloc' _).put _ (Nat.le_refl _)
          have hbytes : ∀ b ∈ flat (l.drop i), b < 256 := fun b hb => by
            obtain ⟨p, hp, hbp⟩ := List.mem_flatMap.1 hb
            exact bP_lt (P.ok p (List.mem_of_mem_drop hp)).2.2.1 b hbp
          rw [flat_drop hp] at R' hbytes
          have hrlt := R'.lt
          have hrn : r ≠ h'.nx := by omega
          have hlo := E.nx
          have hrh : h.nx ≤ r := by omega
          have bself : beqC p.v p.v = true := bsl_beq B
          have sX := fun o o2 => BSl.str (B.ext (E.trans (eX o o2))) hby
          have key : ∀ (X1 X2 : H), Ext h' X1 → RdAt X2 r lid (flat (l.drop (i + 1))) → X1.nx ≤ X2.nx → X2.gn = X1.gn → (∀ k, k < X1.nx → k ≠ r → X2.t.get k = X1.t.get k) → ∀ env', evT env' 0 = v → evT env' 11 = .ptr r 0 → evT env' 12 = .int .i64 (Int.ofNat (i + 1)) → MI h v l r lid (i + 1) env' X2 := by
            intro X1 X2 EX R2 n2 g2 o2 env' q0 q11 q12
            have hEX := EX.nx
            refine ⟨q0, q11, q12, R2, by omega, ⟨by omega, g2.trans (EX.gn.trans E.gn), fun k hk => ?_⟩⟩
            rw [o2 k (by omega) (by omega)]
            exact (E.trans EX).old k hk
          by_cases k1 : p.kind = 1
          · have hbp : bP p = (if sizeOk p.size then be p.n p.size.toNat else []) := by unfold bP pB; rw [if_pos k1]
            have hgp' : (sizeOk p.size && decide (p.n / 256 ^ p.size.toNat = 0)) = true := by
              have := hgp
              unfold gP pG at this
              rwa [if_pos k1] at this
            rw [Bool.and_eq_true] at hgp'
            obtain ⟨hs, hz⟩ := hgp'
            rw [hs, if_pos rfl] at hbp
            rw [hbp] at R' hbytes
            obtain ⟨K, hK⟩ : ∃ K : Nat, p.size = Int.ofNat K := by
              have : p.size = 1 ∨ p.size = 2 ∨ p.size = 4 ∨ p.size = 8 := of_decide_eq_true hs
              exact ⟨p.size.toNat, by simp; omega⟩
            rw [hK] at hs hz R' hbytes
            have hzz : p.n < 256 ^ K := by
              have : p.n / 256 ^ K = 0 := of_decide_eq_true hz
              exact (Nat.div_eq_zero_iff.1 this).resolve_left (Nat.ne_of_gt (Nat.pow_pos (by decide)))
            have R' : RdAt h' r lid (be p.n K ++ flat (l.drop (i + 1))) := R'
            simp only [go_sem, Nat.reduceLT, Nat.reduceLeDiff, Nat.reduceEqDiff, Nat.reduceAdd, Nat.reduceSub, Nat.reduceMul, reduceCtorEq, Int.reduceBEq, Int.reduceLT, Int.reduceLE, Int.reduceAdd, Int.reduceSub, Int.reduceEq, Int.reduceNeg, Int.reduceToNat, Int.reduceGT, Int.reduceGE, e0, e11, e12, P.sl.len, hlt, hix, hb', g0, g1, g2, g3, hone, k1, hK]
            rw [cnd_closed]
            rotate_left
            · kernel_rfl
            simp only [go_sem, Nat.reduceLT, Nat.reduceLeDiff, Nat.reduceEqDiff, Nat.reduceAdd, Nat.reduceSub, Nat.reduceMul, reduceCtorEq, Int.reduceBEq, Int.reduceLT, Int.reduceLE, Int.reduceAdd, Int.reduceSub, Int.reduceEq, Int.reduceNeg, Int.reduceToNat, Int.reduceGT, Int.reduceGE, e0, e11, e12, P.sl.len, hlt, hix, hb', g0, g1, g2, g3, hone, k1, hK]
            refine num_step (Q := Tru) (rnumber_run hσ (R'.ext (eX _ _)) (n := K) (by simp [be_len]) hs hbytes) ?_
            intro h2 R2 F
            rw [List.take_append_of_le_length (by rw [be_len]; omega), List.take_of_length_le (by rw [be_len]; omega), val_be K p.n hzz]
            rw [List.drop_append_of_le_length (by rw [be_len]; omega), List.drop_of_length_le (by rw [be_len]; omega), List.nil_append] at R2
            have hb2 := (blk_eq (F.old h'.nx hrn.symm)).trans (put_blk_same _ _ _)
            simp only [go_sem, Nat.reduceLT, Nat.reduceLeDiff, Nat.reduceEqDiff, Nat.reduceAdd, Nat.reduceSub, Nat.reduceMul, reduceCtorEq, Int.reduceBEq, Int.reduceLT, Int.reduceLE, Int.reduceAdd, Int.reduceSub, Int.reduceEq, Int.reduceNeg, Int.reduceToNat, Int.reduceGT, Int.reduceGE, e0, e11, e12, P.sl.len, hlt, hix, hb', g0, g1, g2, g3, hone, k1, hK, hb2, hw]
            rw [cnd_closed]
            rotate_left
            · kernel_rfl
            simp only [go_sem, Nat.reduceLT, Nat.reduceLeDiff, Nat.reduceEqDiff, Nat.reduceAdd, Nat.reduceSub, Nat.reduceMul, reduceCtorEq, Int.reduceBEq, Int.reduceLT, Int.reduceLE, Int.reduceAdd, Int.reduceSub, Int.reduceEq, Int.reduceNeg, Int.reduceToNat, Int.reduceGT, Int.reduceGE, e0, e11, e12, P.sl.len, hlt, hix, hb', g0, g1, g2, g3, hone, k1, hK, hb2, hw]
            exact next _ _ (key _ _ (eX _ _) R2 F.mo.nx F.mo.gn F.mo.old _ (by simp only [go_sem, Nat.reduceLT, Nat.reduceLeDiff, Nat.reduceEqDiff, Nat.reduceAdd, Nat.reduceSub, Nat.reduceMul, reduceCtorEq, Int.reduceBEq, Int.reduceLT, Int.reduceLE, Int.reduceAdd, Int.reduceSub, Int.reduceEq, Int.reduceNeg, Int.reduceToNat, Int.reduceGT, Int.reduceGE, e0]) (by simp only [go_sem, Nat.reduceLT, Nat.reduceLeDiff, Nat.reduceEqDiff, Nat.reduceAdd, Nat.reduceSub, Nat.reduceMul, reduceCtorEq, Int.reduceBEq, Int.reduceLT, Int.reduceLE, Int.reduceAdd, Int.reduceSub, Int.reduceEq, Int.reduceNeg, Int.reduceToNat, Int.reduceGT, Int.reduceGE, e11]) (by simp only [go_sem, Nat.reduceLT, Nat.reduceLeDiff, Nat.reduceEqDiff, Nat.reduceAdd, Nat.reduceSub, Nat.reduceMul, reduceCtorEq, Int.reduceBEq, Int.reduceLT, Int.reduceLE, Int.reduceAdd, Int.reduceSub, Int.reduceEq, Int.reduceNeg, Int.reduceToNat, Int.reduceGT, Int.reduceGE]))
          by_cases k2 : p.kind = 2
          · have hbp : bP p = [if p.n % 2 = 1 then 1 else 0] := by unfold bP pB; simp [k2]
            have q1 : (Int.ofNat p.n).tmod 2 = Int.ofNat (p.n % 2) := rfl
            have q2 : decide (Int.ofNat (p.n % 2) = 1) = decide (p.n % 2 = 1) := by
              by_cases c : p.n % 2 = 1
              · rw [c]; rfl
              · rw [decide_eq_false c]; exact decide_eq_false fun e => c (Int.ofNat.inj e)
            rw [hbp] at R' hbytes
            simp only [go_sem, Nat.reduceLT, Nat.reduceLeDiff, Nat.reduceEqDiff, Nat.reduceAdd, Nat.reduceSub, Nat.reduceMul, reduceCtorEq, Int.reduceBEq, Int.reduceLT, Int.reduceLE, Int.reduceAdd, Int.reduceSub, Int.reduceEq, Int.reduceNeg, Int.reduceToNat, Int.reduceGT, Int.reduceGE, e0, e11, e12, P.sl.len, hlt, hix, hb', g0, g1, g2, g3, hone, k2]
            rw [cnd_closed]
            rotate_left
            · kernel_rfl
            simp only [go_sem, Nat.reduceLT, Nat.reduceLeDiff, Nat.reduceEqDiff, Nat.reduceAdd, Nat.reduceSub, Nat.reduceMul, reduceCtorEq, Int.reduceBEq, Int.reduceLT, Int.reduceLE, Int.reduceAdd, Int.reduceSub, Int.reduceEq, Int.reduceNeg, Int.reduceToNat, Int.reduceGT, Int.reduceGE, e0, e11, e12, P.sl.len, hlt, hix, hb', g0, g1, g2, g3, hone, k2]
            refine flag_step (Q := Tru) (rflagr_run hσ (R'.ext (eX _ _)) (decide (p.n % 2 = 1)) (flat (l.drop (i + 1))) (by by_cases c : p.n % 2 = 1 <;> simp [c]) hbytes) ?_
            intro h2 R2 F
            have hb2 := (blk_eq (F.old h'.nx hrn.symm)).trans (put_blk_same _ _ _)
            simp only [go_sem, Nat.reduceLT, Nat.reduceLeDiff, Nat.reduceEqDiff, Nat.reduceAdd, Nat.reduceSub, Nat.reduceMul, reduceCtorEq, Int.reduceBEq, Int.reduceLT, Int.reduceLE, Int.reduceAdd, Int.reduceSub, Int.reduceEq, Int.reduceNeg, Int.reduceToNat, Int.reduceGT, Int.reduceGE, e0, e11, e12, P.sl.len, hlt, hix, hb', g0, g1, g2, g3, hone, k2, hb2, hw, q1, q2]
            rw [cnd_closed]
            rotate_left
            · kernel_rfl
            simp only [go_sem, Nat.reduceLT, Nat.reduceLeDiff, Nat.reduceEqDiff, Nat.reduceAdd, Nat.reduceSub, Nat.reduceMul, reduceCtorEq, Int.reduceBEq, Int.reduceLT, Int.reduceLE, Int.reduceAdd, Int.reduceSub, Int.reduceEq, Int.reduceNeg, Int.reduceToNat, Int.reduceGT, Int.reduceGE, e0, e11, e12, P.sl.len, hlt, hix, hb', g0, g1, g2, g3, hone, k2, hb2, hw, q1, q2]
            exact next _ _ (key _ _ (eX _ _) R2 F.mo.nx F.mo.gn F.mo.old _ (by simp only [go_sem, Nat.reduceLT, Nat.reduceLeDiff, Nat.reduceEqDiff, Nat.reduceAdd, Nat.reduceSub, Nat.reduceMul, reduceCtorEq, Int.reduceBEq, Int.reduceLT, Int.reduceLE, Int.reduceAdd, Int.reduceSub, Int.reduceEq, Int.reduceNeg, Int.reduceToNat, Int.reduceGT, Int.reduceGE, e0]) (by simp only [go_sem, Nat.reduceLT, Nat.reduceLeDiff, Nat.reduceEqDiff, Nat.reduceAdd, Nat.reduceSub, Nat.reduceMul, reduceCtorEq, Int.reduceBEq, Int.reduceLT, Int.reduceLE, Int.reduceAdd, Int.reduceSub, Int.reduceEq, Int.reduceNeg, Int.reduceToNat, Int.reduceGT, Int.reduceGE, e11]) (by simp only [go_sem, Nat.reduceLT, Nat.reduceLeDiff, Nat.reduceEqDiff, Nat.reduceAdd, Nat.reduceSub, Nat.reduceMul, reduceCtorEq, Int.reduceBEq, Int.reduceLT, Int.reduceLE, Int.reduceAdd, Int.reduceSub, Int.reduceEq, Int.reduceNeg, Int.reduceToNat, Int.reduceGT, Int.reduceGE]))
          by_cases k3 : p.kind = 3
          · have hbp : bP p = p.xs := by unfold bP pB; simp [k3]
            rw [hbp] at R' hbytes
            simp only [go_sem, Nat.reduceLT, Nat.reduceLeDiff, Nat.reduceEqDiff, Nat.reduceAdd, Nat.reduceSub, Nat.reduceMul, reduceCtorEq, Int.reduceBEq, Int.reduceLT, Int.reduceLE, Int.reduceAdd, Int.reduceSub, Int.reduceEq, Int.reduceNeg, Int.reduceToNat, Int.reduceGT, Int.reduceGE, e0, e11, e12, P.sl.len, hlt, hix, hb', g0, g1, g2, g3, hone, k3, B.len, bc_len]
            rw [cnd_closed]
            rotate_left
            · kernel_rfl
            simp only [go_sem, Nat.reduceLT, Nat.reduceLeDiff, Nat.reduceEqDiff, Nat.reduceAdd, Nat.reduceSub, Nat.reduceMul, reduceCtorEq, Int.reduceBEq, Int.reduceLT, Int.reduceLE, Int.reduceAdd, Int.reduceSub, Int.reduceEq, Int.reduceNeg, Int.reduceToNat, Int.reduceGT, Int.reduceGE, e0, e11, e12, P.sl.len, hlt, hix, hb', g0, g1, g2, g3, hone, k3, B.len, bc_len]
            refine byt_step (Q := Tru) (rbytes_run hσ (R'.ext (eX _ _)) (n := p.xs.length) (by simp) (by omega)) ?_
            intro u h2 B2 R2 F
            rw [List.take_append_of_le_length (Nat.le_refl _), List.take_of_length_le (Nat.le_refl _)] at B2
            rw [List.drop_append_of_le_length (Nat.le_refl _), List.drop_of_length_le (Nat.le_refl _), List.nil_append] at R2
            have hb2 := (blk_eq (F.old h'.nx (by simp only [go_sem, Nat.reduceLT, Nat.reduceLeDiff, Nat.reduceEqDiff, Nat.reduceAdd, Nat.reduceSub, Nat.reduceMul, reduceCtorEq, Int.reduceBEq, Int.reduceLT, Int.reduceLE, Int.reduceAdd, Int.reduceSub, Int.reduceEq, Int.reduceNeg, Int.reduceToNat, Int.reduceGT, Int.reduceGE]) hrn.symm)).trans (put_blk_same _ _ _)
            have s1 := BSl.str B2 hby
            have s2 := BSl.str (B.ext (F.ext (E.trans (eX _ _)) hrh)) hby
            simp only [go_sem, Nat.reduceLT, Nat.reduceLeDiff, Nat.reduceEqDiff, Nat.reduceAdd, Nat.reduceSub, Nat.reduceMul, reduceCtorEq, Int.reduceBEq, Int.reduceLT, Int.reduceLE, Int.reduceAdd, Int.reduceSub, Int.reduceEq, Int.reduceNeg, Int.reduceToNat, Int.reduceGT, Int.reduceGE, e0, e11, e12, P.sl.len, hlt, hix, hb', g0, g1, g2, g3, hone, k3, B.len, bc_len, hb2, s1, s2, sX, hw]
            rw [cnd_closed]
            rotate_left
            · kernel_rfl
            simp only [go_sem, Nat.reduceLT, Nat.reduceLeDiff, Nat.reduceEqDiff, Nat.reduceAdd, Nat.reduceSub, Nat.reduceMul, reduceCtorEq, Int.reduceBEq, Int.reduceLT, Int.reduceLE, Int.reduceAdd, Int.reduceSub, Int.reduceEq, Int.reduceNeg, Int.reduceToNat, Int.reduceGT, Int.reduceGE, e0, e11, e12, P.sl.len, hlt, hix, hb', g0, g1, g2, g3, hone, k3, B.len, bc_len, hb2, s1, s2, sX, hw, bself]
            rw [cond_al (i := 5) (d := [])]
            rotate_left
            · kernel_rfl
            simp only [go_sem, Nat.reduceLT, Nat.reduceLeDiff, Nat.reduceEqDiff, Nat.reduceAdd, Nat.reduceSub, Nat.reduceMul, reduceCtorEq, Int.reduceBEq, Int.reduceLT, Int.reduceLE, Int.reduceAdd, Int.reduceSub, Int.reduceEq, Int.reduceNeg, Int.reduceToNat, Int.reduceGT, Int.reduceGE, e0, e11, e12, P.sl.len, hlt, hix, hb', g0, g1, g2, g3, hone, k3, B.len, bc_len, hb2, s1, s2, sX, hw, bself]
            exact next _ _ (key _ _ (eX _ _) R2 F.nx F.gn F.old _ (by simp only [go_sem, Nat.reduceLT, Nat.reduceLeDiff, Nat.reduceEqDiff, Nat.reduceAdd, Nat.reduceSub, Nat.reduceMul, reduceCtorEq, Int.reduceBEq, Int.reduceLT, Int.reduceLE, Int.reduceAdd, Int.reduceSub, Int.reduceEq, Int.reduceNeg, Int.reduceToNat, Int.reduceGT, Int.reduceGE, e0]) (by simp only [go_sem, Nat.reduceLT, Nat.reduceLeDiff, Nat.reduceEqDiff, Nat.reduceAdd, Nat.reduceSub, Nat.reduceMul, reduceCtorEq, Int.reduceBEq, Int.reduceLT, Int.reduceLE, Int.reduceAdd, Int.reduceSub, Int.reduceEq, Int.reduceNeg, Int.reduceToNat, Int.reduceGT, Int.reduceGE, e11]) (by simp only [go_sem, Nat.reduceLT, Nat.reduceLeDiff, Nat.reduceEqDiff, Nat.reduceAdd, Nat.reduceSub, Nat.reduceMul, reduceCtorEq, Int.reduceBEq, Int.reduceLT, Int.reduceLE, Int.reduceAdd, Int.reduceSub, Int.reduceEq, Int.reduceNeg, Int.reduceToNat, Int.reduceGT, Int.reduceGE]))
          by_cases k4 : p.kind = 4
          · have hbp : bP p = be p.xs.length 2 ++ p.xs := by unfold bP pB; simp [k4]
            rw [hbp] at R' hbytes
            simp only [go_sem, Nat.reduceLT, Nat.reduceLeDiff, Nat.reduceEqDiff, Nat.reduceAdd, Nat.reduceSub, Nat.reduceMul, reduceCtorEq, Int.reduceBEq, Int.reduceLT, Int.reduceLE, Int.reduceAdd, Int.reduceSub, Int.reduceEq, Int.reduceNeg, Int.reduceToNat, Int.reduceGT, Int.reduceGE, e0, e11, e12, P.sl.len, hlt, hix, hb', g0, g1, g2, g3, hone, k4]
            rw [cnd_closed]
            rotate_left
            · kernel_rfl
            simp only [go_sem, Nat.reduceLT, Nat.reduceLeDiff, Nat.reduceEqDiff, Nat.reduceAdd, Nat.reduceSub, Nat.reduceMul, reduceCtorEq, Int.reduceBEq, Int.reduceLT, Int.reduceLE, Int.reduceAdd, Int.reduceSub, Int.reduceEq, Int.reduceNeg, Int.reduceToNat, Int.reduceGT, Int.reduceGE, e0, e11, e12, P.sl.len, hlt, hix, hb', g0, g1, g2, g3, hone, k4]
            refine blob_step (Q := Tru) (rblobr_run hσ (R'.ext (eX _ _)) w2 hbytes) ?_
            intro u h2 B2 R2 F
            have hb2 := (blk_eq (F.old h'.nx (by simp only [go_sem, Nat.reduceLT, Nat.reduceLeDiff, Nat.reduceEqDiff, Nat.reduceAdd, Nat.reduceSub, Nat.reduceMul, reduceCtorEq, Int.reduceBEq, Int.reduceLT, Int.reduceLE, Int.reduceAdd, Int.reduceSub, Int.reduceEq, Int.reduceNeg, Int.reduceToNat, Int.reduceGT, Int.reduceGE]) hrn.symm)).trans (put_blk_same _ _ _)
            have s1 := BSl.str B2 hby
            have s2 := BSl.str (B.ext (F.ext (E.trans (eX _ _)) hrh)) hby
            simp only [go_sem, Nat.reduceLT, Nat.reduceLeDiff, Nat.reduceEqDiff, Nat.reduceAdd, Nat.reduceSub, Nat.reduceMul, reduceCtorEq, Int.reduceBEq, Int.reduceLT, Int.reduceLE, Int.reduceAdd, Int.reduceSub, Int.reduceEq, Int.reduceNeg, Int.reduceToNat, Int.reduceGT, Int.reduceGE, e0, e11, e12, P.sl.len, hlt, hix, hb', g0, g1, g2, g3, hone, k4, hb2, s1, s2, sX, hw]
            rw [cnd_closed]
            rotate_left
            · kernel_rfl
            simp only [go_sem, Nat.reduceLT, Nat.reduceLeDiff, Nat.reduceEqDiff, Nat.reduceAdd, Nat.reduceSub, Nat.reduceMul, reduceCtorEq, Int.reduceBEq, Int.reduceLT, Int.reduceLE, Int.reduceAdd, Int.reduceSub, Int.reduceEq, Int.reduceNeg, Int.reduceToNat, Int.reduceGT, Int.reduceGE, e0, e11, e12, P.sl.len, hlt, hix, hb', g0, g1, g2, g3, hone, k4, hb2, s1, s2, sX, hw, bself]
            rw [cond_al (i := 2) (d := [])]
            rotate_left
            · kernel_rfl
            simp only [go_sem, Nat.reduceLT, Nat.reduceLeDiff, Nat.reduceEqDiff, Nat.reduceAdd, Nat.reduceSub, Nat.reduceMul, reduceCtorEq, Int.reduceBEq, Int.reduceLT, Int.reduceLE, Int.reduceAdd, Int.reduceSub, Int.reduceEq, Int.reduceNeg, Int.reduceToNat, Int.reduceGT, Int.reduceGE, e0, e11, e12, P.sl.len, hlt, hix, hb', g0, g1, g2, g3, hone, k4, hb2, s1, s2, sX, hw, bself]
            exact next _ _ (key _ _ (eX _ _) R2 F.nx F.gn F.old _ (by simp only [go_sem, Nat.reduceLT, Nat.reduceLeDiff, Nat.reduceEqDiff, Nat.reduceAdd, Nat.reduceSub, Nat.reduceMul, reduceCtorEq, Int.reduceBEq, Int.reduceLT, Int.reduceLE, Int.reduceAdd, Int.reduceSub, Int.reduceEq, Int.reduceNeg, Int.reduceToNat, Int.reduceGT, Int.reduceGE, e0]) (by simp only [go_sem, Nat.reduceLT, Nat.reduceLeDiff, Nat.reduceEqDiff, Nat.reduceAdd, Nat.reduceSub, Nat.reduceMul, reduceCtorEq, Int.reduceBEq, Int.reduceLT, Int.reduceLE, Int.reduceAdd, Int.reduceSub, Int.reduceEq, Int.reduceNeg, Int.reduceToNat, Int.reduceGT, Int.reduceGE, e11]) (by simp only [go_sem, Nat.reduceLT, Nat.reduceLeDiff, Nat.reduceEqDiff, Nat.reduceAdd, Nat.reduceSub, Nat.reduceMul, reduceCtorEq, Int.reduceBEq, Int.reduceLT, Int.reduceLE, Int.reduceAdd, Int.reduceSub, Int.reduceEq, Int.reduceNeg, Int.reduceToNat, Int.reduceGT, Int.reduceGE]))
          by_cases k5 : p.kind = 5
          · have hgp' : 0 ≤ p.size ∧ p.size ≤ 255 := by
              have := hgp
              unfold gP pG at this
              simp [k5] at this
              exact this
            have hbp : bP p = [p.size.toNat] := by
              unfold bP pB; simp [k5]; omega
            rw [hbp] at R' hbytes
            obtain ⟨K, hK⟩ : ∃ K : Nat, p.size = Int.ofNat K := ⟨p.size.toNat, by simp; omega⟩
            rw [hK] at R' hbytes
            simp only [go_sem, Nat.reduceLT, Nat.reduceLeDiff, Nat.reduceEqDiff, Nat.reduceAdd, Nat.reduceSub, Nat.reduceMul, reduceCtorEq, Int.reduceBEq, Int.reduceLT, Int.reduceLE, Int.reduceAdd, Int.reduceSub, Int.reduceEq, Int.reduceNeg, Int.reduceToNat, Int.reduceGT, Int.reduceGE, e0, e11, e12, P.sl.len, hlt, hix, hb', g0, g1, g2, g3, hone, k5, hK]
            rw [cnd_closed]
            rotate_left
            · kernel_rfl
            simp only [go_sem, Nat.reduceLT, Nat.reduceLeDiff, Nat.reduceEqDiff, Nat.reduceAdd, Nat.reduceSub, Nat.reduceMul, reduceCtorEq, Int.reduceBEq, Int.reduceLT, Int.reduceLE, Int.reduceAdd, Int.reduceSub, Int.reduceEq, Int.reduceNeg, Int.reduceToNat, Int.reduceGT, Int.reduceGE, e0, e11, e12, P.sl.len, hlt, hix, hb', g0, g1, g2, g3, hone, k5, hK]
            have R' : RdAt h' r lid (K :: flat (l.drop (i + 1))) := R'
            have hbytes : ∀ b ∈ K :: flat (l.drop (i + 1)), b < 256 := hbytes
            refine count_step (Q := Tru) (rcount_run hσ (R'.ext (eX _ _)) hbytes) ?_
            intro h2 R2 F
            have hb2 := (blk_eq (F.old h'.nx hrn.symm)).trans (put_blk_same _ _ _)
            simp only [go_sem, Nat.reduceLT, Nat.reduceLeDiff, Nat.reduceEqDiff, Nat.reduceAdd, Nat.reduceSub, Nat.reduceMul, reduceCtorEq, Int.reduceBEq, Int.reduceLT, Int.reduceLE, Int.reduceAdd, Int.reduceSub, Int.reduceEq, Int.reduceNeg, Int.reduceToNat, Int.reduceGT, Int.reduceGE, e0, e11, e12, P.sl.len, hlt, hix, hb', g0, g1, g2, g3, hone, k5, hK, hb2, hw]
            rw [cnd_closed]
            rotate_left
            · kernel_rfl
            simp only [go_sem, Nat.reduceLT, Nat.reduceLeDiff, Nat.reduceEqDiff, Nat.reduceAdd, Nat.reduceSub, Nat.reduceMul, reduceCtorEq, Int.reduceBEq, Int.reduceLT, Int.reduceLE, Int.reduceAdd, Int.reduceSub, Int.reduceEq, Int.reduceNeg, Int.reduceToNat, Int.reduceGT, Int.reduceGE, e0, e11, e12, P.sl.len, hlt, hix, hb', g0, g1, g2, g3, hone, k5, hK, hb2, hw]
            exact next _ _ (key _ _ (eX _ _) R2 F.mo.nx F.mo.gn F.mo.old _ (by simp only [go_sem, Nat.reduceLT, Nat.reduceLeDiff, Nat.reduceEqDiff, Nat.reduceAdd, Nat.reduceSub, Nat.reduceMul, reduceCtorEq, Int.reduceBEq, Int.reduceLT, Int.reduceLE, Int.reduceAdd, Int.reduceSub, Int.reduceEq, Int.reduceNeg, Int.reduceToNat, Int.reduceGT, Int.reduceGE, e0]) (by simp only [go_sem, Nat.reduceLT, Nat.reduceLeDiff, Nat.reduceEqDiff, Nat.reduceAdd, Nat.reduceSub, Nat.reduceMul, reduceCtorEq, Int.reduceBEq, Int.reduceLT, Int.reduceLE, Int.reduceAdd, Int.reduceSub, Int.reduceEq, Int.reduceNeg, Int.reduceToNat, Int.reduceGT, Int.reduceGE, e11]) (by simp only [go_sem, Nat.reduceLT, Nat.reduceLeDiff, Nat.reduceEqDiff, Nat.reduceAdd, Nat.reduceSub, Nat.reduceMul, reduceCtorEq, Int.reduceBEq, Int.reduceLT, Int.reduceLE, Int.reduceAdd, Int.reduceSub, Int.reduceEq, Int.reduceNeg, Int.reduceToNat, Int.reduceGT, Int.reduceGE]))
          by_cases k6 : p.kind = 6
          · have hbp : bP p = blkL p.xs := by unfold bP pB; simp [k6]
            rw [hbp] at R' hbytes
            simp only [go_sem, Nat.reduceLT, Nat.reduceLeDiff, Nat.reduceEqDiff, Nat.reduceAdd, Nat.reduceSub, Nat.reduceMul, reduceCtorEq, Int.reduceBEq, Int.reduceLT, Int.reduceLE, Int.reduceAdd, Int.reduceSub, Int.reduceEq, Int.reduceNeg, Int.reduceToNat, Int.reduceGT, Int.reduceGE, e0, e11, e12, P.sl.len, hlt, hix, hb', g0, g1, g2, g3, hone, k6]
            rw [cnd_closed]
            rotate_left
            · kernel_rfl
            simp only [go_sem, Nat.reduceLT, Nat.reduceLeDiff, Nat.reduceEqDiff, Nat.reduceAdd, Nat.reduceSub, Nat.reduceMul, reduceCtorEq, Int.reduceBEq, Int.reduceLT, Int.reduceLE, Int.reduceAdd, Int.reduceSub, Int.reduceEq, Int.reduceNeg, Int.reduceToNat, Int.reduceGT, Int.reduceGE, e0, e11, e12, P.sl.len, hlt, hix, hb', g0, g1, g2, g3, hone, k6]
            refine block_step (Q := Tru) (rblock_run hσ (R'.ext (eX _ _)) (by simp only [go_sem, Nat.reduceLT, Nat.reduceLeDiff, Nat.reduceEqDiff, Nat.reduceAdd, Nat.reduceSub, Nat.reduceMul, reduceCtorEq, Int.reduceBEq, Int.reduceLT, Int.reduceLE, Int.reduceAdd, Int.reduceSub, Int.reduceEq, Int.reduceNeg, Int.reduceToNat, Int.reduceGT, Int.reduceGE]; omega) (blkL_len _)) ?_
            intro h2 R2 F
            have hb2 := (blk_eq (F.old h'.nx (by simp only [go_sem, Nat.reduceLT, Nat.reduceLeDiff, Nat.reduceEqDiff, Nat.reduceAdd, Nat.reduceSub, Nat.reduceMul, reduceCtorEq, Int.reduceBEq, Int.reduceLT, Int.reduceLE, Int.reduceAdd, Int.reduceSub, Int.reduceEq, Int.reduceNeg, Int.reduceToNat, Int.reduceGT, Int.reduceGE]) hrn.symm)).trans (put_blk_same _ _ _)
            have eBX : ∀ o o2, (lim Try.prog σ).call 42 [p.v] ((h'.alloc o).put h'.nx o2) = some (.agg (bc (blkL p.xs)), none) := fun o o2 => block_of hσ (B.ext (E.trans (eX o o2)))
            have eB : (lim Try.prog σ).call 42 [p.v] h2 = some (.agg (bc (blkL p.xs)), none) := block_of hσ (B.ext (F.ext (E.trans (eX _ _)) hrh))
            simp only [go_sem, Nat.reduceLT, Nat.reduceLeDiff, Nat.reduceEqDiff, Nat.reduceAdd, Nat.reduceSub, Nat.reduceMul, reduceCtorEq, Int.reduceBEq, Int.reduceLT, Int.reduceLE, Int.reduceAdd, Int.reduceSub, Int.reduceEq, Int.reduceNeg, Int.reduceToNat, Int.reduceGT, Int.reduceGE, e0, e11, e12, P.sl.len, hlt, hix, hb', g0, g1, g2, g3, hone, k6, hb2, hw, eB, eq_85 _ _ _ (blkL_len p.xs)]
            rw [cnd_closed]
            rotate_left
            · kernel_rfl
            simp only [go_sem, Nat.reduceLT, Nat.reduceLeDiff, Nat.reduceEqDiff, Nat.reduceAdd, Nat.reduceSub, Nat.reduceMul, reduceCtorEq, Int.reduceBEq, Int.reduceLT, Int.reduceLE, Int.reduceAdd, Int.reduceSub, Int.reduceEq, Int.reduceNeg, Int.reduceToNat, Int.reduceGT, Int.reduceGE, e0, e11, e12, P.sl.len, hlt, hix, hb', g0, g1, g2, g3, hone, k6, hb2, hw, eB, eBX, bself, eq_85 _ _ _ (blkL_len p.xs)]
            rw [cond_al (i := 4) (d := [])]
            rotate_left
            · kernel_rfl
            simp only [go_sem, Nat.reduceLT, Nat.reduceLeDiff, Nat.reduceEqDiff, Nat.reduceAdd, Nat.reduceSub, Nat.reduceMul, reduceCtorEq, Int.reduceBEq, Int.reduceLT, Int.reduceLE, Int.reduceAdd, Int.reduceSub, Int.reduceEq, Int.reduceNeg, Int.reduceToNat, Int.reduceGT, Int.reduceGE, e0, e11, e12, P.sl.len, hlt, hix, hb', g0, g1, g2, g3, hone, k6, hb2, hw, eB, eBX, bself, eq_85 _ _ _ (blkL_len p.xs)]
            exact next _ _ (key _ _ (eX _ _) R2 F.nx F.gn F.old _ (by simp only [go_sem, Nat.reduceLT, Nat.reduceLeDiff, Nat.reduceEqDiff, Nat.reduceAdd, Nat.reduceSub, Nat.reduceMul, reduceCtorEq, Int.reduceBEq, Int.reduceLT, Int.reduceLE, Int.reduceAdd, Int.reduceSub, Int.reduceEq, Int.reduceNeg, Int.reduceToNat, Int.reduceGT, Int.reduceGE, e0]) (by simp only [go_sem, Nat.reduceLT, Nat.reduceLeDiff, Nat.reduceEqDiff, Nat.reduceAdd, Nat.reduceSub, Nat.reduceMul, reduceCtorEq, Int.reduceBEq, Int.reduceLT, Int.reduceLE, Int.reduceAdd, Int.reduceSub, Int.reduceEq, Int.reduceNeg, Int.reduceToNat, Int.reduceGT, Int.reduceGE, e11]) (by simp only [go_sem, Nat.reduceLT, Nat.reduceLeDiff, Nat.reduceEqDiff, Nat.reduceAdd, Nat.reduceSub, Nat.reduceMul, reduceCtorEq, Int.reduceBEq, Int.reduceLT, Int.reduceLE, Int.reduceAdd, Int.reduceSub, Int.reduceEq, Int.reduceNeg, Int.reduceToNat, Int.reduceGT, Int.reduceGE]))
          have hbp : bP p = [] := by unfold bP pB; simp [k1, k2, k3, k4, k5, k6]
          rw [hbp] at R'
          simp only [go_sem, Nat.reduceLT, Nat.reduceLeDiff, Nat.reduceEqDiff, Nat.reduceAdd, Nat.reduceSub, Nat.reduceMul, reduceCtorEq, Int.reduceBEq, Int.reduceLT, Int.reduceLE, Int.reduceAdd, Int.reduceSub, Int.reduceEq, Int.reduceNeg, Int.reduceToNat, Int.reduceGT, Int.reduceGE, e0, e11, e12, P.sl.len, hlt, hix, hb', g0, g1, g2, g3, hone, k1, k2, k3, k4, k5, k6, hw]
          exact next _ _ (key _ _ (eX _ _) (R'.ext (eX _ _)) (Nat.le_refl _) rfl (fun _ _ _ => rfl) _ (by simp only [go_sem, Nat.reduceLT, Nat.reduceLeDiff, Nat.reduceEqDiff, Nat.reduceAdd, Nat.reduceSub, Nat.reduceMul, reduceCtorEq, Int.reduceBEq, Int.reduceLT, Int.reduceLE, Int.reduceAdd, Int.reduceSub, Int.reduceEq, Int.reduceNeg, Int.reduceToNat, Int.reduceGT, Int.reduceGE, e0]) (by simp only [go_sem, Nat.reduceLT, Nat.reduceLeDiff, Nat.reduceEqDiff, Nat.reduceAdd, Nat.reduceSub, Nat.reduceMul, reduceCtorEq, Int.reduceBEq, Int.reduceLT, Int.reduceLE, Int.reduceAdd, Int.reduceSub, Int.reduceEq, Int.reduceNeg, Int.reduceToNat, Int.reduceGT, Int.reduceGE, e11]) (by simp only [go_sem, Nat.reduceLT, Nat.reduceLeDiff, Nat.reduceEqDiff, Nat.reduceAdd, Nat.reduceSub, Nat.reduceMul, reduceCtorEq, Int.reduceBEq, Int.reduceLT, Int.reduceLE, Int.reduceAdd, Int.reduceSub, Int.reduceEq, Int.reduceNeg, Int.reduceToNat, Int.reduceGT, Int.reduceGE]))
        · rintro env h' I
          obtain ⟨e0, e11, e12, R', hlid, E⟩ := I
          have hlt := ofNat_nlt (Nat.le_refl l.length)
          rw [List.drop_length] at R'
          have er := rend_run hσ R'
          unfold EndR at er
          simp only [go_sem, Nat.reduceLT, Nat.reduceLeDiff, Nat.reduceEqDiff, Nat.reduceAdd, Nat.reduceSub, Nat.reduceMul, reduceCtorEq, Int.reduceBEq, Int.reduceLT, Int.reduceLE, Int.reduceAdd, Int.reduceSub, Int.reduceEq, Int.reduceNeg, Int.reduceToNat, Int.reduceGT, Int.reduceGE, e0, e11, e12, P.sl.len, hlt, er, num32_run hσ, tru_fin]
  · simp only [go_sem, Nat.reduceLT, Nat.reduceLeDiff, Nat.reduceEqDiff, Nat.reduceAdd, Nat.reduceSub, Nat.reduceMul, reduceCtorEq, Int.reduceBEq, Int.reduceLT, Int.reduceLE, Int.reduceAdd, Int.reduceSub, Int.reduceEq, Int.reduceNeg, Int.reduceToNat, Int.reduceGT, Int.reduceGE, hm _ (Ext.lo h), hmu, hk, tru_fin]
end Go.Cl.A

namespace Go.Cl.A

theorem cellsOf_5 : Try.prog.cellsOf 5 = 1 := by kernel_rfl
theorem cellsOf_3w : Try.prog.cellsOf 3 = 1 := by kernel_rfl
theorem cellsOf_50 : Try.prog.cellsOf 50 = 1 := by kernel_rfl
theorem cellsOf_67 : Try.prog.cellsOf 67 = 1 := by kernel_rfl

theorem bsl_of {h : H} {v : CV} (r : Rd Try.prog h 67 [v]) : ∃ bs : List Nat, BSl h v (bc bs) ∧ (∀ b ∈ bs, b < 256) ∧ v.one = true := by
  generalize hcs : [v] = cs at r
  cases r with
  | nils ht => simp at hcs; subst hcs; exact ⟨[], .inl ⟨rfl, rfl⟩, by simp, rfl⟩
  | sl0 id ht hid => simp at hcs; subst hcs; exact ⟨[], .inr (.inl ⟨rfl, id, 0, 0, 0, rfl⟩), by simp, rfl⟩
  | sl id len cap b xs ht hid hl hcap hb hro hxl hxg hx =>
    simp at hcs; subst hcs
    rw [Try.underlying67] at ht; cases ht
    rw [cellsOf_5] at hxl hxg
    obtain ⟨l, hll, hq⟩ := list_of (Q := fun i (m : Nat) => xs i = [.int .u8 (Int.ofNat m)] ∧ m < 256) len fun i hi => by
      obtain ⟨m, e, h1, h2⟩ := (hx i hi).int_inv Try.underlying5
      have h1 : 0 ≤ m := h1
      have h2 : m ≤ 255 := h2
      exact ⟨m.toNat, by rw [e]; congr 2; simp; omega, by omega⟩
    refine ⟨l, .inr (.inr ⟨id, 0, _, b, by rw [bc_len, hll], hid, hb, loadN_of _ _ _ rfl fun i v hv => ?_⟩), fun b hb => ?_, rfl⟩
    · have hi := nlt hv
      rw [bc_len, hll] at hi
      obtain ⟨m, hm⟩ : ∃ m, l[i]? = some m := ⟨_, List.getElem?_eq_getElem (by omega)⟩
      have e := (hq i m hm).1
      have := hxg i 0 (.int .u8 (Int.ofNat m)) hi (by rw [e]; rfl)
      rw [Nat.zero_add]
      rw [nth_eq] at hv
      simp [bc, hm] at hv
      rw [← hv]
      simpa using this
    · obtain ⟨i, hi, rfl⟩ := List.getElem_of_mem hb
      exact (hq i _ (List.getElem?_eq_getElem hi)).2
  | _ => simp_all

set_option maxRecDepth 100000 in
theorem part_of {h : H} {xs : List CV} (hl : xs.length = 4) (r : Rd Try.prog h 71 xs) : ∃ p : Part, xs = [.int .i64 p.kind, .int .i64 p.size, .int .u64 (Int.ofNat p.n), p.v] ∧ BSl h p.v (bc p.xs) ∧ p.n < 2 ^ 64 ∧ (∀ b ∈ p.xs, b < 256) ∧ p.v.one = true := by
  obtain ⟨_, hf⟩ := r.struct_inv Try.underlying71
  have h0 := hf _ (List.mem_cons_self)
  have h1 := hf _ (List.mem_cons_of_mem _ List.mem_cons_self)
  have h2 := hf _ (List.mem_cons_of_mem _ (List.mem_cons_of_mem _ List.mem_cons_self))
  have h3 := hf _ (List.mem_cons_of_mem _ (List.mem_cons_of_mem _ (List.mem_cons_of_mem _ List.mem_cons_self)))
  simp only [cellsOf_3w, cellsOf_50, cellsOf_67] at h0 h1 h2 h3
  obtain ⟨kind, e0, _⟩ := h0.int_inv Try.underlying3
  obtain ⟨size, e1, _⟩ := h1.int_inv Try.underlying3
  obtain ⟨n, e2, n1, n2⟩ := h2.int_inv Try.underlying50
  have n1 : 0 ≤ n := n1
  have n2 : n ≤ 18446744073709551615 := n2
  match xs, hl with
  | [x, y, z, w], _ =>
    simp at e0 e1 e2
    subst e0 e1 e2
    have h3' : Rd Try.prog h 67 [w] := h3
    obtain ⟨bs, q1, q2, q3⟩ := bsl_of h3'
    refine ⟨⟨kind, size, n.toNat, w, bs⟩, by simp; omega, q1, by show n.toNat < 2 ^ 64; omega, q2, q3⟩

theorem parts_of {h : H} {c : CV} (a : Arg Try.prog h 65 c) : ∃ l : List Part, Parts h c l := by
  have h1 : c.one = true := by rcases a.one with ⟨_, h⟩ | ⟨_, _, h⟩ | h; rw [Try.underlying65] at h; cases h; rw [Try.underlying65] at h; cases h; exact h
  have r := a.rd
  rw [cells_one h1] at r
  obtain ⟨n, xs, _, hx, hs⟩ := r.slice_inv Try.underlying65 sz_71
  obtain ⟨l, hl, hq⟩ := list_of (Q := fun i (p : Part) => xs i = [.int .i64 p.kind, .int .i64 p.size, .int .u64 (Int.ofNat p.n), p.v] ∧ BSl h p.v (bc p.xs) ∧ p.n < 2 ^ 64 ∧ (∀ b ∈ p.xs, b < 256) ∧ p.v.one = true) n fun i hi => part_of (hx i hi).1 (hx i hi).2
  subst hl
  refine ⟨l, hs _ fun i j x hi hj hn => ?_, fun p hp => ?_⟩
  · obtain ⟨g, hg⟩ : ∃ g, l[i]? = some g := ⟨_, List.getElem?_eq_getElem hi⟩
    obtain ⟨g0, g1, g2, g3⟩ := pcells_at l i g hg
    rw [(hq i g hg).1]
    match j, hj with
    | 0, _ => rw [Nat.add_zero, g0] at hn; cases hn; rfl
    | 1, _ => rw [g1] at hn; cases hn; rfl
    | 2, _ => rw [g2] at hn; cases hn; rfl
    | 3, _ => rw [g3] at hn; cases hn; rfl
  · obtain ⟨i, hi, rfl⟩ := List.getElem_of_mem hp
    exact (hq i _ (List.getElem?_eq_getElem hi)).2
end Go.Cl.A

namespace Go.Proofs.Ytbdokmhibgpjhaa
open Go.ChangeShapes Go.WideShapes Go.ChangeAt Go.RowKit Go.Cl Go.Cl.A

theorem wireMeans_own : ownKnob Try.prog.godebug = none := by kernel_rfl
theorem wireMeans_mixed : Try.prog.follows .mixedOrders = true := by kernel_rfl
theorem wireMeans_plain : plainB Try.prog = true := by kernel_rfl
theorem wireMeans_laidOut : laidOutB Try.prog = true := by kernel_rfl
set_option maxRecDepth 1000000 in
theorem wireMeans_known : (callK Try.prog noSums 10000000 28 [] (h0 0)).map Prod.fst = some (.bool true) := by kernel_rfl

set_option maxRecDepth 100000 in
theorem wireMeans_lifted (os : Os) (started : os.Started) (H : Type) (enc : TypeId × Value → H) :
    ReturnsInHanded {} Try.checked os 8 .any (Rows.wireMeansSpec.pre6 enc Try.prog Try.f8 Rows.wireMeansRow.domain false) (Rows.wireMeansSpec.post enc Try.prog Try.f8 false true false false) := by
  refine returnsInHanded_of_change (C := Try.checked) wireMeans_own started (by kernel_rfl) Try.func8
    (ChangeSpec.witness6 (enc := enc) (C := Try.checked) false ⟨#[], #[.slice none 0 0, .int .u64 0, .int .u64 0], []⟩ 8 (by kernel_rfl) (by kernel_rfl) (by kernel_rfl) (by kernel_rfl)) ?_
  intro W base args ds gs before hval hW _ _
  have hW' := hW
  obtain ⟨p, q, hA0, hV, hpq, hfz, _⟩ := hW
  have hlt := hW'.lt
  have hA : DataW.TrodAll enc Try.prog W 0 (fun _ => true) true Try.f8.params.toList args.toList ds p := hA0
  rw [Try.params8] at hA
  obtain ⟨v0, v1, v2, d0, d1, d2, p0, p1, p2, rfl, rfl, rfl, t0, t1, t2⟩ := trodAll_three hA
  obtain ⟨rfl, rfl⟩ := trodVars_none hV
  subst hpq
  have hv : ∀ (j : Nat) t v, (#[65, 50, 50] : Array Nat)[j]? = some t → (#[v0, v1, v2] : Array Value)[j]? = some v → Value.okWide Try.prog W .any base t v := by
    intro j t v hj hvj
    exact hval j t v (by rw [Try.params8]; exact hj) hvj
  have rel := rel0 W
  have a0 : ∀ id o, (h0 0).t.get id = some o → o.ro = true := fun id o ho => by rw [show (h0 0).t = T.nil from rfl, T.get_nil] at ho; cases ho
  obtain ⟨h1, f1, c0, r1, g1, e0, A0⟩ := layArg (n := 8) (t := 65) (by kernel_rfl) (hv 0 65 v0 rfl rfl) t0 rel a0
  have b1 := g1.all a0
  obtain ⟨h2, f2, c1, r2, g2, e1, A1⟩ := layArg (n := 8) (t := 50) (by kernel_rfl) (hv 1 50 v1 rfl rfl) t1 r1 b1
  have b2 := g2.all b1
  obtain ⟨h3, f3, c2, r3, g3, e2, A2⟩ := layArg (n := 8) (t := 50) (by kernel_rfl) (hv 2 50 v2 rfl rfl) t2 r2 b2
  have b3 := g3.all b2
  have B0 := ((A0).mono g2).mono g3
  have B1 := (A1).mono g3
  have B2 := A2
  obtain ⟨l, P0⟩ := parts_of B0
  obtain ⟨n, rfl, n1, n2⟩ := B1.int_inv Try.underlying50
  obtain ⟨m, rfl, m1, m2⟩ := B2.int_inv Try.underlying50
  have n1 : 0 ≤ n := n1
  have n2 : n ≤ 18446744073709551615 := n2
  have m1 : 0 ≤ m := m1
  have run : Tru ((lim Try.prog (tell 28 (.bool true))).call 8 [c0, .int .u64 n, .int .u64 m] h3) := by
    obtain ⟨n', rfl⟩ := Int.eq_ofNat_of_zero_le n1
    obtain ⟨m', rfl⟩ := Int.eq_ofNat_of_zero_le m1
    exact wmeans_run (σ := tell 28 (.bool true)) tell_other tell_self P0 n' m' (by omega)
  have hc := open_calls wireMeans_plain wireMeans_mixed (tell_ok wireMeans_plain wireMeans_mixed wireMeans_known rfl) r3 b3 (args := [c0, .int .u64 n, .int .u64 m]) (by simp only [okL]; exact ⟨B0.ok, B1.ok, B2.ok, trivial⟩) run
  have hr : (renL f3 [c0, .int .u64 n, .int .u64 m]).toArray = #[v0, v1, v2] := by
    rw [← e0, ← e1, ← e2]
    simp only [renL, ren_congr g2.agree _ (A0).ok, ren_congr g3.agree _ ((A0).mono g2).ok, ren_congr g3.agree _ (A1).ok]
  rw [hr] at hc
  refine hc.mono fun e W' ⟨he, hb⟩ => ?_
  subst he
  refine ⟨_, rfl, ?_⟩
  have hl : ∀ x ∈ (p0 ++ p1 ++ p2) ++ [], x.block < W.heap.size := hW'.lt
  exact ⟨_, _, _, [], _, [], hW', trodAll_mk1 (shut_bool Try.underlying4 _),
    trodAll_mk3 (Below.trod wireMeans_laidOut (by kernel_rfl) (of_decide_eq_true (by kernel_rfl)) t0 hb fun x hx => hl x (by simp [hx])) (Below.trod wireMeans_laidOut (by kernel_rfl) (of_decide_eq_true (by kernel_rfl)) t1 hb fun x hx => hl x (by simp [hx])) (Below.trod wireMeans_laidOut (by kernel_rfl) (of_decide_eq_true (by kernel_rfl)) t2 hb fun x hx => hl x (by simp [hx])), rfl, hb.frame _, fun h => by cases h⟩

theorem wireMeans_holds : Rows.WireMeansSaid :=
  OpenClaim.holds_of_wide 8 Try.f8 rfl rfl rfl rfl rfl rfl rfl ⟨rfl, rfl, rfl, rfl, rfl⟩ rfl rfl rfl rfl rfl (by kernel_rfl) Try.func8 (by kernel_rfl)
    (of_decide_eq_true (by kernel_rfl)) (by unfold Func.isWrapper; rw [if_neg (by decide +kernel)]; exact ⟨rfl, rfl⟩)
    (fun os started H enc _ => wireMeans_lifted os started H enc)
#print axioms wireMeans_holds
end Go.Proofs.Ytbdokmhibgpjhaa
