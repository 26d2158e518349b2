/- The program's functions, run by the rewriting evaluator: what each answers and leaves (OvB). -/
import Derived.Test.YtmpaohmapdcckaaOvA
set_option linter.all false
open Go Go.Cl Go.Proofs
namespace Go.Cl.O
variable {σ : Sums}
set_option maxRecDepth 1000000

structure Grew (X X' : H) (v v' : CV) (L : List Rq) : Prop where
  row : LA X' v' L
  nx : X.nx ≤ X'.nx
  gn : X'.gn = X.gn
  old : ∀ k, k < X.nx → ¬ own v k → X'.t.get k = X.t.get k
  own : ∀ k, own v' k → own v k ∨ X.nx ≤ k
  low : ∀ B, B ≤ X.low → B ≤ X.nx → (∀ k, Go.Cl.O.own v k → B ≤ k) → B ≤ X'.low
/-- the cells of a row that has one more -/
theorem cells_snoc {L : List Rq} {r : Rq} {b b' : Blk} (h6 : ∀ i r, L[i]? = some r → b.get (i * 4) = some (u64 r.n) ∧ b.get (i * 4 + 1) = some (.int .i64 r.b) ∧ b.get (i * 4 + 2) = some (.bool r.wr) ∧ b.get (i * 4 + 3) = some (.bool r.wy))
    (hold : ∀ j, j < L.length * 4 → b'.get j = b.get j) (hnew : ∀ j, j < 4 → b'.get (L.length * 4 + j) = nth [u64 r.n, .int .i64 r.b, .bool r.wr, .bool r.wy] j) :
    ∀ i x, (L ++ [r])[i]? = some x → b'.get (i * 4) = some (u64 x.n) ∧ b'.get (i * 4 + 1) = some (.int .i64 x.b) ∧ b'.get (i * 4 + 2) = some (.bool x.wr) ∧ b'.get (i * 4 + 3) = some (.bool x.wy) := by
  intro i x hx
  rcases Nat.lt_or_ge i L.length with hi | hi
  · rw [List.getElem?_append_left hi] at hx
    rw [hold _ (by omega), hold _ (by omega), hold _ (by omega), hold _ (by omega)]
    exact h6 i x hx
  · rw [List.getElem?_append_right hi] at hx
    have hi0 : i = L.length := by
      have := (List.getElem?_eq_some_iff.1 hx).1
      simp at this; omega
    subst hi0
    rw [Nat.sub_self] at hx
    cases hx
    exact ⟨hnew 0 (by omega), hnew 1 (by omega), hnew 2 (by omega), hnew 3 (by omega)⟩
theorem LA.app1 {X : H} {v : CV} {L : List Rq} (B : LA X v L) (hl : L.length ≤ 1000) (r : Rq) :
    ∃ v' X', appS X 4 24 4 v 1 (some [u64 r.n, .int .i64 r.b, .bool r.wr, .bool r.wy]) = some (v', X') ∧ Grew X X' v v' (L ++ [r]) := by
  have hone : [u64 r.n, .int .i64 r.b, .bool r.wr, .bool r.wy].all CV.one = true := rfl
  rcases B with ⟨rfl, rfl⟩ | ⟨rfl, id, rfl, h1, b, h2⟩ | ⟨id, b, m, rfl, h1, h2, h3, h4, h5, h6⟩
  · refine ⟨.sl X.nx 0 1 (.opn 4), X.alloc (.cells (fillB 4 [u64 r.n, .int .i64 r.b, .bool r.wr, .bool r.wy])), rfl, ⟨.inr (.inr ⟨X.nx, _, 1, rfl, by rw [alloc_nx]; omega, alloc_blk_same _ _ _ rfl, fillB_ro _ _, ?_, by simp, ?_⟩), by rw [alloc_nx]; omega, rfl, fun k hk _ => alloc_get_ne _ _ _ (by omega), fun k hk => .inr (by cases hk; exact Nat.le_refl _), fun B h1 _ _ => h1⟩⟩
    · rw [fillB_n]
    · exact cells_snoc (L := []) (b := fillB 4 []) (fun i r h => by simp at h) (fun j hj => by simp at hj) fun j hj => by
        simp only [List.length_nil, Nat.zero_mul, Nat.zero_add]
        exact fillB_get 4 _ _ rfl
  · refine ⟨.sl X.nx 0 1 (.opn 4), X.alloc (.cells (fillB 4 [u64 r.n, .int .i64 r.b, .bool r.wr, .bool r.wy])), appS_exact0 h2 (by decide) rfl hone rfl (by decide) (by decide) (by decide), ⟨.inr (.inr ⟨X.nx, _, 1, rfl, by rw [alloc_nx]; omega, alloc_blk_same _ _ _ rfl, fillB_ro _ _, ?_, by simp, ?_⟩), by rw [alloc_nx]; omega, rfl, fun k hk _ => alloc_get_ne _ _ _ (by omega), fun k hk => .inr (by cases hk; exact Nat.le_refl _), fun B h1 _ _ => h1⟩⟩
    · rw [fillB_n]
    · exact cells_snoc (L := []) (b := fillB 4 []) (fun i r h => by simp at h) (fun j hj => by simp at hj) fun j hj => by
        simp only [List.length_nil, Nat.zero_mul, Nat.zero_add]
        exact fillB_get 4 _ _ rfl
  · have hb : (X.blk id) = some b := h2
    have hc : (Nat.blt 0 4 && Nat.ble ((L.length + 1) * 24) 70368744177664 && Nat.ble (L.length + 1) 70368744177664 && Nat.beq 4 4 && Nat.beq [u64 r.n, .int .i64 r.b, .bool r.wr, .bool r.wy].length (1 * 4) && [u64 r.n, .int .i64 r.b, .bool r.wr, .bool r.wy].all CV.one) = true := by
      simp only [ble_eq', Bool.and_eq_true, decide_eq_true_eq]
      exact ⟨⟨⟨⟨⟨rfl, by omega⟩, by omega⟩, rfl⟩, rfl⟩, rfl⟩
    by_cases q : (L.length + 1) * 4 ≤ b.n
    · obtain ⟨b', e, hn, hr, hg⟩ := storeN_ok [u64 r.n, .int .i64 r.b, .bool r.wr, .bool r.wy] b (L.length * 4) (by simp; omega) hone
      refine ⟨.sl id 0 (L.length + 1) (.opn 4), X.put id (.cells b'), ?_, ⟨.inr (.inr ⟨id, b', m, by simp, h1, put_blk_same _ _ _, hr.trans h3, hn.trans h4, by simp; omega, ?_⟩), Nat.le_refl _, rfl, fun k hk ho => put_get_ne _ _ _ _ (fun e => ho e), fun k hk => .inl hk, fun B q1 _ q3 => by show B ≤ min X.low id; have := q3 id rfl; omega⟩⟩
      · unfold appS
        rw [lenC_sl, bind_some', bind_some', hc, cond_true]
        dsimp only
        rw [show Nat.beq 4 4 = true from rfl, cond_true, hb, bind_some', h3, cond_false, ble_eq', decide_eq_true (by omega), cond_true, Nat.zero_add, e]
        rfl
      · refine cells_snoc h6 (fun j hj => ?_) (fun j hj => ?_)
        · rw [hg, if_neg (by omega)]
        · rw [hg, if_pos (by simp; omega), show L.length * 4 + j - L.length * 4 = j by omega]
    · have hm : m = L.length := by omega
      obtain ⟨b', e, hn, hr, hg⟩ := storeN_ok [u64 r.n, .int .i64 r.b, .bool r.wr, .bool r.wy] ({ b with n := (L.length + 1) * 4 } : Blk) (L.length * 4) (by simp; omega) hone
      refine ⟨.sl X.nx 0 (L.length + 1) (.opn 4), (X.kill id).alloc (.cells b'), ?_, ⟨.inr (.inr ⟨X.nx, b', L.length + 1, by simp, ?_, ?_, hr.trans h3, hn, by simp, ?_⟩), ?_, rfl, fun k hk ho => ?_, fun k hk => .inr (by cases hk; exact Nat.le_refl _), fun B q1 _ q3 => by show B ≤ min X.low id; have := q3 id rfl; omega⟩⟩
      · have e' := e
        rw [h3] at e'
        unfold appS
        rw [lenC_sl, bind_some', bind_some', hc, cond_true]
        dsimp only
        rw [show Nat.beq 4 4 = true from rfl, cond_true, hb, bind_some', h3, cond_false, ble_eq', decide_eq_false (by omega), cond_false, show Nat.beq 1 0 = false from rfl, cond_false, show Nat.beq 0 0 = true from rfl, Bool.true_and, beq_eq', decide_eq_true (by omega), cond_true, e']
        rfl
      · rw [alloc_nx, kill_nx]; omega
      · exact alloc_blk_same _ _ _ (kill_nx _ _).symm
      · refine cells_snoc h6 (fun j hj => ?_) (fun j hj => ?_)
        · rw [hg, if_neg (by omega)]
          unfold Blk.get
          simp only [blt_eq']
          rw [decide_eq_true (by omega), decide_eq_true (by omega)]
        · rw [hg, if_pos (by simp; omega), show L.length * 4 + j - L.length * 4 = j by omega]
      · rw [alloc_nx, kill_nx]; omega
      · rw [alloc_get_ne _ _ _ (by rw [kill_nx]; omega), kill_get_ne _ _ _ (fun e => ho e)]
end Go.Cl.O

namespace Go.Cl.O
noncomputable section
variable {σ : Sums}
set_option maxRecDepth 1000000

def zAhead : Blk := newBlk (List.replicate 132 (.int .i64 0))
theorem ah_nil {b : Blk} (hro : b.ro = false) (hg : ∀ i, i < 132 → b.get i = some (.int .i64 0)) : AH b [] := by
  have h0 : CV.int .i64 0 = K 0 := rfl
  refine ⟨hro, by simp, fun k hk => ⟨?_, ?_⟩, ⟨?_, ?_⟩, ⟨?_, ?_⟩⟩
  all_goals rw [hg _ (by omega), h0]; rfl

def zc : List CV := List.replicate 132 (.int .i64 0)
theorem build_ah : buildT Try.prog 122 [] = some (.agg zc) := by kernel_rfl
theorem zc_one : zc.all CV.one = true := by kernel_rfl
theorem zc_get (i : Nat) (hi : i < 132) : (newBlk zc).get i = some (.int .i64 0) := by
  rw [get_new]; unfold zc; rw [List.getElem?_replicate, if_pos hi]
theorem zc_ah : AH (newBlk zc) [] := ah_nil (by kernel_rfl) zc_get
/-- a table is turned, and what is its own -/
structure Mod (h h' : H) (t : Nat) (v v' : CV) : Prop where
  nx : h.nx ≤ h'.nx
  gn : h'.gn = h.gn
  old : ∀ k, k < h.nx → k ≠ t → ¬ own v k → h'.t.get k = h.t.get k
  own : ∀ k, own v' k → Go.Cl.O.own v k ∨ h.nx ≤ k
  low : ∀ B, B ≤ h.low → B ≤ t → (∀ k, Go.Cl.O.own v k → B ≤ k) → B ≤ h'.low
theorem Mod.refl (h : H) (t : Nat) (v : CV) : Mod h h t v v := ⟨Nat.le_refl _, rfl, fun _ _ _ _ => rfl, fun _ hk => .inl hk, fun _ h1 _ _ => h1⟩
def newR (L : List Rq) (n : Nat) (b : Int) (w : Bool) : Rq := ⟨n, max b (-1), w, !stopsA L ⟨n, max b (-1), w, false⟩⟩
def comeL (L : List Rq) (n : Nat) (b : Int) (w : Bool) : List Rq := if b ≥ 64 then L else if idxI (pNum n) L 0 ≥ 0 then L else L ++ [newR L n b w]
def comeA (L : List Rq) (n : Nat) (b : Int) (w : Bool) : CV := if b ≥ 64 then .tup [.bool false, .int .i64 2] else if idxI (pNum n) L 0 ≥ 0 then .tup [.bool false, .int .i64 7] else .tup [.bool (newR L n b w).wy, .int .i64 0]
def ActQ (h : H) (t : Nat) (v : CV) (L L' : List Rq) (a : CV) (r : Option (CV × Option H)) : Prop := ∃ v' x, r = some (a, x) ∧ TA (x.getD h) t v' L' ∧ Mod h (x.getD h) t v v' ∧ ((x = none ∧ v' = v ∧ L' = L) ∨ (x.getD h).low ≤ t)
theorem come_run (hσ : ∀ f a h, f ≠ 23 → σ f a h = none) {h : H} {t : Nat} {v : CV} {L : List Rq} (T : TA h t v L) (hl : L.length ≤ 100) (hb : ∀ r ∈ L, r.b < 64) (n : Nat) (b : Int) (w : Bool) (hlow : h.low ≤ h.nx) :
    ActQ h t v L (comeL L n b w) (comeA L n b w) ((lim Try.prog σ).call 28 [.ptr t 0, u64 n, .int .i64 b, .bool w] h) := by
  obtain ⟨Q, hQ⟩ : ∃ Q, Q = ActQ h t v L (comeL L n b w) (comeA L n b w) := ⟨_, rfl⟩
  rw [← hQ]
  have nn : (lim Try.prog σ).call 60 [.ptr t 0] h.lo = some (.bool false, none) := none_run hσ (T.ext (Ext.lo h))
  have pp : (lim Try.prog σ).call 63 [.ptr t 0, u64 n] h.lo = some (.int .i64 (idxI (pNum n) L 0), none) := place_run hσ (T.ext (Ext.lo h)) (by omega) n
  obtain ⟨tb, q1, q2, q3, q4⟩ := T.blk
  have Bl := T.row.len
  rw [call_eq (hσ _ _ _ (by decide)) fn_28 rfl rfl, Try.ntmps28, Try.results28]
  by_cases hb64 : b ≥ 64
  · have d1 : decide (b ≥ 64) = true := decide_eq_true hb64
    simp only [go_sem, nn, d1]
    rw [hQ, fin_q _ _ _ rfl rfl]
    exact ⟨v, none, by rw [comeA, if_pos hb64], by rw [comeL, if_pos hb64]; exact T, Mod.refl _ _ _, .inl ⟨rfl, rfl, by rw [comeL, if_pos hb64]⟩⟩
  · have d1 : decide (b ≥ 64) = false := decide_eq_false hb64
    by_cases hi : idxI (pNum n) L 0 ≥ 0
    · have d2 : decide (idxI (pNum n) L 0 ≥ 0) = true := decide_eq_true hi
      simp only [go_sem, nn, d1, pp, d2]
      rw [hQ, fin_q _ _ _ rfl rfl]
      exact ⟨v, none, by rw [comeA, if_neg hb64, if_pos hi], by rw [comeL, if_neg hb64, if_pos hi]; exact T, Mod.refl _ _ _, .inl ⟨rfl, rfl, by rw [comeL, if_neg hb64, if_pos hi]⟩⟩
    · have d2 : decide (idxI (pNum n) L 0 ≥ 0) = false := decide_eq_false hi
      obtain ⟨X, hX'⟩ : ∃ X, X = h.lo.alloc (.cells (newBlk (CV.agg zc).cells)) := ⟨_, rfl⟩
      have hX : X = h.lo.alloc (.cells (newBlk zc)) := hX'
      have XE : Ext h X := by rw [hX]; exact (Ext.lo h).alloc' _
      have Xnx : X.nx = h.nx + 1 := by rw [hX]; rfl
      have Xlow : X.low = h.nx := by rw [hX]; rfl
      have Xa : X.blk h.nx = some (newBlk zc) := by rw [hX]; exact alloc_blk_same _ _ _ rfl
      have Xt : X.blk t = some tb := (XE.blk T.lt).trans q1
      simp only [go_sem, nn, d1, pp, d2, q1, q4, Bl, build_ah, zc_one, ← hX, ← hX', Xt]
      refine loop_ind (Q := Q) (fun i env h' => evT env 0 = .ptr t 0 ∧ evT env 1 = u64 n ∧ evT env 2 = .int .i64 b ∧ evT env 3 = .bool w ∧ evT env 10 = .ptr h.nx 0 ∧ evT env 30 = v ∧ evT env 31 = .int .i64 (Int.ofNat L.length) ∧ evT env 32 = .int .i64 (Int.ofNat i) ∧
        Ext h h' ∧ h'.low = h.nx ∧ h.nx < h'.nx ∧ ∃ ab, h'.blk h.nx = some ab ∧ AH ab (L.take i)) L.length 0 ?_ (Nat.zero_le _) ?_ ?_
      · refine ⟨by simp only [go_sem], by simp only [go_sem], by simp only [go_sem], by simp only [go_sem], by simp only [go_sem], by simp only [go_sem], by simp only [go_sem], by simp only [go_sem]; rfl, ?_⟩
        rw [← hX']
        exact ⟨XE, Xlow, by omega, _, Xa, zc_ah⟩
      · rintro i env h' ⟨e0, e1, e2, e3, e10, e30, e31, e32, E, hlo, hnx, ab, hab, A⟩ hi next
        have c0 := ofNat_lt hi
        have w1 := wrap_succ (i := i) (by omega)
        obtain ⟨r, hr⟩ : ∃ r, L[i]? = some r := ⟨_, List.getElem?_eq_getElem hi⟩
        obtain ⟨id, b0, ea, _, _, hid, hb0, _, At⟩ := (T.row.ext E).at_ hr
        have ld := At.load
        have ht : L.take (i + 1) = L.take i ++ [r] := by rw [List.take_succ, hr]; rfl
        obtain ⟨bx, hbx⟩ : ∃ bx, bx = ((((newBlk [CV.int IntKind.u64 0, CV.int IntKind.i64 0, CV.bool false, CV.bool false]).st 0 (u64 r.n)).st 1 (CV.int IntKind.i64 r.b)).st 2 (CV.bool r.wr)).st 3 (CV.bool r.wy) := ⟨_, rfl⟩
        have bxl : bx.loadN 0 4 = some [u64 r.n, .int .i64 r.b, .bool r.wr, .bool r.wy] := by rw [hbx]; simp only [go_sem]
        obtain ⟨Y, hY⟩ : ∃ Y, Y = (h'.alloc (.cells (newBlk [CV.int IntKind.u64 0, CV.int IntKind.i64 0, CV.bool false, CV.bool false]))).put h'.nx (.cells bx) := ⟨_, rfl⟩
        have YE : Ext h' Y := by rw [hY]; exact (Ext.alloc _ _).put _ (Nat.le_refl _)
        have Ynx : Y.nx = h'.nx + 1 := by rw [hY]; rfl
        have Ylow : Y.low = h.nx := by rw [hY]; show min h'.low h'.nx = _; omega
        have Yb : Y.blk h'.nx = some bx := by rw [hY]; exact put_blk_same _ _ _
        have Ya : Y.blk h.nx = some ab := (YE.blk hnx).trans hab
        obtain ⟨Z, ab2, ca, FZ, Zb, AZ, Zlow⟩ := aadd_run hσ Ya A (by omega) r (hb r (List.mem_of_getElem? hr)) (by rw [List.length_take]; omega)
        rw [Rq.cv] at ca
        have EZ : Ext h Z := But.ext (E.trans YE) FZ (Nat.le_refl _)
        have hZn := FZ.nx
        simp only [go_sem, e0, e1, e2, e3, e10, e30, e31, e32, c0, ea, hb0, ld, ← hbx, ← hY, Yb, bxl, ca, w1]
        refine next _ _ ⟨by simp only [go_sem, e0], by simp only [go_sem, e1], by simp only [go_sem, e2], by simp only [go_sem, e3], by simp only [go_sem, e10], by simp only [go_sem, e30], by simp only [go_sem, e31], by simp only [go_sem, w1], EZ, by rw [Zlow, Ylow]; omega, by omega, ab2, Zb, by rw [ht]; exact AZ⟩
      · rintro env h' ⟨e0, e1, e2, e3, e10, e30, e31, e32, E, hlo, hnx, ab, hab, A⟩
        have c0 := ofNat_nlt (Nat.le_refl L.length)
        rw [List.take_length] at A
        obtain ⟨b', hb'⟩ : ∃ b', b' = max b (-1) := ⟨_, rfl⟩
        have mx : ∀ X, builtinT Try.prog X .max [3, 3] [.int .i64 b, .int .i64 (-1)] = some (.val (.int .i64 b')) := fun X => by
          show some (Out.val (CV.int .i64 (if -1 > b then -1 else b))) = _
          rw [hb']
          by_cases q : -1 > b
          · rw [if_pos q]; congr 3; omega
          · rw [if_neg q]; congr 3; omega
        obtain ⟨r, hr⟩ : ∃ r : Rq, r = ⟨n, b', w, false⟩ := ⟨_, rfl⟩
        have bR : buildT Try.prog 115 [(0, u64 n), (1, .int .i64 b'), (2, .bool w)] = some (.agg [u64 n, .int .i64 b', .bool w, .bool false]) := by
          kernel_rfl
        obtain ⟨bx, hbx⟩ : ∃ bx, bx = ((((newBlk [CV.int IntKind.u64 0, CV.int IntKind.i64 0, CV.bool false, CV.bool false]).st 0 (u64 n)).st 1 (CV.int IntKind.i64 b')).st 2 (CV.bool w)).st 3 (CV.bool false) := ⟨_, rfl⟩
        have bxl : bx.loadN 0 4 = some [u64 n, .int .i64 b', .bool w, .bool false] := by rw [hbx]; simp only [go_sem]
        have bxn : bx.n = 4 := by rw [hbx]; kernel_rfl
        have bxr : bx.ro = false := by rw [hbx]; kernel_rfl
        obtain ⟨Y, hY⟩ : ∃ Y, Y = (h'.alloc (.cells (newBlk [CV.int IntKind.u64 0, CV.int IntKind.i64 0, CV.bool false, CV.bool false]))).put h'.nx (.cells bx) := ⟨_, rfl⟩
        have YE : Ext h' Y := by rw [hY]; exact (Ext.alloc _ _).put _ (Nat.le_refl _)
        have Ynx : Y.nx = h'.nx + 1 := by rw [hY]; rfl
        have Ylow : Y.low = h.nx := by rw [hY]; show min h'.low h'.nx = _; omega
        have Yb : Y.blk h'.nx = some bx := by rw [hY]; exact put_blk_same _ _ _
        have Ya : Y.blk h.nx = some ab := (YE.blk hnx).trans hab
        have hr64 : r.b < 64 := by rw [hr]; show b' < 64; rw [hb']; omega
        have st : (lim Try.prog σ).call 65 [.ptr h.nx 0, r.cv] Y = some (.bool (stopsA L r), none) := astops_run hσ Ya A (by omega) r hr64
        have rcv : r.cv = .agg [u64 n, .int .i64 b', .bool w, .bool false] := by rw [hr]; rfl
        rw [rcv] at st
        obtain ⟨by_, hby⟩ : ∃ by_, by_ = bx.st 3 (.bool (!stopsA L r)) := ⟨_, rfl⟩
        have byl : by_.loadN 0 4 = some [u64 n, .int .i64 b', .bool w, .bool (!stopsA L r)] := by rw [hby, hbx]; simp only [go_sem]
        have byg : by_.get 3 = some (.bool (!stopsA L r)) := by rw [hby, hbx]; simp only [go_sem]
        obtain ⟨Z, hZ⟩ : ∃ Z, Z = Y.put h'.nx (.cells by_) := ⟨_, rfl⟩
        have ZE : Ext h' Z := by rw [hZ]; exact YE.put _ (Nat.le_refl _)
        have Znx : Z.nx = h'.nx + 1 := by rw [hZ, ← Ynx]; rfl
        have Zlow : Z.low = h.nx := by rw [hZ]; show min Y.low h'.nx = _; omega
        have Zb : Z.blk h'.nx = some by_ := by rw [hZ]; exact put_blk_same _ _ _
        have Zt : Z.blk t = some tb := ((E.trans ZE).blk T.lt).trans q1
        simp only [go_sem, e0, e1, e2, e3, e10, e30, e31, e32, c0, mx, bR, ← hbx, ← hY, Yb, bxl, st, bxn, bxr, ← hby, ← hZ]
        refine cnd_go (Q := Q) (by kernel_rfl) ?_
        simp only [go_sem, e0, e1, e2, e3, e10, e30, e31, e32, Zb, Zt, q4, byl]
        obtain ⟨V, hV⟩ : ∃ V, V = Z.alloc (.cells (((({ n := 4, d := [CV.int IntKind.u64 0, CV.int IntKind.i64 0, CV.bool false, CV.bool false], t := Go.Cl.T.nil : Blk }.st 0 (u64 n)).st 1 (CV.int IntKind.i64 b')).st 2 (CV.bool w)).st 3 (CV.bool !stopsA L r))) := ⟨_, rfl⟩
        have VE : Ext Z V := by rw [hV]; exact Ext.alloc _ _
        obtain ⟨v', W, ap, G⟩ := LA.app1 ((T.row.ext (E.trans ZE)).ext VE) (by omega) ⟨n, b', w, !stopsA L r⟩
        have htV : t < V.nx := by have := VE.nx; have := ZE.nx; have := E.nx; have := T.lt; omega
        have Vt : V.blk t = some tb := (VE.blk (by have := ZE.nx; have := E.nx; have := T.lt; omega)).trans Zt
        have Wt : W.blk t = some tb := (blk_eq (G.old t htV T.ne)).trans Vt
        have tbn : 1 < tb.n := Blk.get_lt q4
        have vone : v'.one = true := G.row.one.1
        have vcs : v'.cells = [v'] := G.row.one.2.1
        rw [← hV, ap]
        simp only [go_sem, Wt, q2, vone, vcs, tbn]
        refine cnd_go (Q := Q) (by kernel_rfl) ?_
        have vb : beqC v v = true := T.row.one.2.2
        have ca : ∀ {ops : List Oper} {i : Nat} {d l : List Nat} {b : Bool}, allowedAt ops i d l = false → cond (allowedAt ops i d l) b true = true := fun h => by rw [h]; rfl
        simp only [go_sem, Wt, Vt, Zt, q4, q2, vone, vcs, tbn, e0, vb, ← hV]
        rw [cond_al (i := 5) (d := [6])]
        rotate_left
        · kernel_rfl
        rw [cond_al (i := 5) (d := [6, 7])]
        rotate_left
        · kernel_rfl
        rw [cond_al (i := 4) (d := [6, 7, 10])]
        rotate_left
        · kernel_rfl
        rw [cond_al (i := 5) (d := [6, 7, 10])]
        rotate_left
        · kernel_rfl
        simp only [go_sem, Wt, Vt, Zt, q4, q2, vone, vcs, tbn, e0, vb, ← hV]
        obtain ⟨U, hU⟩ : ∃ U, U = W.put t (.cells (tb.st 1 v')) := ⟨_, rfl⟩
        have hno : ¬ own v h'.nx := fun hk => by have := T.row.lt hk; omega
        have Wb : W.blk h'.nx = some by_ := (blk_eq (G.old _ (by have := VE.nx; omega) hno)).trans ((VE.blk (by omega)).trans Zb)
        have Ub : U.blk h'.nx = some by_ := by rw [hU]; exact (blk_eq (put_get_ne _ _ _ _ (by have := T.lt; omega))).trans Wb
        simp only [go_sem, ← hU, Ub, byg]
        have hnr : newR L n b w = ⟨n, b', w, !stopsA L r⟩ := by rw [newR, hr, hb']
        have GR := G.row
        rw [← hnr] at GR
        have EV : Ext h V := (E.trans ZE).trans VE
        have hVn := EV.nx
        have hWn := G.nx
        have htv' : ¬ own v' t := fun hk => by
          rcases G.own t hk with h1 | h1
          · exact T.ne h1
          · omega
        have Ulow : U.low ≤ t := by rw [hU]; show min W.low t ≤ t; omega
        have Unx : U.nx = W.nx := by rw [hU]; rfl
        have hUk : ∀ k, k ≠ t → U.t.get k = W.t.get k := fun k hk => by rw [hU]; exact put_get_ne _ _ _ _ hk
        have hT := T.lt
        rw [hQ, fin_l _ _ _ (by omega)]
        refine ⟨v', some _, by rw [comeA, if_neg hb64, if_neg hi, hnr], ?_, ⟨?_, ?_, fun k hk h1 h2 => ?_, fun k hk => ?_, fun B h1 h2 h3 => ?_⟩, .inr (by show min h.low U.low ≤ t; omega)⟩
        · rw [comeL, if_neg hb64, if_neg hi]
          have UT : TA U t v' (L ++ [newR L n b w]) := by
            refine ⟨⟨tb.st 1 v', ?_, q2, ?_, st_get_same _ _ _ tbn⟩, by omega, GR.keep (by omega) fun k hk => hUk k (fun e => htv' (e ▸ hk)), htv'⟩
            · rw [hU]; exact put_blk_same _ _ _
            · rw [st_get_ne _ _ _ _ (by decide)]; exact q3
          exact UT.ext (Ext.up _ _)
        · show h.nx ≤ U.nx
          omega
        · show U.gn = h.gn
          rw [hU]; show W.gn = _
          rw [G.gn]; exact EV.gn
        · show U.t.get k = _
          rw [hUk k h1, G.old k (by omega) h2, EV.old k hk]
        · rcases G.own k hk with h1 | h1
          · exact .inl h1
          · exact .inr (by omega)
        · show B ≤ min h.low U.low
          have : B ≤ W.low := G.low B (by rw [hV]; show B ≤ Z.low; omega) (by omega) h3
          have : U.low = min W.low t := by rw [hU]; rfl
          omega
end
end Go.Cl.O

namespace Go.Cl.O
variable {σ : Sums}
set_option maxRecDepth 1000000

theorem loadN_ex (b : Blk) : ∀ (n off : Nat), (∀ j, j < n → ∃ v, b.get (off + j) = some v ∧ v.one = true) → ∃ cs, b.loadN off n = some cs ∧ cs.length = n ∧ cs.all CV.one = true ∧ ∀ j, j < n → nth cs j = b.get (off + j)
  | 0, off, _ => ⟨[], rfl, rfl, rfl, fun j hj => absurd hj (Nat.not_lt_zero _)⟩
  | n + 1, off, h => by
    obtain ⟨v, hv, ho⟩ := h 0 (by omega)
    obtain ⟨cs, e, hl, ha, hg⟩ := loadN_ex b n (off + 1) fun j hj => by
      have := h (j + 1) (by omega)
      rwa [show off + (j + 1) = off + 1 + j by omega] at this
    refine ⟨v :: cs, ?_, by simp [hl], by simp [ha, ho], fun j hj => ?_⟩
    · rw [Nat.add_zero] at hv
      simp only [Blk.loadN, hv, e, Option.bind_some]
    · cases j with
      | zero => rw [hv]; rfl
      | succ j =>
        have := hg j (by omega)
        rw [show off + (j + 1) = off + 1 + j by omega, ← this]; rfl

section
variable {X : H} {id m len : Nat} {b : Blk}
theorem cap_of (h2 : X.blk id = some b) (h4 : b.n = m * 4) : capK X id 0 4 = some m := by
  unfold capK; rw [h2]; simp [h4]
theorem sz4 : szOf Try.prog 115 = some 4 := by kernel_rfl
theorem sl_mid (h2 : X.blk id = some b) (h4 : b.n = m * 4) {i : Nat} (hi : i < len) (h5 : len ≤ m) :
    ∃ w, sliceT Try.prog X 66 (.sl id 0 len (.opn 4)) (some (.int .i64 (Int.ofNat i))) (some (.int .i64 (Int.ofNat (i + 1)))) (some (.int .i64 (Int.ofNat len))) = some w := by
  unfold sliceT
  rw [Try.underlying66]
  simp only [Option.bind_some, sz4, cap_of h2 h4, bnd, toN]
  have b1 : Nat.ble len m = true := Nat.ble_eq.mpr h5
  have b2 : Nat.ble (i + 1) len = true := Nat.ble_eq.mpr hi
  have b3 : Nat.ble i (i + 1) = true := Nat.ble_eq.mpr (by omega)
  have b9 : Nat.blt 0 4 = true := rfl
  simp [toN, b1, b2, b3, b9]
theorem sl_pre (h2 : X.blk id = some b) (h4 : b.n = m * 4) {i : Nat} (hi : i < len) (h5 : len ≤ m) :
    sliceT Try.prog X 66 (.sl id 0 len (.opn 4)) none (some (.int .i64 (Int.ofNat i))) none = some (.sl id 0 i (.opn 4)) := by
  unfold sliceT
  rw [Try.underlying66]
  simp only [Option.bind_some, sz4, cap_of h2 h4, bnd, toN]
  have b1 : Nat.ble i m = true := Nat.ble_eq.mpr (by omega)
  have b9 : Nat.blt 0 4 = true := rfl
  have b8 : Nat.ble 0 i = true := Nat.ble_eq.mpr (Nat.zero_le _)
  simp [toN, b1, b9, b8]
theorem sl_suf (h2 : X.blk id = some b) (h4 : b.n = m * 4) {j : Nat} (hj : j ≤ len) (h5 : len ≤ m) (hj0 : 0 < j) :
    sliceT Try.prog X 66 (.sl id 0 len (.opn 4)) (some (.int .i64 (Int.ofNat j))) none none = some (if j < m then .sl id (j * 4) (len - j) (.opn 4) else .slend id 0 j 4) := by
  unfold sliceT
  rw [Try.underlying66]
  simp only [Option.bind_some, sz4, cap_of h2 h4, bnd, toN]
  have b1 : Nat.ble len m = true := Nat.ble_eq.mpr h5
  have b2 : Nat.ble j len = true := Nat.ble_eq.mpr hj
  have b9 : Nat.blt 0 4 = true := rfl
  have b0 : Nat.beq j 0 = false := by
    cases q : Nat.beq j 0 with
    | false => rfl
    | true => have := Nat.eq_of_beq_eq_true q; omega
  by_cases q : j < m
  · have b3 : Nat.blt j m = true := by rw [blt_eq']; exact decide_eq_true q
    simp [toN, b1, b2, b3, b9, q]
  · have b3 : Nat.blt j m = false := by rw [blt_eq']; exact decide_eq_false q
    simp [toN, b1, b2, b3, b9, b0, q]
theorem sl_end (h2 : X.blk id = some b) (h4 : b.n = m * 4) {j : Nat} (hj : j < m) :
    sliceT Try.prog X 66 (.sl id 0 j (.opn 4)) (some (.int .i64 (Int.ofNat j))) (some (.int .i64 (Int.ofNat (j + 1)))) none = some (.sl id (j * 4) 1 (.opn 4)) := by
  unfold sliceT
  rw [Try.underlying66]
  simp only [Option.bind_some, sz4, cap_of h2 h4, bnd, toN]
  have b1 : Nat.ble (j + 1) m = true := Nat.ble_eq.mpr hj
  have b2 : Nat.ble j (j + 1) = true := Nat.ble_eq.mpr (by omega)
  have b9 : Nat.blt 0 4 = true := rfl
  have b3 : Nat.blt j m = true := by rw [blt_eq']; exact decide_eq_true hj
  simp [toN, b1, b2, b3, b9]
end
end Go.Cl.O

namespace Go.Cl.O
noncomputable section
variable {σ : Sums}
set_option maxRecDepth 1000000

/-- a row's cells -/
def RC (b : Blk) (L : List Rq) : Prop := ∀ i r, L[i]? = some r → b.get (i * 4) = some (u64 r.n) ∧ b.get (i * 4 + 1) = some (.int .i64 r.b) ∧ b.get (i * 4 + 2) = some (.bool r.wr) ∧ b.get (i * 4 + 3) = some (.bool r.wy)
theorem RC.one {b : Blk} {L : List Rq} (h6 : RC b L) {j : Nat} (hj : j < L.length * 4) : ∃ v, b.get j = some v ∧ v.one = true := by
  obtain ⟨q1, q2, q3, q4⟩ := h6 (j / 4) _ (List.getElem?_eq_getElem (by omega))
  have : j = j / 4 * 4 + j % 4 := by omega
  have h4 : j % 4 < 4 := Nat.mod_lt _ (by omega)
  rw [this]
  generalize j % 4 = k at h4
  match k, h4 with
  | 0, _ => exact ⟨_, q1, rfl⟩
  | 1, _ => exact ⟨_, q2, rfl⟩
  | 2, _ => exact ⟨_, q3, rfl⟩
  | 3, _ => exact ⟨_, q4, rfl⟩
theorem app_e (h : H) (s : CV) (a b c : Nat) : builtinT Try.prog h .append [66, 66] [s, .slend a b c 4] = uv (appS h 4 24 4 s 0 (some [])) := by kernel_rfl
theorem del_app {X : H} {id m : Nat} {b : Blk} {L : List Rq} (h2 : X.blk id = some b) (h3 : b.ro = false) (h4 : b.n = m * 4) (h5 : L.length ≤ m) (hl : L.length ≤ 1000) (h6 : RC b L) {i : Nat} (hi : i < L.length) :
    ∃ b', builtinT Try.prog X .append [66, 66] [.sl id 0 i (.opn 4), if i + 1 < m then .sl id ((i + 1) * 4) (L.length - (i + 1)) (.opn 4) else .slend id 0 (i + 1) 4] = some (.upd (.sl id 0 (L.length - 1) (.opn 4)) (X.put id (.cells b'))) ∧
      b'.n = b.n ∧ b'.ro = false ∧ ∀ j, b'.get j = if i * 4 ≤ j ∧ j < (L.length - 1) * 4 then b.get (j + 4) else b.get j := by
  obtain ⟨cs, e1, e2, e3, e4⟩ := loadN_ex b ((L.length - (i + 1)) * 4) ((i + 1) * 4) fun j hj => h6.one (by omega)
  obtain ⟨b', f1, f2, f3, f4⟩ := storeN_ok cs b (i * 4) (by omega) e3
  refine ⟨b', ?_, f2, f3.trans h3, fun j => ?_⟩
  · have hap : appS X 4 24 4 (.sl id 0 i (.opn 4)) (L.length - (i + 1)) (some cs) = some (.sl id 0 (L.length - 1) (.opn 4), X.put id (.cells b')) := by
      unfold appS
      rw [lenC_sl, bind_some', bind_some']
      have hc : (Nat.blt 0 4 && Nat.ble ((i + (L.length - (i + 1))) * 24) 70368744177664 && Nat.ble (i + (L.length - (i + 1))) 70368744177664 && Nat.beq 4 4 && Nat.beq cs.length ((L.length - (i + 1)) * 4) && cs.all CV.one) = true := by
        simp only [ble_eq', beq_eq', Bool.and_eq_true, decide_eq_true_eq]
        exact ⟨⟨⟨⟨⟨rfl, by omega⟩, by omega⟩, trivial⟩, e2⟩, e3⟩
      rw [hc, cond_true]
      dsimp only
      rw [show Nat.beq 4 4 = true from rfl, cond_true, h2, bind_some', h3, cond_false, ble_eq', decide_eq_true (by omega), cond_true, Nat.zero_add, f1, show i + (L.length - (i + 1)) = L.length - 1 by omega]
      rfl
    by_cases q : i + 1 < m
    · rw [if_pos q, app_66, ap_66, firstC_sl, h2, bind_some', e1, hap]; rfl
    · rw [if_neg q]
      have hz : L.length - (i + 1) = 0 := by omega
      rw [hz] at hap e1
      cases e1
      rw [app_e, hap]; rfl
  · rw [f4]
    by_cases q : i * 4 ≤ j ∧ j < (L.length - 1) * 4
    · rw [if_pos (by omega), if_pos q, e4 _ (by omega)]
      congr 1; omega
    · rw [if_neg (by omega), if_neg q]
theorem clear_at {X : H} {id off : Nat} {b : Blk} (h2 : X.blk id = some b) (h3 : b.ro = false) (hn : off + 4 ≤ b.n) :
    ∃ b', builtinT Try.prog X .clear [66] [.sl id off 1 (.opn 4)] = some (.upd und (X.put id (.cells b'))) ∧ b'.n = b.n ∧ b'.ro = false ∧ ∀ j, (j < off ∨ off + 4 ≤ j) → b'.get j = b.get j := by
  obtain ⟨b', f1, f2, f3, f4⟩ := storeN_ok [u64 0, .int .i64 0, .bool false, .bool false] b off (by simpa using hn) rfl
  have hz : zeroT Try.prog 115 = some (.agg [u64 0, .int .i64 0, .bool false, .bool false]) := by kernel_rfl
  refine ⟨b', ?_, f2, f3.trans h3, fun j hj => by rw [f4, if_neg (by simp; omega)]⟩
  have hr : repl (CV.agg [u64 0, .int .i64 0, .bool false, .bool false]).cells 1 = [u64 0, .int .i64 0, .bool false, .bool false] := by kernel_rfl
  unfold builtinT
  simp only [Try.underlying66, Option.bind_some, show Nat.beq 1 0 = false from rfl, cond_false, hz, h2, h3, hr, f1, Option.map_some]
  rfl
theorem del_run (hσ : ∀ f a h, f ≠ 23 → σ f a h = none) {h : H} {id m : Nat} {L : List Rq} {b : Blk} (h1 : id < h.nx) (h2 : h.blk id = some b) (h3 : b.ro = false) (h4 : b.n = m * 4) (h5 : L.length ≤ m) (hl : L.length ≤ 1000)
    (h6 : RC b L) {i : Nat} (hi : i < L.length) (hlow : h.low ≤ h.nx) :
    ∃ X b', (lim Try.prog σ).call 66 [.sl id 0 L.length (.opn 4), .int .i64 (Int.ofNat i), .int .i64 (Int.ofNat (i + 1))] h = some (.sl id 0 (L.length - 1) (.opn 4), some X) ∧ Wr h X id b' ∧ b'.n = b.n ∧ b'.ro = false ∧ RC b' (L.eraseIdx i) := by
  obtain ⟨Q, hQ⟩ : ∃ Q : Option (CV × Option H) → Prop, Q = fun r => ∃ X b', r = some (.sl id 0 (L.length - 1) (.opn 4), some X) ∧ Wr h X id b' ∧ b'.n = b.n ∧ b'.ro = false ∧ RC b' (L.eraseIdx i) := ⟨_, rfl⟩
  suffices Q ((lim Try.prog σ).call 66 [.sl id 0 L.length (.opn 4), .int .i64 (Int.ofNat i), .int .i64 (Int.ofNat (i + 1))] h) by rw [hQ] at this; exact this
  rw [call_eq (hσ _ _ _ (by decide)) fn_66 rfl rfl, Try.ntmps66, Try.results66]
  have hb : h.lo.blk id = some b := h2
  obtain ⟨w0, sm⟩ := sl_mid hb h4 hi h5
  have sp := sl_pre hb h4 hi h5
  have ss := sl_suf hb h4 (j := i + 1) (by omega) h5 (by omega)
  obtain ⟨b1, ap, n1, r1, g1⟩ := del_app hb h3 h4 h5 hl h6 hi
  have d0 : decide (Int.ofNat i = Int.ofNat (i + 1)) = false := decide_eq_false (by simp; omega)
  obtain ⟨Y, hY⟩ : ∃ Y, Y = h.lo.put id (.cells b1) := ⟨_, rfl⟩
  obtain ⟨suf, hsuf⟩ : ∃ suf, suf = if i + 1 < m then CV.sl id ((i + 1) * 4) (L.length - (i + 1)) (.opn 4) else .slend id 0 (i + 1) 4 := ⟨_, rfl⟩
  rw [← hsuf] at ss ap
  rw [← hY] at ap
  have Yb : Y.blk id = some b1 := by rw [hY]; exact put_blk_same _ _ _
  have se := sl_end (j := L.length - 1) Yb (n1.trans h4) (by omega)
  rw [show L.length - 1 + 1 = L.length by omega] at se
  simp only [go_sem, sm, d0]
  refine cnd_go (Q := Q) (by kernel_rfl) ?_
  simp only [go_sem, sm, d0, sp, ss, ap]
  refine cnd_go (Q := Q) (by kernel_rfl) ?_
  refine quiet_go (Q := Q) (by kernel_rfl) ?_
  obtain ⟨b2, cl, n2, r2, g2⟩ := clear_at (off := (L.length - 1) * 4) Yb r1 (by omega)
  obtain ⟨Z, hZ⟩ : ∃ Z, Z = Y.put id (.cells b2) := ⟨_, rfl⟩
  rw [← hZ] at cl
  have Zlow : Z.low = id := by rw [hZ, hY]; show min (min h.nx id) id = id; omega
  simp only [go_sem, sm, d0, sp, ss, ap, se, Yb, cl]
  rw [hQ, fin_l _ _ _ (by omega)]
  refine ⟨_, b2, rfl, ⟨?_, ?_, fun k hk => ?_, ?_, ?_⟩, n2.trans n1, r2, ?_⟩
  · rw [hZ, hY]; rfl
  · rw [hZ, hY]; rfl
  · show Z.t.get k = _
    rw [hZ, put_get_ne _ _ _ _ hk, hY, put_get_ne _ _ _ _ hk]; rfl
  · show Z.blk id = _
    rw [hZ]; exact put_blk_same _ _ _
  · show min h.low Z.low = _
    rw [Zlow]
  · intro j r hr
    have hj := (List.getElem?_eq_some_iff.1 hr).1
    rw [List.length_eraseIdx, if_pos hi] at hj
    rw [g2 _ (.inl (by omega)), g2 _ (.inl (by omega)), g2 _ (.inl (by omega)), g2 _ (.inl (by omega)), g1, g1, g1, g1]
    rw [List.getElem?_eraseIdx] at hr
    by_cases q : j < i
    · rw [if_pos q] at hr
      rw [if_neg (by omega), if_neg (by omega), if_neg (by omega), if_neg (by omega)]
      exact h6 j r hr
    · rw [if_neg q] at hr
      rw [if_pos (by omega), if_pos (by omega), if_pos (by omega), if_pos (by omega)]
      have := h6 (j + 1) r hr
      rw [show j * 4 + 4 = (j + 1) * 4 by omega, show j * 4 + 1 + 4 = (j + 1) * 4 + 1 by omega, show j * 4 + 2 + 4 = (j + 1) * 4 + 2 by omega, show j * 4 + 3 + 4 = (j + 1) * 4 + 3 by omega]
      exact this
end
end Go.Cl.O

namespace Go.Cl.O
noncomputable section
variable {σ : Sums}
set_option maxRecDepth 1000000

def stp (A : List Rq) (r : Rq) : Bool := A.any fun a => hind a r
theorem posAny {α : Type} (p : α → Bool) (L : List α) : decide (0 < L.countP p) = L.any p := by
  rw [Bool.eq_iff_iff]; simp [List.countP_pos_iff, List.any_eq_true]
theorem any_or' {α : Type} (f g : α → Bool) : ∀ L : List α, (L.any f || L.any g) = L.any fun a => f a || g a
  | [] => rfl
  | a :: l => by
    simp only [List.any_cons, ← any_or' f g l]
    cases f a <;> cases g a <;> cases l.any f <;> rfl
theorem any_and' {α : Type} (x : Bool) (g : α → Bool) : ∀ L : List α, (x && L.any g) = L.any fun a => x && g a
  | [] => by simp
  | a :: l => by
    simp only [List.any_cons, ← any_and' x g l]
    cases x <;> simp
theorem stopsN_any (p : Rq → Bool) (L : List Rq) (x : Bool) : stopsN (nR p L) (nW p L) x = L.any fun a => p a && (a.wr || x) := by
  unfold stopsN nR nW
  rw [posAny, posAny, any_and', any_or']
  congr 1; funext a
  cases p a <;> cases a.wr <;> cases x <;> rfl
theorem stopsA_eq (L : List Rq) (r : Rq) : stopsA L r = stp L r := by
  unfold stopsA stp
  by_cases q : r.b < 0
  · rw [if_pos q, stopsN_any]
    congr 1; funext a
    unfold hind pAll
    rw [decide_eq_true q]
    cases a.wr <;> cases r.wr <;> cases decide (a.b < 0) <;> rfl
  · rw [if_neg q, stopsN_any, stopsN_any, any_or']
    congr 1; funext a
    have hk : pAt r.b.toNat a = decide (a.b = r.b) := by
      unfold pAt
      have : Int.ofNat r.b.toNat = r.b := by simp; omega
      rw [this]
    unfold hind
    rw [hk, pOf, decide_eq_false q]
    cases a.wr <;> cases r.wr <;> cases decide (a.b < 0) <;> cases decide (a.b = r.b) <;> rfl

def updR (A : List Rq) (r : Rq) : Rq := ⟨r.n, r.b, r.wr, r.wy || !stp A r⟩
def upd (L : List Rq) (i : Nat) : List Rq := L.mapIdx fun j r => if j < i then updR (L.take j) r else r
theorem upd_get (L : List Rq) (i j : Nat) : (upd L i)[j]? = L[j]?.map fun r => if j < i then updR (L.take j) r else r := by
  unfold upd; rw [List.getElem?_mapIdx]
theorem upd_len (L : List Rq) (i : Nat) : (upd L i).length = L.length := by unfold upd; rw [List.length_mapIdx]
theorem upd_zero (L : List Rq) : upd L 0 = L := by
  apply List.ext_getElem?; intro j
  rw [upd_get]; cases L[j]? <;> rfl
def begN (L : List Rq) : Nat → List Nat
  | 0 => []
  | i + 1 => begN L i ++ (match L[i]? with | some r => if !r.wy && !stp (L.take i) r then [r.n] else [] | none => [])
theorem begN_len (L : List Rq) : ∀ i, (begN L i).length ≤ i
  | 0 => Nat.le_refl _
  | i + 1 => by
    have := begN_len L i
    unfold begN
    rw [List.length_append]
    cases L[i]? with
    | none => simp; omega
    | some r =>
      dsimp only
      split <;> simp <;> omega
theorem upd_same {M : List Rq} {i : Nat} {r : Rq} (hr : M[i]? = some r) (e : updR (M.take i) r = r) : upd M (i + 1) = upd M i := by
  apply List.ext_getElem?; intro j
  rw [upd_get, upd_get]
  cases hj : M[j]? with
  | none => rfl
  | some x =>
    simp only [Option.map_some]
    by_cases q : j = i
    · subst q
      rw [hr] at hj; cases hj
      rw [if_pos (Nat.lt_succ_self _), if_neg (Nat.lt_irrefl _), e]
    · by_cases q2 : j < i
      · rw [if_pos (by omega), if_pos q2]
      · rw [if_neg (by omega), if_neg q2]
theorem upd_at {M : List Rq} {i : Nat} {r : Rq} (hr : M[i]? = some r) : (upd M i)[i]? = some r := by
  rw [upd_get, hr]; simp
theorem RC.upd {rb : Blk} {M : List Rq} {i : Nat} {r : Rq} (C : RC rb (upd M i)) (hr : M[i]? = some r) (e : (updR (M.take i) r).wy = true) (hn : i * 4 + 3 < rb.n) : RC (rb.st (i * 4 + 3) (.bool true)) (Go.Cl.O.upd M (i + 1)) := by
  intro j x hx
  rw [upd_get] at hx
  by_cases q : j = i
  · subst q
    rw [hr] at hx
    simp only [Option.map_some, if_pos (Nat.lt_succ_self _), Option.some.injEq] at hx
    obtain ⟨c0, c1, c2, c3⟩ := C j r (upd_at hr)
    rw [st_get_ne _ _ _ _ (by omega), st_get_ne _ _ _ _ (by omega), st_get_ne _ _ _ _ (by omega), st_get_same _ _ _ hn, ← hx, e]
    exact ⟨c0, c1, c2, rfl⟩
  · have hx' : (Go.Cl.O.upd M i)[j]? = some x := by
      rw [upd_get, ← hx]
      congr 1; funext y
      by_cases q2 : j < i
      · rw [if_pos q2, if_pos (by omega)]
      · rw [if_neg q2, if_neg (by omega)]
    rw [st_get_ne _ _ _ _ (by omega), st_get_ne _ _ _ _ (by omega), st_get_ne _ _ _ _ (by omega), st_get_ne _ _ _ _ (by omega)]
    exact C j x hx'
theorem AH.congr {b : Blk} {L : List Rq} {r r' : Rq} (A : AH b (L ++ [r'])) (hb : r'.b = r.b) (hw : r'.wr = r.wr) : AH b (L ++ [r]) := by
  have e : ∀ p : Rq → Bool, p r' = p r → nR p (L ++ [r']) = nR p (L ++ [r]) ∧ nW p (L ++ [r']) = nW p (L ++ [r]) := fun p hp => by
    rw [n_snocR, n_snocR, n_snocW, n_snocW, hp, hw]; exact ⟨rfl, rfl⟩
  have eAt : ∀ k, pAt k r' = pAt k r := fun k => by unfold pAt; rw [hb]
  have eOf : pOf r' = pOf r := by unfold pOf; rw [hb]
  refine ⟨A.ro, by have := A.len; simpa using this, fun k hk => ?_, ?_, ?_⟩
  · rw [← (e _ (eAt k)).1, ← (e _ (eAt k)).2]; exact A.at_ k hk
  · rw [← (e _ eOf).1, ← (e _ eOf).2]; exact A.of
  · rw [← (e pAll rfl).1, ← (e pAll rfl).2]; exact A.all
theorem idx_spec (p : Rq → Bool) : ∀ (L : List Rq) (k : Nat), idxI p L k = -1 ∨ ∃ j, idxI p L k = Int.ofNat (k + j) ∧ j < L.length
  | [], _ => .inl rfl
  | r :: l, k => by
    rw [idxI]
    cases q : p r
    · simp only [Bool.false_eq_true, if_false]
      rcases idx_spec p l (k + 1) with h | ⟨j, h, hj⟩
      · exact .inl h
      · exact .inr ⟨j + 1, by rw [h, show k + 1 + j = k + (j + 1) by omega], by simp; omega⟩
    · exact .inr ⟨0, rfl, by simp⟩
theorem el_lst {h : H} {v : CV} {lid : Nat} {es : List Nat} (l : Lst h 1 v lid es.length (uc es)) : EL h v es ∧ ∀ k, own v k → k = lid := by
  rcases l.val with ⟨h0, rfl⟩ | ⟨h0, rfl, h1, b, h2, h3, h4, h5⟩
  · exact ⟨.inl ⟨List.length_eq_zero_iff.1 h0, rfl⟩, fun k hk => False.elim hk⟩
  · exact ⟨.inr ⟨lid, b, rfl, h1, h2, by rw [h4, Nat.mul_one], fun i x hx => by rw [h5, nth_eq]; unfold uc; rw [List.getElem?_map, hx]; rfl⟩, fun k hk => hk⟩

/-- Done's loop -/
structure DI (h : H) (t id m ahd : Nat) (tb : Blk) (R : List Rq) (es : List Nat) (A : List Rq) (h' : H) (u : CV) : Prop where
  nx : ahd < h'.nx
  gn : h'.gn = h.gn
  old : ∀ k, k < h.nx → k ≠ t → k ≠ id → h'.t.get k = h.t.get k
  tbl : h'.blk t = some tb
  row : ∃ rb, h'.blk id = some rb ∧ rb.ro = false ∧ rb.n = m * 4 ∧ RC rb R
  ah : ∃ ab, h'.blk ahd = some ab ∧ AH ab A
  lst : ∃ lid, ahd < lid ∧ Lst h' 1 u lid es.length (uc es)
  low : h'.low = min id t
theorem DI.addr {h : H} {t id m ahd : Nat} {tb : Blk} {R : List Rq} {es : List Nat} {A : List Rq} {X : H} {u : CV} (D : DI h t id m ahd tb R es A X u) (ha : h.nx ≤ ahd) (ht : t < h.nx) (hi : id < h.nx) {X' : H} {b' : Blk} {A' : List Rq} (F : But X X' ahd) (hb : X'.blk ahd = some b') (hA : AH b' A') (hl : X'.low = min X.low ahd) :
    DI h t id m ahd tb R es A' X' u := by
  have hx := D.nx
  have fx := F.nx
  obtain ⟨rb, q1, q2⟩ := D.row
  obtain ⟨lid, q3, q4⟩ := D.lst
  have hold : ∀ k, k < h.nx → X'.t.get k = X.t.get k := fun k hk => F.old k (by omega) (by omega)
  refine ⟨by omega, F.gn.trans D.gn, fun k hk h1 h2 => (hold k hk).trans (D.old k hk h1 h2), (blk_eq (hold t ht)).trans D.tbl, ⟨rb, (blk_eq (hold id hi)).trans q1, q2⟩, ⟨b', hb, hA⟩, ⟨lid, q3, ?_⟩, by have := D.low; omega⟩
  refine ⟨q4.len, ?_⟩
  rcases q4.val with h0 | ⟨h0, h1, h2, b, h3, h4⟩
  · exact .inl h0
  · exact .inr ⟨h0, h1, by omega, b, (blk_eq (F.old lid h2 (by omega))).trans h3, h4⟩
end
end Go.Cl.O

namespace Go.Cl.O
noncomputable section
variable {σ : Sums}
set_option maxRecDepth 1000000

def DoneQ (h : H) (t : Nat) (v : CV) (M : List Rq) (es : List Nat) (r : Option (CV × Option H)) : Prop :=
  ∃ v' u x, r = some (.tup [u, .int .i64 0], x) ∧ TA (x.getD h) t v' M ∧ Mod h (x.getD h) t v v' ∧ EL (x.getD h) u es ∧ (∀ k, own u k → h.nx ≤ k) ∧ (x.getD h).low ≤ t
theorem done_none (hσ : ∀ f a h, f ≠ 23 → σ f a h = none) {h : H} {t : Nat} {v : CV} {L : List Rq} (T : TA h t v L) (hl : L.length ≤ 100) (n : Nat) (hi : idxI (pNum n) L 0 < 0) :
    RetQ (.tup [.nils, .int .i64 6]) ((lim Try.prog σ).call 29 [.ptr t 0, u64 n] h) := by
  have nn : (lim Try.prog σ).call 60 [.ptr t 0] h.lo = some (.bool false, none) := none_run hσ (T.ext (Ext.lo h))
  have pp : (lim Try.prog σ).call 63 [.ptr t 0, u64 n] h.lo = some (.int .i64 (idxI (pNum n) L 0), none) := place_run hσ (T.ext (Ext.lo h)) (by omega) n
  have d2 : decide (idxI (pNum n) L 0 < 0) = true := decide_eq_true hi
  rw [call_eq (hσ _ _ _ (by decide)) fn_29 rfl rfl, Try.ntmps29, Try.results29]
  simp only [go_sem, nn, pp, d2]
  exact congrArg some (fin_q _ _ _ rfl rfl)
theorem done_run (hσ : ∀ f a h, f ≠ 23 → σ f a h = none) {h : H} {t : Nat} {v : CV} {L : List Rq} (T : TA h t v L) (hl : L.length ≤ 100) (hb : ∀ r ∈ L, r.b < 64) (n : Nat) {at_ : Nat} (hat : idxI (pNum n) L 0 = Int.ofNat at_) (hatl : at_ < L.length) :
    DoneQ h t v (upd (L.eraseIdx at_) (L.eraseIdx at_).length) (begN (L.eraseIdx at_) (L.eraseIdx at_).length) ((lim Try.prog σ).call 29 [.ptr t 0, u64 n] h) := by
  obtain ⟨M, hM⟩ : ∃ M, M = L.eraseIdx at_ := ⟨_, rfl⟩
  have hMl : M.length = L.length - 1 := by rw [hM, List.length_eraseIdx, if_pos hatl]
  have hbM : ∀ r ∈ M, r.b < 64 := fun r hr => hb r (by rw [hM] at hr; exact List.mem_of_mem_eraseIdx hr)
  rw [← hM]
  obtain ⟨Q, hQ⟩ : ∃ Q, Q = DoneQ h t v (upd M M.length) (begN M M.length) := ⟨_, rfl⟩
  rw [← hQ]
  have nn : (lim Try.prog σ).call 60 [.ptr t 0] h.lo = some (.bool false, none) := none_run hσ (T.ext (Ext.lo h))
  have pp : (lim Try.prog σ).call 63 [.ptr t 0, u64 n] h.lo = some (.int .i64 (idxI (pNum n) L 0), none) := place_run hσ (T.ext (Ext.lo h)) (by omega) n
  rw [hat] at pp
  have T' := T
  obtain ⟨⟨tb, q1, q2, q3, q4⟩, htn, B, hne⟩ := T
  have hid : ∃ id b m, v = .sl id 0 L.length (.opn 4) ∧ id < h.nx ∧ h.blk id = some b ∧ b.ro = false ∧ b.n = m * 4 ∧ L.length ≤ m ∧ RC b L := by
    rcases B with ⟨rfl, _⟩ | ⟨rfl, _⟩ | B
    · simp at hatl
    · simp at hatl
    · exact B
  obtain ⟨id, b, m, rfl, h1, h2, h3, h4, h5, h6⟩ := hid
  have hit : id ≠ t := fun e => hne e.symm
  have d2 : decide (Int.ofNat at_ < 0) = false := decide_eq_false (by simp)
  have w0 : IntKind.i64.wrap (Int.ofNat at_ + 1) = Int.ofNat (at_ + 1) := wrap_succ (by omega)
  obtain ⟨X, b', de, W, n', ro', rc'⟩ := del_run hσ (h := h.lo) (id := id) h1 h2 h3 h4 h5 (by omega) h6 hatl (Nat.le_refl _)
  rw [← hM] at rc'
  obtain ⟨tb1, htb1⟩ : ∃ tb1, tb1 = tb.st 1 (.sl id 0 (L.length - 1) (.opn 4)) := ⟨_, rfl⟩
  have tbn : 1 < tb.n := Blk.get_lt q4
  have Xt : X.blk t = some tb := (blk_eq (W.old t (fun e => hit e.symm))).trans q1
  obtain ⟨Y, hY⟩ : ∃ Y, Y = X.put t (.cells tb1) := ⟨_, rfl⟩
  obtain ⟨Z, hZ'⟩ : ∃ Z, Z = Y.alloc (.cells (newBlk (CV.agg zc).cells)) := ⟨_, rfl⟩
  have hZ : Z = Y.alloc (.cells (newBlk zc)) := hZ'
  have Xnx : X.nx = h.nx := W.nx
  have Ynx : Y.nx = h.nx := by rw [hY]; exact Xnx
  have Znx : Z.nx = h.nx + 1 := by rw [hZ]; show Y.nx + 1 = _; rw [Ynx]
  have Yt : Y.blk t = some tb1 := by rw [hY]; exact put_blk_same _ _ _
  have YZ : Ext Y Z := by rw [hZ]; exact Ext.alloc _ _
  have Zt : Z.blk t = some tb1 := (YZ.blk (by omega)).trans Yt
  have g0 : tb1.get 0 = some (.bool true) := by rw [htb1, st_get_ne _ _ _ _ (by decide)]; exact q3
  have g1 : tb1.get 1 = some (.sl id 0 (L.length - 1) (.opn 4)) := by rw [htb1, st_get_same _ _ _ tbn]
  have tr : tb1.ro = false := by rw [htb1]; exact q2
  have Zid : Z.blk id = some b' := (YZ.blk (by omega)).trans ((by rw [hY]; exact blk_eq (put_get_ne _ _ _ _ hit) : Y.blk id = X.blk id).trans W.blk)
  have Zah : Z.blk h.nx = some (newBlk zc) := by rw [hZ]; exact alloc_blk_same _ _ _ Ynx.symm
  have Xlow : X.low = id := by rw [W.low]; show min h.nx id = id; omega
  have Ylow : Y.low = min id t := by rw [hY]; show min X.low t = _; rw [Xlow]
  have D0 : DI h t id m h.nx tb1 (upd M 0) (begN M 0) (M.take 0) Z .nils := by
    refine ⟨by omega, ?_, fun k hk k1 k2 => ?_, Zt, ⟨b', Zid, ro', n'.trans h4, by rw [upd_zero]; exact rc'⟩, ⟨_, Zah, zc_ah⟩, ⟨h.nx + 1, by omega, Lst.nil _ _ _⟩, ?_⟩
    · rw [hZ, hY]; show X.gn = _; rw [W.gn]; rfl
    · rw [YZ.old k (by omega), hY, put_get_ne _ _ _ _ k1, W.old k k2]; rfl
    · rw [hZ]; exact Ylow
  rw [call_eq (hσ _ _ _ (by decide)) fn_29 rfl rfl, Try.ntmps29, Try.results29]
  have Ln : ∀ H' ts az, builtinT Try.prog H' .len (66 :: ts) (.sl id 0 (L.length - 1) (.opn 4) :: az) = some (.val (.int .i64 (Int.ofNat M.length))) := fun _ _ _ => by rw [hMl]; rfl
  simp only [go_sem, nn, pp, d2, q1, q4, w0, de, Xt, q2, tbn, ← htb1, ← hY, build_ah, zc_one, ← hZ, ← hZ', Zt, g1, Ln, tx_65]
  refine loop_ind (Q := Q) (fun i env h' => evT env 0 = .ptr t 0 ∧ evT env 7 = .ptr h.nx 0 ∧ evT env 8 = .fn (.func 65) [.ptr h.nx 0] [] ∧ evT env 38 = .int .i64 (Int.ofNat M.length) ∧ evT env 39 = .int .i64 (Int.ofNat i) ∧ DI h t id m h.nx tb1 (upd M i) (begN M i) (M.take i) h' (evT env 9)) M.length 0 ?_ (Nat.zero_le _) ?_ ?_
  · refine ⟨by simp only [go_sem], by simp only [go_sem, Ynx], by simp only [go_sem, Ynx], by simp only [go_sem], by simp only [go_sem]; rfl, ?_⟩
    simp only [go_sem, Ynx]; rw [← hZ]
    exact D0
  · rintro i env h' ⟨e0, e7, e8, e38, e39, D⟩ hi next
    have c0 := ofNat_lt hi
    have w1 := wrap_succ (i := i) (by omega)
    obtain ⟨r, hr⟩ : ∃ r, M[i]? = some r := ⟨_, List.getElem?_eq_getElem hi⟩
    obtain ⟨rb, hrb, rro, rn, RCr⟩ := D.row
    obtain ⟨ab, hab, A⟩ := D.ah
    obtain ⟨lid, hlid, Lu⟩ := D.lst
    obtain ⟨k0, k1, k2, k3⟩ := RCr i r (upd_at hr)
    have ia : ∀ kd, indexAddrT Try.prog 66 (.sl id 0 (L.length - 1) (.opn 4)) (.int kd (Int.ofNat i)) = some (.ptr id (i * 4)) := fun kd => by
      rw [ia_66, blt_eq', decide_eq_true (by omega), cond_true, Nat.zero_add]
    have ht := D.tbl
    have ld : rb.loadN (i * 4) 4 = some [u64 r.n, .int .i64 r.b, .bool r.wr, .bool r.wy] := by simp only [go_sem, k0, k1, k2, k3]
    have hrM : r ∈ M := List.mem_of_getElem? hr
    have htk : M.take (i + 1) = M.take i ++ [r] := by rw [List.take_succ, hr]; rfl
    have hlt : (M.take i).length < 999 := by rw [List.length_take]; omega
    have hst : (lim Try.prog σ).call 65 [.ptr h.nx 0, r.cv] h' = some (.bool (stp (M.take i) r), none) := by
      have := astops_run hσ hab A D.nx r (hbM r hrM)
      rw [stopsA_eq] at this; exact this
    rw [Rq.cv] at hst
    have hbl := begN_len M i
    have hmn : i * 4 + 3 < rb.n := by rw [rn]; omega
    cases qw : r.wy
    · rw [qw] at ld hst k3
      cases qs : stp (M.take i) r
      · -- it begins
        rw [qs] at hst
        have hbg : begN M (i + 1) = begN M i ++ [r.n] := by rw [begN, hr]; simp [qw, qs]
        obtain ⟨rb2, hrb2⟩ : ∃ rb2, rb2 = rb.st (i * 4 + 3) (.bool true) := ⟨_, rfl⟩
        obtain ⟨P, hP⟩ : ∃ P, P = h'.put id (.cells rb2) := ⟨_, rfl⟩
        have Pid : P.blk id = some rb2 := by rw [hP]; exact put_blk_same _ _ _
        have Pk : ∀ k, k ≠ id → P.t.get k = h'.t.get k := fun k hk => by rw [hP]; exact put_get_ne _ _ _ _ hk
        have p0 : rb2.get (i * 4) = some (u64 r.n) := by rw [hrb2, st_get_ne _ _ _ _ (by omega)]; exact k0
        have p1 : rb2.get (i * 4 + 1) = some (.int .i64 r.b) := by rw [hrb2, st_get_ne _ _ _ _ (by omega)]; exact k1
        have p2 : rb2.get (i * 4 + 2) = some (.bool r.wr) := by rw [hrb2, st_get_ne _ _ _ _ (by omega)]; exact k2
        have p3 : rb2.get (i * 4 + 3) = some (.bool true) := by rw [hrb2, st_get_same _ _ _ hmn]
        have ld2 : rb2.loadN (i * 4) 4 = some [u64 r.n, .int .i64 r.b, .bool r.wr, .bool true] := by simp only [go_sem, p0, p1, p2, p3]
        simp only [go_sem, e0, e7, e8, e38, e39, c0, ht, g1, ia, hrb, k3, ld, hst, qw, rro, hmn, ← hrb2, ← hP, Pid, p0, Nat.mul_one]
        have LP : Lst P 1 (evT env 9) lid (begN M i).length (uc (begN M i)) := Lu.mono (by rw [hP]; exact Nat.le_refl _) fun _ => blk_eq (Pk lid (by omega))
        refine app_step (Q := Q) (by_ := 8) (m := 1) (new := [u64 r.n]) (LP.ext (Ext.alloc _ _)) (by decide) rfl rfl rfl (by decide) (by omega) (by omega) fun V LV vnx vgn vold vlow vlow2 => ?_
        have Pnx : P.nx = h'.nx := by rw [hP]; rfl
        simp only [go_sem] at vnx vgn vlow vold LV vlow2
        have V0 : ∀ k, k ≤ h.nx → V.t.get k = P.t.get k := fun k hk => (vold k (by have := D.nx; omega) (fun _ => by omega)).trans (alloc_get_ne _ _ _ (by have := D.nx; omega))
        have Vid : V.blk id = some rb2 := (blk_eq (V0 id (by omega))).trans Pid
        have hrx := RCr.upd hr (by simp [updR, qs]) hmn
        rw [← hrb2] at hrx
        have DV : DI h t id m h.nx tb1 (upd M (i + 1)) (begN M (i + 1)) (M.take i) V (.sl (P.nx + 1) 0 ((begN M i).length + 1) (.opn 1)) := by
          refine ⟨by have := D.nx; omega, ?_, fun k hk h1 h2 => ?_, ?_, ⟨rb2, Vid, by rw [hrb2]; exact rro, by rw [hrb2]; exact rn, hrx⟩, ⟨ab, ?_, A⟩, ⟨P.nx + 1, by have := D.nx; omega, ?_⟩, ?_⟩
          · rw [vgn, hP]; exact D.gn
          · rw [V0 k (by omega), Pk k h2]; exact D.old k hk h1 h2
          · rw [blk_eq (V0 t (by omega)), blk_eq (Pk t (fun e => hit e.symm))]; exact ht
          · rw [blk_eq (V0 h.nx (Nat.le_refl _)), blk_eq (Pk h.nx (by omega))]; exact hab
          · rw [hbg, uc_app, List.length_append]; exact LV
          · have pl : P.low = min id t := by rw [hP]; show min h'.low id = _; rw [D.low]; omega
            rcases vlow2 with e | e
            · rw [e]; exact pl
            · rw [e, pl]; omega
        obtain ⟨Z2, ab2, ca, FZ, Zb, AZ, Zlow⟩ := aadd_run hσ (blk_eq (V0 h.nx (Nat.le_refl _)) |>.trans ((blk_eq (Pk h.nx (by omega))).trans hab)) A DV.nx (⟨r.n, r.b, r.wr, true⟩ : Rq) (hbM r hrM) hlt
        have ca : (lim Try.prog σ).call 64 [.ptr h.nx 0, .agg [u64 r.n, .int .i64 r.b, .bool r.wr, .bool true]] V = some (.tup [], some Z2) := ca
        have AZ : AH ab2 (M.take (i + 1)) := by rw [htk]; exact AZ.congr rfl rfl
        simp only [go_sem, e0, e7, e8, e38, e39, Vid, ld2, ca, w1]
        exact next _ _ ⟨by simp only [go_sem, e0], by simp only [go_sem, e7], by simp only [go_sem, e8], by simp only [go_sem, e38], by simp only [go_sem, w1], by simp only [go_sem]; exact DV.addr (Nat.le_refl _) htn h1 FZ Zb AZ Zlow⟩
      · -- it waits on
        rw [qs] at hst
        have hbg : begN M (i + 1) = begN M i := by rw [begN, hr]; simp [qw, qs]
        obtain ⟨Z2, ab2, ca, FZ, Zb, AZ, Zlow⟩ := aadd_run hσ hab A D.nx r (hbM r hrM) hlt
        have ca : (lim Try.prog σ).call 64 [.ptr h.nx 0, .agg [u64 r.n, .int .i64 r.b, .bool r.wr, .bool false]] h' = some (.tup [], some Z2) := by rw [Rq.cv, qw] at ca; exact ca
        rw [← htk] at AZ
        simp only [go_sem, e0, e7, e8, e38, e39, c0, ht, g1, ia, hrb, k3, ld, hst, qw, ca, w1]
        exact next _ _ ⟨by simp only [go_sem, e0], by simp only [go_sem, e7], by simp only [go_sem, e8], by simp only [go_sem, e38], by simp only [go_sem, w1], by rw [hbg, upd_same hr (by cases r; simp_all [updR])]; simp only [go_sem]; exact D.addr (Nat.le_refl _) htn h1 FZ Zb AZ Zlow⟩
    · -- it is on its way
      rw [qw] at ld k3
      have hbg : begN M (i + 1) = begN M i := by rw [begN, hr]; simp [qw]
      obtain ⟨Z2, ab2, ca, FZ, Zb, AZ, Zlow⟩ := aadd_run hσ hab A D.nx r (hbM r hrM) hlt
      have ca : (lim Try.prog σ).call 64 [.ptr h.nx 0, .agg [u64 r.n, .int .i64 r.b, .bool r.wr, .bool true]] h' = some (.tup [], some Z2) := by rw [Rq.cv, qw] at ca; exact ca
      rw [← htk] at AZ
      simp only [go_sem, e0, e7, e8, e38, e39, c0, ht, g1, ia, hrb, k3, ld, qw, ca, w1]
      exact next _ _ ⟨by simp only [go_sem, e0], by simp only [go_sem, e7], by simp only [go_sem, e8], by simp only [go_sem, e38], by simp only [go_sem, w1], by rw [hbg, upd_same hr (by cases r; simp_all [updR])]; simp only [go_sem]; exact D.addr (Nat.le_refl _) htn h1 FZ Zb AZ Zlow⟩
  · rintro env h' ⟨e0, e7, e8, e38, e39, D⟩
    have c0 := ofNat_nlt (Nat.le_refl M.length)
    obtain ⟨u, hu⟩ : ∃ u, u = evT env 9 := ⟨_, rfl⟩
    rw [← hu] at D
    simp only [go_sem, e0, e7, e8, e38, e39, c0, ← hu]
    obtain ⟨rb, hrb, rro, rn, RCr⟩ := D.row
    obtain ⟨lid, hlid, Lu⟩ := D.lst
    obtain ⟨Eu, Ou⟩ := el_lst Lu
    have hlow := D.low
    have hnx := D.nx
    rw [hQ, fin_l _ _ _ (by omega)]
    refine ⟨.sl id 0 (L.length - 1) (.opn 4), u, some _, rfl, ?_, ⟨?_, ?_, fun k hk k1 k2 => ?_, fun k hk => .inl hk, fun B b1 b2 b3 => ?_⟩, ?_, fun k hk => by rw [Ou k hk]; omega, by show min h.low h'.low ≤ t; omega⟩
    · have TT : TA h' t (.sl id 0 (L.length - 1) (.opn 4)) (upd M M.length) := by
        refine ⟨⟨tb1, D.tbl, tr, g0, g1⟩, by omega, .inr (.inr ⟨id, rb, m, by rw [upd_len, hMl], by omega, hrb, rro, rn, by rw [upd_len]; omega, RCr⟩), fun e => hit (Eq.symm e)⟩
      exact TT.ext (Ext.up _ _)
    · show h.nx ≤ h'.nx
      omega
    · exact D.gn
    · exact D.old k hk k1 (fun e => k2 e)
    · show B ≤ min h.low h'.low
      have := b3 id rfl
      omega
    · exact Eu.ext (Ext.up _ _)
end
end Go.Cl.O
