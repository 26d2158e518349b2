/- The program's functions, run by the rewriting evaluator: what each answers and leaves (OvD). -/
import Derived.Test.YtmpaohmapdcckaaOvC
set_option linter.all false
open Go Go.Cl Go.Proofs
namespace Go.Cl.O
noncomputable section
variable {σ : Sums}
set_option maxRecDepth 1000000

def doneL (L : List Rq) (n : Nat) : List Rq := if idxI (pNum n) L 0 < 0 then L else upd (L.eraseIdx (idxI (pNum n) L 0).toNat) (L.eraseIdx (idxI (pNum n) L 0).toNat).length
structure WI (Y : H) (t hn : Nat) (w2 : CV) (l2 : Nat) (M : List Rq) (i : Nat) (h' : H) (u : CV) : Prop where
  ext : Ext Y h'
  lt : M ≠ [] → l2 < h'.nx
  row : M ≠ [] → ∃ rb, h'.blk l2 = some rb ∧ rb.ro = false ∧ rb.n = M.length * 4 ∧ RC rb (upd M i)
  lst : ∃ lid, l2 < lid ∧ Lst h' 1 u lid (begN M i).length (uc (begN M i))
  low : h'.low < hn
theorem WI.la {Y : H} {t hn : Nat} {w2 : CV} {l2 : Nat} {M : List Rq} {i : Nat} {h' : H} {u : CV} (W : WI Y t hn w2 l2 M i h' u) (h1 : M ≠ [] → w2 = .sl l2 0 M.length (.opn 4)) (h2 : M = [] → w2 = .nils) : LA h' w2 (upd M i) := by
  by_cases q : M = []
  · exact .inl ⟨by rw [q]; rfl, h2 q⟩
  · obtain ⟨rb, q1, q2, q3, q4⟩ := W.row q
    exact .inr (.inr ⟨l2, rb, M.length, by rw [upd_len]; exact h1 q, W.lt q, q1, q2, q3, by rw [upd_len]; exact Nat.le_refl _, q4⟩)
theorem do_done (hσ : ∀ f a h, f ≠ 23 → σ f a h = none) {h : H} {t : Nat} {v u : CV} {L : List Rq} (D : DS h t v u L) (a : Act) (k2 : a.k = 2) :
    DoQ h t v u (doneL L a.n) ((lim Try.prog σ).call 25 [.ptr t 0, u, .agg a.cs] h) := by
  obtain ⟨Q, hQ⟩ : ∃ Q, Q = DoQ h t v u (doneL L a.n) := ⟨_, rfl⟩
  rw [← hQ]
  obtain ⟨X, hX⟩ : ∃ X, X = h.lo.alloc (.cells (newBlk [.int .i64 2, u64 a.n, .int .i64 a.b, .bool a.w])) := ⟨_, rfl⟩
  have hX' : X = h.lo.alloc (.cells (newBlk (CV.agg [.int .i64 2, u64 a.n, .int .i64 a.b, .bool a.w]).cells)) := hX
  have XE : Ext h X := by rw [hX]; exact (Ext.lo h).alloc' _
  have Xlow : X.low = h.nx := by rw [hX]; rfl
  have Xnx : X.nx = h.nx + 1 := by rw [hX]; rfl
  have Xa : X.blk h.nx = some (newBlk [.int .i64 2, u64 a.n, .int .i64 a.b, .bool a.w]) := by rw [hX]; simp only [go_sem]
  have hl := D.len
  have htn := D.tab.lt
  have at_ : (lim Try.prog σ).call 57 [u, u64 a.n] X = some (.int .i64 (idxI (pNum a.n) L 0), none) := at_run hσ (D.row.ext XE) (by omega) a.n
  rw [call_eq (hσ _ _ _ (by decide)) fn_25 rfl rfl, Try.ntmps25, Try.results25]
  rcases idx_spec (pNum a.n) L 0 with hi | ⟨j, hj, hjl⟩
  · have hneg : idxI (pNum a.n) L 0 < 0 := by omega
    have d1 : decide (idxI (pNum a.n) L 0 < 0) = true := decide_eq_true hneg
    have dn : (lim Try.prog σ).call 29 [.ptr t 0, u64 a.n] X = some (.tup [.nils, .int .i64 6], none) := done_none hσ (D.tab.ext XE) hl a.n hneg
    simp only [go_sem, Act.cs, k2, ← hX, ← hX', Xa, at_, dn, d1]
    rw [hQ]
    have : doneL L a.n = L := by rw [doneL, if_pos hneg]
    rw [this]
    exact D.fin Xlow
  · rw [Nat.zero_add] at hj
    have d1 : decide (Int.ofNat j < 0) = false := decide_eq_false (by simp)
    rw [hj] at at_
    obtain ⟨M, hM⟩ : ∃ M, M = L.eraseIdx j := ⟨_, rfl⟩
    have hMl : M.length = L.length - 1 := by rw [hM, List.length_eraseIdx, if_pos hjl]
    have hdL : doneL L a.n = upd M M.length := by rw [doneL, if_neg (by rw [hj]; simp), hj, hM]; rfl
    obtain ⟨v', p, x, ce, TY, MY, Ep, op, lowY⟩ := done_run hσ (D.tab.ext XE) hl D.lt a.n hj hjl
    rw [← hM] at TY Ep
    obtain ⟨Y, hY⟩ : ∃ Y, Y = x.getD X := ⟨_, rfl⟩
    rw [← hY] at TY MY Ep lowY
    have Ynx := MY.nx
    have BY : LA Y u L := (D.row.ext XE).keep MY.nx fun k hk => MY.old k (by have := D.row.lt hk; omega) (fun e => D.ne (e ▸ hk)) (fun e => D.apart k e hk)
    have hid : ∃ id b m, u = .sl id 0 L.length (.opn 4) ∧ id < Y.nx ∧ Y.blk id = some b ∧ b.ro = false ∧ b.n = m * 4 ∧ L.length ≤ m ∧ RC b L := by
      rcases BY with ⟨rfl, _⟩ | ⟨rfl, _⟩ | B
      · simp at hjl
      · simp at hjl
      · exact B
    obtain ⟨id, b, m, rfl, h1, h2, h3, h4, h5, h6⟩ := hid
    have w0 : IntKind.i64.wrap (Int.ofNat j + 1) = Int.ofNat (j + 1) := wrap_succ (by omega)
    have sp := sl_pre2 h2 h4 hjl h5
    have ss := sl_suf2 h2 h4 (j := j + 1) (by omega) h5 (by omega)
    have e1 := pre_src (m := m) h2 h6 (Nat.le_of_lt hjl) (.nils)
    obtain ⟨w1, l1, Z1, ap1, LZ1, nx1, gn1, old1, low1, hl1⟩ := app_any (X := Y) (v := .nils) (lid := Y.nx) (m := j) (new := rcs (L.take j)) (Lst.nil Y 4 Y.nx) (by rw [rcs_len, List.length_take, Nat.min_eq_left (by omega)]) (rcs_one _) (by omega)
    rw [ap1] at e1
    have Zid : Z1.blk id = some b := (blk_eq (old1 _ h1 (by omega))).trans h2
    have ss1 := sl_suf2 Zid h4 (j := j + 1) (by omega) h5 (by omega)
    have e2 := suf_src (m := m) Zid h5 h6 (j := j + 1) (by omega) w1
    obtain ⟨w2, l2, Z2, ap2, LZ2, nx2, gn2, old2, low2, hl2⟩ := app_any (X := Z1) (v := w1) (lid := l1) (m := L.length - (j + 1)) (new := rcs (L.drop (j + 1))) LZ1 (by rw [rcs_len, List.length_drop]) (rcs_one _) (by omega)
    rw [ap2] at e2
    have Z2id : Z2.blk id = some b := (blk_eq (old2 _ (by omega) (by omega))).trans Zid
    have sp1 := sl_pre2 Zid h4 hjl h5
    have sp2 := sl_pre2 Z2id h4 hjl h5
    have ss2 := sl_suf2 Z2id h4 (j := j + 1) (by omega) h5 (by omega)
    obtain ⟨suf, hsuf⟩ : ∃ suf, suf = if j + 1 < m then CV.sl id ((j + 1) * 4) (L.length - (j + 1)) (.opn 4) else .slend id 0 (j + 1) 4 := ⟨_, rfl⟩
    rw [← hsuf] at ss ss1 ss2 e2
    simp only [go_sem, Act.cs, k2, ← hX, ← hX', Xa, at_, ce, ← hY, d1]
    refine cnd_go (Q := Q) (by kernel_rfl) ?_
    simp only [go_sem, ← hX, ← hX', ← hY, w0, sp, ss, ss1, ss2, sp1, sp2, e1, e2]
    refine cnd_go (Q := Q) (by kernel_rfl) ?_
    have bw2 : beqC w2 w2 = true := by
      rcases LZ2.val with ⟨_, rfl⟩ | ⟨_, rfl, _⟩
      · rfl
      · exact beqC_sl _ _ _ _
    have bsu : beqC suf suf = true := by
      rw [hsuf]
      split
      · exact beqC_sl _ _ _ _
      · simp [beqC]
    simp only [go_sem, ← hX, ← hX', ← hY, w0, sp, ss, ss1, ss2, sp1, sp2, e1, e2, bw2, bsu, BEq.rfl, Bool.and_self, beq_self_eq_true]
    have hm2 : 0 + j + (L.length - (j + 1)) = M.length := by omega
    have hrc : [] ++ rcs (L.take j) ++ rcs (L.drop (j + 1)) = rcs M := by rw [List.nil_append, ← rcs_app, hM, List.eraseIdx_eq_take_drop_succ]
    rw [hm2, hrc] at LZ2
    have hw2 : (M ≠ [] → w2 = .sl l2 0 M.length (.opn 4) ∧ l2 < Z2.nx ∧ ∃ rb, Z2.blk l2 = some rb ∧ rb.ro = false ∧ rb.n = M.length * 4 ∧ RC rb M) ∧ (M = [] → w2 = .nils) := by
      rcases LZ2.val with ⟨z0, z1⟩ | ⟨z0, z1, z2, rb, z3, z4, z5, z6⟩
      · exact ⟨fun hne => absurd (List.length_eq_zero_iff.1 z0) hne, fun _ => z1⟩
      · exact ⟨fun _ => ⟨z1, z2, rb, z3, z4, z5, RC.of_get z6⟩, fun e => by rw [e] at z0; simp at z0⟩
    have YZ2 : Ext Y Z2 := ⟨by omega, gn2.trans gn1, fun k hk => (old2 k (by omega) (by omega)).trans (old1 k hk (by omega))⟩
    have hl2Y : Y.nx ≤ l2 := by omega
    have w2s : M ≠ [] → w2 = .sl l2 0 M.length (.opn 4) := fun hne => (hw2.1 hne).1
    have W0 : WI Y t h.nx w2 l2 M 0 Z2 .nils := by
      refine ⟨YZ2, fun hne => (hw2.1 hne).2.1, fun hne => ?_, ⟨l2 + 1, by omega, Lst.nil _ _ _⟩, by omega⟩
      · obtain ⟨_, _, rb, r1, r2, r3, r4⟩ := hw2.1 hne
        exact ⟨rb, r1, r2, r3, by rw [upd_zero]; exact r4⟩
    refine loop_ind (Q := Q) (fun i env h' => evT env 1 = w2 ∧ evT env 12 = p ∧ evT env 13 = .int .i64 0 ∧ evT env 15 = .int .i64 (Int.ofNat i) ∧ WI Y t h.nx w2 l2 M i h' (evT env 14)) M.length 0 ?_ (Nat.zero_le _) ?_ ?_
    · refine ⟨by simp only [go_sem], by simp only [go_sem], by simp only [go_sem], by simp only [go_sem]; rfl, ?_⟩
      simp only [go_sem]
      exact W0
    · rintro i env h' ⟨f1, f12, f13, f15, W⟩ hi next
      have c0 := ofNat_lt hi
      have w1' := wrap_succ (i := i) (by omega)
      obtain ⟨r, hr⟩ : ∃ r, M[i]? = some r := ⟨_, List.getElem?_eq_getElem hi⟩
      have BW := W.la w2s hw2.2
      have Bl : ∀ h' ts az, builtinT Try.prog h' .len (59 :: ts) (w2 :: az) = some (.val (.int .i64 (Int.ofNat M.length))) := fun h' ts az => by rw [BW.len2, upd_len]
      obtain ⟨id2, b2, _, ea, ho2, hid2, hb2, hro2, At⟩ := BW.at_ (upd_at hr)
      have c3 := At.c3
      have c00 := At.c0
      have fr : (lim Try.prog σ).call 58 [w2, .int .i64 (Int.ofNat i)] h' = some (.bool (freeN (upd M i) i r), none) := free_run hσ BW (by rw [upd_len]; omega) (upd_at hr)
      rw [free_upd] at fr
      have hne : M ≠ [] := fun e => by rw [e] at hr; simp at hr
      have hidl : id2 = l2 := by rw [w2s hne] at ho2; exact ho2
      subst hidl
      obtain ⟨rb, hrb, rro, rn, RCr⟩ := W.row hne
      have hbb : b2 = rb := by rw [hrb] at hb2; exact (Option.some.inj hb2).symm
      rw [hbb] at c3 c00
      obtain ⟨lid, hlid, Lu⟩ := W.lst
      have hmn : i * 4 + 3 < rb.n := by rw [rn]; omega
      have hbl := begN_len M i
      have hlt2 := W.lt hne
      cases qw : r.wy
      · rw [qw] at c3
        cases qs : stp (M.take i) r
        · rw [qs] at fr
          have hbg : begN M (i + 1) = begN M i ++ [r.n] := by rw [begN, hr]; simp [qw, qs]
          obtain ⟨rb2, hrb2⟩ : ∃ rb2, rb2 = rb.st (i * 4 + 3) (.bool true) := ⟨_, rfl⟩
          obtain ⟨P, hP⟩ : ∃ P, P = h'.put id2 (.cells rb2) := ⟨_, rfl⟩
          have Pid : P.blk id2 = some rb2 := by rw [hP]; exact put_blk_same _ _ _
          have p0 : rb2.get (i * 4) = some (u64 r.n) := by rw [hrb2, st_get_ne _ _ _ _ (by omega)]; exact c00
          simp only [go_sem, f1, f12, f13, f15, c0, Bl, ea, hrb, c3, fr, hmn, rro, ← hrb2, ← hP, Pid, p0, Nat.mul_one]
          have Pk : ∀ k, k ≠ id2 → P.t.get k = h'.t.get k := fun k hk => by rw [hP]; exact put_get_ne _ _ _ _ hk
          have Pnx : P.nx = h'.nx := by rw [hP]; rfl
          have Plow : P.low = min h'.low id2 := by rw [hP]; rfl
          have LP : Lst P 1 (evT env 14) lid (begN M i).length (uc (begN M i)) := Lu.mono (by omega) fun _ => blk_eq (Pk lid (by omega))
          refine app_step (Q := Q) (by_ := 8) (m := 1) (new := [u64 r.n]) (LP.ext (Ext.alloc _ _)) (by decide) rfl rfl rfl (by decide) (by omega) (by omega) fun V LV vnx vgn vold vlow vlow2 => ?_
          simp only [go_sem] at vnx vgn vlow vold LV vlow2
          simp only [go_sem, f1, f12, f13, f15, w1']
          have V0 : ∀ k, k ≤ id2 → V.t.get k = P.t.get k := fun k hk => (vold k (by omega) (fun _ => by omega)).trans (alloc_get_ne _ _ _ (by omega))
          have hlowW := W.low
          have hen := W.ext.nx
          have hrx := RCr.upd hr (by simp [updR, qs]) hmn
          rw [← hrb2] at hrx
          refine next _ _ ⟨by simp only [go_sem, f1], by simp only [go_sem, f12], by simp only [go_sem, f13], by simp only [go_sem, w1'], ⟨⟨by omega, ?_, fun k hk => ?_⟩, fun _ => by omega, fun _ => ⟨rb2, (blk_eq (V0 id2 (Nat.le_refl _))).trans Pid, by rw [hrb2]; exact rro, by rw [hrb2]; exact rn, hrx⟩, ⟨P.nx + 1, by omega, ?_⟩, by omega⟩⟩
          · rw [vgn, hP]; exact W.ext.gn
          · rw [V0 k (by omega), Pk k (by omega)]; exact W.ext.old k hk
          · rw [hbg, uc_app, List.length_append]; simp only [go_sem]; exact LV
        · rw [qs] at fr
          have hbg : begN M (i + 1) = begN M i := by rw [begN, hr]; simp [qw, qs]
          simp only [go_sem, f1, f12, f13, f15, c0, Bl, ea, hrb, c3, fr, w1']
          refine next _ _ ⟨by simp only [go_sem, f1], by simp only [go_sem, f12], by simp only [go_sem, f13], by simp only [go_sem, w1'], W.ext, W.lt, fun hne => ⟨rb, hrb, rro, rn, by rw [upd_same hr (by cases r; simp_all [updR])]; exact RCr⟩, ⟨lid, hlid, by rw [hbg]; simp only [go_sem]; exact Lu⟩, W.low⟩
      · rw [qw] at c3
        have hbg : begN M (i + 1) = begN M i := by rw [begN, hr]; simp [qw]
        simp only [go_sem, f1, f12, f13, f15, c0, Bl, ea, hrb, c3, w1']
        refine next _ _ ⟨by simp only [go_sem, f1], by simp only [go_sem, f12], by simp only [go_sem, f13], by simp only [go_sem, w1'], W.ext, W.lt, fun hne => ⟨rb, hrb, rro, rn, by rw [upd_same hr (by cases r; simp_all [updR])]; exact RCr⟩, ⟨lid, hlid, by rw [hbg]; simp only [go_sem]; exact Lu⟩, W.low⟩
    · rintro env h' ⟨f1, f12, f13, f15, W⟩
      have c0 := ofNat_nlt (Nat.le_refl M.length)
      have BW := W.la w2s hw2.2
      have Bl : ∀ h' ts az, builtinT Try.prog h' .len (59 :: ts) (w2 :: az) = some (.val (.int .i64 (Int.ofNat M.length))) := fun h' ts az => by rw [BW.len2, upd_len]
      obtain ⟨q, hq⟩ : ∃ q, q = evT env 14 := ⟨_, rfl⟩
      rw [← hq] at W
      obtain ⟨lid, hlid, Lu⟩ := W.lst
      have hbl := begN_len M M.length
      have sr : (lim Try.prog σ).call 59 [p, q] h' = some (.bool true, none) := same_run hσ (Ep.ext W.ext) (el_lst Lu).1 (by omega)
      simp only [go_sem, f1, f12, f13, f15, c0, Bl, ← hq, sr]
      rw [hQ, hdL]
      refine D.fin2 XE TY MY W.ext BW (fun k hk => .inr ?_) W.low
      by_cases e : M = []
      · rw [hw2.2 e] at hk; cases hk
      · rw [w2s e] at hk; cases hk; exact hl2Y
end
end Go.Cl.O

namespace Go.Cl.O
noncomputable section
variable {σ : Sums}
set_option maxRecDepth 1000000

def stepL (L : List Rq) (a : Act) : List Rq := if a.k = 1 then comeL L a.n a.b a.w else if a.k = 2 then doneL L a.n else if a.k = 3 then [] else L
theorem stepL_ok (L : List Rq) (a : Act) (h : ∀ r ∈ L, r.b < 64) : (stepL L a).length ≤ L.length + 1 ∧ ∀ r ∈ stepL L a, r.b < 64 := by
  unfold stepL
  split
  · unfold comeL
    split
    · exact ⟨by omega, h⟩
    · split
      · exact ⟨by omega, h⟩
      · refine ⟨by simp, fun r hr => ?_⟩
        rcases List.mem_append.1 hr with h1 | h1
        · exact h r h1
        · rw [List.mem_singleton.1 h1]
          show max a.b (-1) < 64
          omega
  · split
    · unfold doneL
      split
      · exact ⟨by omega, h⟩
      · refine ⟨by rw [upd_len]; have := List.length_eraseIdx_le L (idxI (pNum a.n) L 0).toNat; omega, fun r hr => ?_⟩
        obtain ⟨i, hi⟩ := List.getElem?_of_mem hr
        rw [upd_get] at hi
        obtain ⟨y, hy, rfl⟩ := Option.map_eq_some_iff.1 hi
        have hb : y.b < 64 := h y (List.mem_of_mem_eraseIdx (List.mem_of_getElem? hy))
        split
        · exact hb
        · exact hb
    · split
      · exact ⟨by simp, fun r hr => by cases hr⟩
      · exact ⟨by omega, h⟩
theorem do_run (hσ : ∀ f a h, f ≠ 23 → σ f a h = none) {h : H} {t : Nat} {v u : CV} {L : List Rq} (D : DS h t v u L) (hl : L.length ≤ 99) (a : Act) :
    DoQ h t v u (stepL L a) ((lim Try.prog σ).call 25 [.ptr t 0, u, .agg a.cs] h) := by
  unfold stepL
  by_cases k1 : a.k = 1
  · rw [if_pos k1]; exact do_come hσ D hl a k1
  rw [if_neg k1]
  by_cases k2 : a.k = 2
  · rw [if_pos k2]; exact do_done hσ D a k2
  rw [if_neg k2]
  by_cases k3 : a.k = 3
  · rw [if_pos k3]; exact do_clear hσ D a k3
  rw [if_neg k3]
  exact do_other hσ D a k1 k2 k3
theorem DoR.ds {h h' : H} {t : Nat} {v u v' u' : CV} {L : List Rq} {a : Act} (D : DS h t v u L) (hl : L.length ≤ 99) (R : DoR h h' t v u v' u' (stepL L a)) : DS h' t v' u' (stepL L a) :=
  ⟨R.tab, R.row, R.ne, R.apart, by have := (stepL_ok L a D.lt).1; omega, (stepL_ok L a D.lt).2, R.low⟩
def SameQ (h : H) (r : Option (CV × Option H)) : Prop := ∃ x, r = some (.bool true, x) ∧ Ext h (x.getD h)
theorem look_run (hσ : ∀ f a h, f ≠ 23 → σ f a h = none) {h : H} {t : Nat} {v u : CV} {L : List Rq} (T0 : TA h t v L) (B0 : LA h u L) (hl : L.length ≤ 100) :
    SameQ h ((lim Try.prog σ).call 27 [.ptr t 0, u] h) := by
  obtain ⟨Q, hQ⟩ : ∃ Q, Q = SameQ h := ⟨_, rfl⟩
  rw [← hQ]
  have T := T0.ext (Ext.lo h)
  have B := B0.ext (Ext.lo h)
  have Bl := B.len2
  rw [call_eq (hσ _ _ _ (by decide)) fn_27 rfl rfl, Try.ntmps27, Try.results27]
  simp only [go_sem]
  refine loop_ind (Q := Q) (fun i env h' => h' = h.lo ∧ evT env 0 = .ptr t 0 ∧ evT env 1 = u ∧ evT env 5 = .int .i64 (Int.ofNat i - 1)) 67 0 ?_ (Nat.zero_le _) ?_ ?_
  · exact ⟨rfl, by simp only [go_sem], by simp only [go_sem], by simp only [go_sem]; rfl⟩
  · rintro i env h' ⟨rfl, e0, e1, e5⟩ hi next
    have c0 : decide (Int.ofNat i - 1 < 66) = true := decide_eq_true (by have : Int.ofNat i < 67 := Int.ofNat_lt.2 hi; omega)
    have w5 : IntKind.i64.wrap (Int.ofNat i - 1 + 1) = Int.ofNat (i + 1) - 1 := by
      have e : Int.ofNat i - 1 + 1 = Int.ofNat i := by omega
      have e2 : Int.ofNat (i + 1) - 1 = Int.ofNat i := by simp
      rw [e, e2]
      exact wrap_i64 (Int.le_trans (by decide) (Int.natCast_nonneg i)) (Int.lt_trans (Int.ofNat_lt.2 hi) (by decide))
    obtain ⟨k, hk⟩ : ∃ k, k = Int.ofNat i - 1 := ⟨_, rfl⟩
    rw [← hk] at e5 c0 w5
    simp only [go_sem, e0, e1, e5, c0]
    refine loop_ind (Q := Q) (fun j env h' => h' = h.lo ∧ evT env 0 = .ptr t 0 ∧ evT env 1 = u ∧ evT env 5 = .int .i64 k ∧ evT env 6 = .bool ((L.take j).any (pBusy k)) ∧ evT env 7 = .int .i64 (Int.ofNat j)) L.length 0 ?_ (Nat.zero_le _) ?_ ?_
    · exact ⟨rfl, by simp only [go_sem, e0], by simp only [go_sem, e1], by simp only [go_sem, e5], by simp only [go_sem]; rfl, by simp only [go_sem]; rfl⟩
    · rintro j env h' ⟨rfl, e0, e1, e5, e6, e7⟩ hj next
      have c1 := ofNat_lt hj
      have w1 := wrap_succ (i := j) (by omega)
      obtain ⟨r, hr⟩ : ∃ r, L[j]? = some r := ⟨_, List.getElem?_eq_getElem hj⟩
      obtain ⟨id, b, _, ea, _, _, hb, _, A⟩ := B.at_ hr
      have g1 := A.c1
      have g3 := A.c3
      have hz : (L.take (j + 1)).any (pBusy k) = ((L.take j).any (pBusy k) || pBusy k r) := by rw [List.take_succ, hr, List.any_append]; simp
      have fin : ∀ env2, evT env2 0 = .ptr t 0 → evT env2 1 = u → evT env2 5 = .int .i64 k → evT env2 6 = .bool ((L.take j).any (pBusy k) || pBusy k r) → evT env2 7 = .int .i64 (Int.ofNat (j + 1)) → _ := fun env2 a0 a1 a5 a6 a7 => next env2 h.lo ⟨rfl, a0, a1, a5, a6.trans (by rw [hz]), a7⟩
      cases qa : (L.take j).any (pBusy k)
      · rw [qa] at e6 fin
        cases qw : r.wy
        · rw [qw] at g3
          have hp : pBusy k r = false := by unfold pBusy; rw [qw]; rfl
          rw [hp] at fin
          simp only [go_sem, e0, e1, e5, e6, e7, c1, Bl, ea, hb, g1, g3, w1]
          exact fin _ (by simp only [go_sem, e0]) (by simp only [go_sem, e1]) (by simp only [go_sem, e5]) (by simp only [go_sem]) (by simp only [go_sem, w1])
        · rw [qw] at g3
          by_cases qn : r.b < 0
          · have dn : decide (r.b < 0) = true := decide_eq_true qn
            have hp : pBusy k r = true := by unfold pBusy; rw [qw, dn]; rfl
            rw [hp] at fin
            simp only [go_sem, e0, e1, e5, e6, e7, c1, Bl, ea, hb, g1, g3, w1, dn]
            exact fin _ (by simp only [go_sem, e0]) (by simp only [go_sem, e1]) (by simp only [go_sem, e5]) (by simp only [go_sem]) (by simp only [go_sem, w1])
          · have dn : decide (r.b < 0) = false := decide_eq_false qn
            have hp : pBusy k r = decide (r.b = k) := by unfold pBusy; rw [qw, dn]; rfl
            rw [hp] at fin
            simp only [go_sem, e0, e1, e5, e6, e7, c1, Bl, ea, hb, g1, g3, w1, dn]
            exact fin _ (by simp only [go_sem, e0]) (by simp only [go_sem, e1]) (by simp only [go_sem, e5]) (by simp only [go_sem, Bool.false_or]) (by simp only [go_sem, w1])
      · rw [qa, Bool.true_or] at fin
        rw [qa] at e6
        simp only [go_sem, e0, e1, e5, e6, e7, c1, Bl, ea, hb, g1, g3, w1]
        exact fin _ (by simp only [go_sem, e0]) (by simp only [go_sem, e1]) (by simp only [go_sem, e5]) (by simp only [go_sem]) (by simp only [go_sem, w1])
    · rintro env h' ⟨rfl, e0, e1, e5, e6, e7⟩
      rw [List.take_length] at e6
      have c1 := ofNat_nlt (Nat.le_refl L.length)
      have br : (lim Try.prog σ).call 33 [.ptr t 0, .int .i64 k] h.lo = some (.bool (L.any (pBusy k)), none) := busy_run hσ T (by omega) k
      simp only [go_sem, e0, e1, e5, e6, e7, c1, Bl, br, BEq.rfl, bne_self_eq_false, w5]
      exact next _ _ ⟨rfl, by simp only [go_sem, e0], by simp only [go_sem, e1], by simp only [go_sem, w5]⟩
  · rintro env h' ⟨rfl, e0, e1, e5⟩
    have c0 : decide (Int.ofNat 67 - 1 < 66) = false := by decide
    have lr : (lim Try.prog σ).call 34 [.ptr t 0] h.lo = some (.int .i64 (Int.ofNat L.length), none) := len_run hσ T
    obtain ⟨p1, x1, ce1, E1, P1, _, _⟩ := way_run hσ T (by omega)
    obtain ⟨Y1, hY1⟩ : ∃ Y1, Y1 = x1.getD h.lo := ⟨_, rfl⟩
    rw [← hY1] at E1 P1
    obtain ⟨p2, x2, ce2, E2, P2, _, _⟩ := numbers_run hσ (B.ext E1) (by omega) true
    obtain ⟨Y2, hY2⟩ : ∃ Y2, Y2 = x2.getD Y1 := ⟨_, rfl⟩
    rw [← hY2] at E2 P2
    have n1 : (numsOf true L).length ≤ 1000 := by unfold numsOf; rw [List.length_map]; exact Nat.le_trans (List.length_filter_le _ _) (by omega)
    have n2 : (numsOf false L).length ≤ 1000 := by unfold numsOf; rw [List.length_map]; exact Nat.le_trans (List.length_filter_le _ _) (by omega)
    have s1 : (lim Try.prog σ).call 59 [p1, p2] Y2 = some (.bool true, none) := same_run hσ (P1.ext E2) P2 n1
    obtain ⟨p3, x3, ce3, E3, P3, _, _⟩ := waits_run hσ ((T.ext E1).ext E2) (by omega)
    obtain ⟨Y3, hY3⟩ : ∃ Y3, Y3 = x3.getD Y2 := ⟨_, rfl⟩
    rw [← hY3] at E3 P3
    obtain ⟨p4, x4, ce4, E4, P4, _, _⟩ := numbers_run hσ (((B.ext E1).ext E2).ext E3) (by omega) false
    obtain ⟨Y4, hY4⟩ : ∃ Y4, Y4 = x4.getD Y3 := ⟨_, rfl⟩
    rw [← hY4] at E4 P4
    have s2 : (lim Try.prog σ).call 59 [p3, p4] Y4 = some (.bool true, none) := same_run hσ (P3.ext E4) P4 n2
    simp only [go_sem, e0, e1, e5, c0, lr, Bl, ce1, ← hY1, ce2, ← hY2, s1, ce3, ← hY3, ce4, ← hY4, s2]
    rw [hQ]
    obtain ⟨x, e, E⟩ := fin_ext (((((Ext.lo h).trans E1).trans E2).trans E3).trans E4) (.bool true)
    exact ⟨x, by rw [e], E⟩
end
end Go.Cl.O

namespace Go.Cl.O
noncomputable section
variable {σ : Sums}
set_option maxRecDepth 1000000

def acs (l : List Act) : List CV := l.flatMap Act.cs
theorem acs_get : ∀ (l : List Act) (i : Nat) (a : Act), l[i]? = some a → nth (acs l) (i * 4 + 0) = some (.int .i64 a.k) ∧ nth (acs l) (i * 4 + 1) = some (u64 a.n) ∧ nth (acs l) (i * 4 + 2) = some (.int .i64 a.b) ∧ nth (acs l) (i * 4 + 3) = some (.bool a.w)
  | [], i, r, h => by simp at h
  | a :: L, 0, r, h => by
    simp at h; subst h; exact ⟨rfl, rfl, rfl, rfl⟩
  | a :: L, i + 1, r, h => by
    have ih := acs_get L i r (by simpa using h)
    have e : ∀ m, nth (acs (a :: L)) ((i + 1) * 4 + m) = nth (acs L) (i * 4 + m) := fun m => by
      rw [show (i + 1) * 4 + m = i * 4 + m + 1 + 1 + 1 + 1 by omega]; rfl
    exact ⟨(e 0).trans ih.1, (e 1).trans ih.2.1, (e 2).trans ih.2.2.1, (e 3).trans ih.2.2.2⟩
/-- two tables, each with the document's -/
structure DS2 (h : H) (t : Nat) (v u : CV) (L : List Rq) (t2 : Nat) (v2 u2 : CV) (L2 : List Rq) : Prop where
  a : DS h t v u L
  b : DS h t2 v2 u2 L2
  x : ∀ k, (k = t ∨ own v k ∨ own u k) → ¬ (k = t2 ∨ own v2 k)
  y : ∀ k, (k = t2 ∨ own v2 k ∨ own u2 k) → ¬ (k = t ∨ own v k)
theorem DS2.swap {h : H} {t : Nat} {v u : CV} {L : List Rq} {t2 : Nat} {v2 u2 : CV} {L2 : List Rq} (D : DS2 h t v u L t2 v2 u2 L2) : DS2 h t2 v2 u2 L2 t v u L := ⟨D.b, D.a, D.y, D.x⟩
theorem DS2.step {h h' : H} {t : Nat} {v u v' u' : CV} {L L' : List Rq} {t2 : Nat} {v2 u2 : CV} {L2 : List Rq} (D : DS2 h t v u L t2 v2 u2 L2) (R : DoR h h' t v u v' u' L') (D' : DS h' t v' u' L') : DS2 h' t v' u' L' t2 v2 u2 L2 := by
  have hs : ∀ k, (k = t2 ∨ own v2 k ∨ own u2 k) → k < h.nx ∧ h'.t.get k = h.t.get k := fun k hk => by
    have hlt : k < h.nx := by
      rcases hk with rfl | hk | hk
      · exact D.b.tab.lt
      · exact D.b.tab.row.lt hk
      · exact D.b.row.lt hk
    have := D.y k hk
    exact ⟨hlt, R.old k hlt (fun e => this (.inl e)) (fun e => this (.inr e))⟩
  refine ⟨D', ⟨D.b.tab.keep R.nx fun k hk => (hs k (hk.elim .inl fun h => .inr (.inl h))).2, D.b.row.keep R.nx fun k hk => (hs k (.inr (.inr hk))).2, D.b.ne, D.b.apart, D.b.len, D.b.lt, R.low⟩, fun k hk => ?_, fun k hk => ?_⟩
  · have : (k = t ∨ own v k ∨ own u k) ∨ h.nx ≤ k := by
      rcases hk with rfl | hk | hk
      · exact .inl (.inl rfl)
      · rcases R.ownv k hk with h1 | h1
        · exact .inl (.inr (.inl h1))
        · exact .inr h1
      · rcases R.ownu k hk with h1 | h1
        · exact .inl (.inr (.inr h1))
        · exact .inr h1
    rcases this with h1 | h1
    · exact D.x k h1
    · intro hk2
      have := (hs k (hk2.elim .inl fun h => .inr (.inl h))).1
      omega
  · have hlt := (hs k hk).1
    rintro (e | e)
    · exact D.y k hk (.inl e)
    · rcases R.ownv k e with h1 | h1
      · exact D.y k hk (.inr h1)
      · omega
theorem DS2.ext {h h' : H} {t : Nat} {v u : CV} {L : List Rq} {t2 : Nat} {v2 u2 : CV} {L2 : List Rq} (D : DS2 h t v u L t2 v2 u2 L2) (E : Ext h h') (hl : h'.low ≤ h'.nx) : DS2 h' t v u L t2 v2 u2 L2 := ⟨D.a.ext E hl, D.b.ext E hl, D.x, D.y⟩
theorem new_run (hσ : ∀ f a h, f ≠ 23 → σ f a h = none) (h : H) : ∃ X, (lim Try.prog σ).call 24 [] h = some (.ptr h.nx 0, some X) ∧ Ext h X ∧ X.nx = h.nx + 1 ∧ TA X h.nx .nils [] ∧ X.low = min h.low h.nx := by
  obtain ⟨Q, hQ⟩ : ∃ Q : Option (CV × Option H) → Prop, Q = fun r => ∃ X, r = some (.ptr h.nx 0, some X) ∧ Ext h X ∧ X.nx = h.nx + 1 ∧ TA X h.nx .nils [] ∧ X.low = min h.low h.nx := ⟨_, rfl⟩
  suffices Q ((lim Try.prog σ).call 24 [] h) by rw [hQ] at this; exact this
  rw [call_eq (hσ _ _ _ (by decide)) fn_24 rfl rfl, Try.ntmps24, Try.results24]
  obtain ⟨X, hX⟩ : ∃ X, X = h.lo.alloc (.cells (newBlk [.bool true, .nils])) := ⟨_, rfl⟩
  have XE : Ext h X := by rw [hX]; exact (Ext.lo h).alloc' _
  simp only [go_sem, ← hX]
  rw [hQ, fin_new _ _ _ (by rw [okB_ptr, blt_eq']; exact decide_eq_false (by omega))]
  have TX : TA X h.nx .nils [] := ⟨⟨newBlk [.bool true, .nils], by rw [hX]; exact alloc_blk_same _ _ _ rfl, by simp only [go_sem], by simp only [go_sem], by simp only [go_sem]⟩, by rw [hX]; show h.nx < h.nx + 1; omega, .inl ⟨rfl, rfl⟩, fun hk => False.elim hk⟩
  exact ⟨_, rfl, XE.up' _, by rw [hX]; rfl, TX.ext (Ext.up _ _), by rw [hX]; rfl⟩

theorem apart_run (hσ : ∀ f a h, f ≠ 23 → σ f a h = none) (hk : ∀ h, (lim Try.prog σ).call 23 [] h = some (.bool true, none)) {h : H} {va vb vc : CV} {la lb lc : List Act}
    (A : Sl Try.prog 55 h va 4 la.length (acs la)) (B : Sl Try.prog 55 h vb 4 lb.length (acs lb)) (C : Sl Try.prog 55 h vc 4 lc.length (acs lc)) :
    Tru ((lim Try.prog σ).call 5 [va, vb, vc] h) := by
  obtain ⟨Q, hQ⟩ : ∃ Q : Option (CV × Option H) → Prop, Q = Tru := ⟨_, rfl⟩
  rw [← hQ]
  rw [call_eq (hσ _ _ _ (by decide)) fn_5 rfl rfl, Try.ntmps5, Try.results5]
  have Al := A.len
  have Bl := B.len
  have Cl := C.len
  by_cases q1 : Int.ofNat la.length > 25
  · simp only [go_sem, Al, q1, hk]
    rw [hQ]; exact tru_fin _ _
  by_cases q2 : Int.ofNat lb.length > 25
  · simp only [go_sem, Al, Bl, q1, q2, hk]
    rw [hQ]; exact tru_fin _ _
  by_cases q3 : Int.ofNat lc.length > 25
  · simp only [go_sem, Al, Bl, Cl, q1, q2, q3, hk]
    rw [hQ]; exact tru_fin _ _
  have ha : la.length ≤ 25 := by have : ¬ (la.length : Int) > 25 := q1; omega
  have hb : lb.length ≤ 25 := by have : ¬ (lb.length : Int) > 25 := q2; omega
  have hc : lc.length ≤ 25 := by have : ¬ (lc.length : Int) > 25 := q3; omega
  obtain ⟨X, nr, XE, Xnx, TX, Xlow⟩ := new_run hσ h.lo
  have nr : (lim Try.prog σ).call 24 [] h.lo = some (.ptr h.nx 0, some X) := nr
  have Xlow : X.low = h.nx := by rw [Xlow]; show min h.nx h.nx = h.nx; omega
  have Xnx : X.nx = h.nx + 1 := Xnx
  have XE : Ext h X := (Ext.lo h).trans XE
  have TX : TA X h.nx .nils [] := TX
  simp only [go_sem, Al, Bl, Cl, q1, q2, q3, nr]
  -- an act is read
  have act : ∀ (E' : H) (l : List Act) (vl : CV), Sl Try.prog 55 h vl 4 l.length (acs l) → Ext h E' → ∀ (i : Nat) (a : Act), l[i]? = some a → ∃ id off b, (∀ kd, indexAddrT Try.prog 55 vl (.int kd (Int.ofNat i)) = some (.ptr id off)) ∧ E'.blk id = some b ∧ b.loadN off 4 = some a.cs := by
    intro E' l vl S E i a hi
    obtain ⟨id, off, b, h1, h2, h3, h4, h5⟩ := S.elt i (List.getElem?_eq_some_iff.1 hi).1
    obtain ⟨n0, n1, n2, n3⟩ := acs_get l i a hi
    have g0 := h5 0 _ (by decide) n0
    have g1 := h5 1 _ (by decide) n1
    have g2 := h5 2 _ (by decide) n2
    have g3 := h5 3 _ (by decide) n3
    rw [Nat.add_zero] at g0
    exact ⟨id, off, b, h1, (E.blk h2).trans h3, by simp only [go_sem, g0, g1, g2, g3]; rfl⟩
  refine loop_ind (Q := Q) (fun i env h' => evT env 0 = va ∧ evT env 1 = vb ∧ evT env 2 = vc ∧ evT env 7 = .ptr h.nx 0 ∧ evT env 9 = .int .i64 (Int.ofNat i) ∧ Ext h h' ∧ ∃ v L, DS h' h.nx v (evT env 8) L ∧ L.length ≤ i ∧ ∀ k, own v k → h.nx ≤ k) la.length 0 ?_ (Nat.zero_le _) ?_ ?_
  · refine ⟨by simp only [go_sem], by simp only [go_sem], by simp only [go_sem], by simp only [go_sem], by simp only [go_sem]; rfl, XE, .nils, [], ?_, Nat.le_refl _, fun k hk => False.elim hk⟩
    simp only [go_sem]
    exact ⟨TX, .inl ⟨rfl, rfl⟩, fun hk => False.elim hk, fun k hk => False.elim hk, by simp, (fun r hr => by cases hr), by omega⟩
  · rintro i env h' ⟨e0, e1, e2, e7, e9, E, v, L, D, hL, ho⟩ hi next
    have c0 := ofNat_lt hi
    have w1 := wrap_succ (i := i) (by omega)
    obtain ⟨a, hai⟩ : ∃ a, la[i]? = some a := ⟨_, List.getElem?_eq_getElem hi⟩
    obtain ⟨id, off, b, ia, hbk, ld⟩ := act h' la va A E i a hai
    obtain ⟨v', u', x, dr, R⟩ := do_run hσ D (by omega) a
    obtain ⟨Y, hY⟩ : ∃ Y, Y = x.getD h' := ⟨_, rfl⟩
    rw [← hY] at R
    have D' := R.ds D (by omega)
    simp only [go_sem, e0, e1, e2, e7, e9, c0, Al, ia, hbk, ld, dr, ← hY, w1]
    have hnx := E.nx
    have EY : Ext h Y := ⟨by have := R.nx; omega, R.gn.trans E.gn, fun k hk => by rw [R.old k (by omega) (by omega) (fun e => by have := ho k e; omega)]; exact E.old k hk⟩
    refine next _ _ ⟨by simp only [go_sem, e0], by simp only [go_sem, e1], by simp only [go_sem, e2], by simp only [go_sem, e7], by simp only [go_sem, w1], by rw [← hY]; exact EY, v', stepL L a, by simp only [go_sem]; rw [← hY]; exact D', by have := (stepL_ok L a D.lt).1; omega, fun k hk => ?_⟩
    · rcases R.ownv k hk with h1 | h1
      · exact ho k h1
      · omega
  · rintro env h' ⟨e0, e1, e2, e7, e9, E, v, L, D, hL, ho⟩
    have c0 := ofNat_nlt (Nat.le_refl la.length)
    obtain ⟨u, hu⟩ : ∃ u, u = evT env 8 := ⟨_, rfl⟩
    rw [← hu] at D
    obtain ⟨t2, v2, x2, cr, T2, E2, ht2, ho2, lo2⟩ := copy_run hσ D.tab D.len
    obtain ⟨Y, hY⟩ : ∃ Y, Y = x2.getD h' := ⟨_, rfl⟩
    rw [← hY] at T2 E2 lo2
    have lo2 := lo2 D.low
    have BY := D.row.ext E2
    have e3 := BY.src (.nils)
    have hll := D.len
    have hdl := D.low
    have hen := E.nx
    have hyn := E2.nx
    obtain ⟨u2, l2, Z, ap, LZ, nxZ, gnZ, oldZ, lowZ, hl2⟩ := app_any (X := Y) (v := .nils) (lid := Y.nx) (m := L.length) (Lst.nil Y 4 Y.nx) (rcs_len L) (rcs_one L) (by omega)
    rw [ap] at e3
    rw [Nat.zero_add, List.nil_append] at LZ
    obtain ⟨BU2, O2⟩ := LA.of_lst LZ
    have YZ : Ext Y Z := ⟨nxZ, gnZ, fun k hk => oldZ k hk (by omega)⟩
    have EZ : Ext h Z := (E.trans E2).trans YZ
    have hl2n : Y.nx ≤ l2 := by omega
    have DD : DS2 Z h.nx v u L t2 v2 u2 L := by
      refine ⟨D.ext (E2.trans YZ) (by omega), ⟨T2.ext YZ, BU2, fun hk => ?_, fun k h1 h2 => ?_, hll, D.lt, by omega⟩, fun k hk => ?_, fun k hk => ?_⟩
      · have := O2 _ hk
        have := T2.lt
        omega
      · have := O2 _ h2
        have := T2.row.lt h1
        omega
      · have hlt : k < h'.nx := by
          rcases hk with rfl | hk | hk
          · exact D.tab.lt
          · exact D.tab.row.lt hk
          · exact D.row.lt hk
        rintro (e | e)
        · omega
        · have := ho2 k e; omega
      · have hge : h'.nx ≤ k := by
          rcases hk with rfl | hk | hk
          · exact ht2
          · exact ho2 k hk
          · have := O2 k hk; omega
        rintro (e | e)
        · have := D.tab.lt; omega
        · have := D.tab.row.lt e; omega
    simp only [go_sem, e0, e1, e2, e7, e9, c0, Al, ← hu, cr, ← hY, e3]
    refine loop_ind (Q := Q) (fun i env h' => evT env 0 = va ∧ evT env 1 = vb ∧ evT env 2 = vc ∧ evT env 7 = .ptr h.nx 0 ∧ evT env 10 = .ptr t2 0 ∧ evT env 11 = u2 ∧ evT env 12 = .int .i64 (Int.ofNat i) ∧ Ext h h' ∧ ∃ v L1, DS2 h' h.nx v (evT env 8) L1 t2 v2 u2 L ∧ L1.length ≤ 25 + i ∧ (∀ k, own v k → h.nx ≤ k)) lb.length 0 ?_ (Nat.zero_le _) ?_ ?_
    · refine ⟨by simp only [go_sem, e0], by simp only [go_sem, e1], by simp only [go_sem, e2], by simp only [go_sem, e7], by simp only [go_sem], by simp only [go_sem], by simp only [go_sem]; rfl, EZ, v, L, ?_, by omega, ho⟩
      simp only [go_sem, ← hu]
      exact DD
    · rintro i env X' ⟨e0, e1, e2, e7, e10, e11, e12, E, v, L1, D2, hL, ho⟩ hi next
      have c0 := ofNat_lt hi
      have w1 := wrap_succ (i := i) (by omega)
      obtain ⟨a, hai⟩ : ∃ a, lb[i]? = some a := ⟨_, List.getElem?_eq_getElem hi⟩
      obtain ⟨id, off, b, ia, hbk, ld⟩ := act X' lb vb B E i a hai
      obtain ⟨v', u', x, dr, R⟩ := do_run hσ D2.a (by omega) a
      obtain ⟨Y, hY⟩ : ∃ Y, Y = x.getD X' := ⟨_, rfl⟩
      rw [← hY] at R
      have D' := R.ds D2.a (by omega)
      simp only [go_sem, e0, e1, e2, e7, e10, e11, e12, c0, Bl, ia, hbk, ld, dr, ← hY, w1]
      have hnx := E.nx
      have EY : Ext h Y := ⟨by have := R.nx; omega, R.gn.trans E.gn, fun k hk => by rw [R.old k (by omega) (by omega) (fun e => by have := ho k e; omega)]; exact E.old k hk⟩
      refine next _ _ ⟨by simp only [go_sem, e0], by simp only [go_sem, e1], by simp only [go_sem, e2], by simp only [go_sem, e7], by simp only [go_sem, e10], by simp only [go_sem, e11], by simp only [go_sem, w1], by rw [← hY]; exact EY, v', stepL L1 a, by simp only [go_sem]; rw [← hY]; exact D2.step R D', by have := (stepL_ok L1 a D2.a.lt).1; omega, fun k hk => ?_⟩
      rcases R.ownv k hk with h1 | h1
      · exact ho k h1
      · omega
    · rintro env X' ⟨e0, e1, e2, e7, e10, e11, e12, E, v, L1, D2, hL, ho⟩
      have c0 := ofNat_nlt (Nat.le_refl lb.length)
      obtain ⟨u1, hu1⟩ : ∃ u, u = evT env 8 := ⟨_, rfl⟩
      rw [← hu1] at D2
      simp only [go_sem, e0, e1, e2, e7, e10, e11, e12, c0, Bl, ← hu1]
      have ht2h : h.nx ≤ t2 := by omega
      have ho2h : ∀ k, own v2 k → h.nx ≤ k := fun k hk => by have := ho2 k hk; omega
      refine loop_ind (Q := Q) (fun i env h' => evT env 0 = va ∧ evT env 1 = vb ∧ evT env 2 = vc ∧ evT env 7 = .ptr h.nx 0 ∧ evT env 8 = u1 ∧ evT env 10 = .ptr t2 0 ∧ evT env 15 = .int .i64 (Int.ofNat i) ∧ Ext h h' ∧ ∃ v2 L2, DS2 h' h.nx v u1 L1 t2 v2 (evT env 11) L2 ∧ L2.length ≤ 25 + i ∧ (∀ k, own v2 k → h.nx ≤ k)) lc.length 0 ?_ (Nat.zero_le _) ?_ ?_
      · refine ⟨by simp only [go_sem, e0], by simp only [go_sem, e1], by simp only [go_sem, e2], by simp only [go_sem, e7], by simp only [go_sem, ← hu1], by simp only [go_sem, e10], by simp only [go_sem]; rfl, E, v2, L, ?_, by omega, ho2h⟩
        simp only [go_sem, e11]
        exact D2
      · rintro i env X' ⟨e0, e1, e2, e7, e8, e10, e15, E, v2, L2, D2, hL2, ho2⟩ hi next
        have c0 := ofNat_lt hi
        have w1 := wrap_succ (i := i) (by omega)
        obtain ⟨a, hai⟩ : ∃ a, lc[i]? = some a := ⟨_, List.getElem?_eq_getElem hi⟩
        obtain ⟨id, off, b, ia, hbk, ld⟩ := act X' lc vc C E i a hai
        obtain ⟨v', u', x, dr, R⟩ := do_run hσ D2.b (by omega) a
        obtain ⟨Y, hY⟩ : ∃ Y, Y = x.getD X' := ⟨_, rfl⟩
        rw [← hY] at R
        have D' := R.ds D2.b (by omega)
        simp only [go_sem, e0, e1, e2, e7, e8, e10, e15, c0, Cl, ia, hbk, ld, dr, ← hY, w1]
        have hnx := E.nx
        have EY : Ext h Y := ⟨by have := R.nx; omega, R.gn.trans E.gn, fun k hk => by rw [R.old k (by omega) (by omega) (fun e => by have := ho2 k e; omega)]; exact E.old k hk⟩
        refine next _ _ ⟨by simp only [go_sem, e0], by simp only [go_sem, e1], by simp only [go_sem, e2], by simp only [go_sem, e7], by simp only [go_sem, e8], by simp only [go_sem, e10], by simp only [go_sem, w1], by rw [← hY]; exact EY, v', stepL L2 a, by simp only [go_sem]; rw [← hY]; exact (D2.swap.step R D').swap, by have := (stepL_ok L2 a D2.b.lt).1; omega, fun k hk => ?_⟩
        rcases R.ownv k hk with h1 | h1
        · exact ho2 k h1
        · omega
      · rintro env X' ⟨e0, e1, e2, e7, e8, e10, e15, E, v2, L2, D2, hL2, ho2⟩
        have c0 := ofNat_nlt (Nat.le_refl lc.length)
        obtain ⟨u3, hu3⟩ : ∃ u, u = evT env 11 := ⟨_, rfl⟩
        rw [← hu3] at D2
        obtain ⟨x1, s1, E1⟩ := look_run hσ D2.a.tab D2.a.row D2.a.len
        obtain ⟨Y1, hY1⟩ : ∃ Y, Y = x1.getD X' := ⟨_, rfl⟩
        rw [← hY1] at E1
        obtain ⟨x2, s2, E2⟩ := look_run hσ (D2.b.tab.ext E1) (D2.b.row.ext E1) D2.b.len
        simp only [go_sem, e0, e1, e2, e7, e8, e10, e15, c0, Cl, ← hu3, s1, ← hY1, s2, hk]
        rw [hQ]; exact tru_fin _ _
end
end Go.Cl.O

namespace Go.Cl.O
set_option maxRecDepth 100000

theorem cellsOf_int : Try.prog.cellsOf 3 = 1 := by kernel_rfl
theorem cellsOf_u64 : Try.prog.cellsOf 22 = 1 := by kernel_rfl
theorem cellsOf_bool : Try.prog.cellsOf 4 = 1 := by kernel_rfl
theorem szOf_act : szOf Try.prog 63 = some 4 := by kernel_rfl
theorem acts_of {h : H} {c : CV} (a : Arg Try.prog h 55 c) : ∃ l : List Act, Sl Try.prog 55 h c 4 l.length (acs l) := by
  have h1 : c.one = true := by rcases a.one with ⟨_, h⟩ | ⟨_, _, h⟩ | h; rw [Try.underlying55] at h; cases h; rw [Try.underlying55] at h; cases h; exact h
  have r := a.rd
  rw [cells_one h1] at r
  obtain ⟨n, xs, _, hx, hs⟩ := r.slice_inv Try.underlying55 szOf_act
  obtain ⟨l, hl, hq⟩ := list_of (Q := fun i (p : Act) => xs i = p.cs) n fun i hi => by
    obtain ⟨hlen, r⟩ := hx i hi
    obtain ⟨_, hf⟩ := r.struct_inv Try.underlying63
    have h0 := hf _ (List.mem_cons_self)
    have h1 := hf _ (List.mem_cons_of_mem _ List.mem_cons_self)
    have h2 := hf _ (List.mem_cons_of_mem _ (List.mem_cons_of_mem _ List.mem_cons_self))
    have h3 := hf _ (List.mem_cons_of_mem _ (List.mem_cons_of_mem _ (List.mem_cons_of_mem _ List.mem_cons_self)))
    simp only [cellsOf_int, cellsOf_u64, cellsOf_bool] at h0 h1 h2 h3
    obtain ⟨n0, e0, _⟩ := h0.int_inv Try.underlying3
    obtain ⟨n1, e1, o1⟩ := h1.int_inv Try.underlying22
    obtain ⟨n2, e2, _⟩ := h2.int_inv Try.underlying3
    obtain ⟨n3, e3⟩ := h3.bool_inv Try.underlying4
    generalize xs i = ys at *
    match ys, hlen with
    | [y0, y1, y2, y3], _ =>
      simp at e0 e1 e2 e3
      subst e0 e1 e2 e3
      have hn : 0 ≤ n1 := o1.1
      exact ⟨⟨n0, n1.toNat, n2, n3⟩, by
        show _ = [CV.int .i64 n0, u64 n1.toNat, .int .i64 n2, .bool n3]
        rw [show u64 n1.toNat = .int .u64 n1 from by unfold u64; congr 1; exact Int.toNat_of_nonneg hn]⟩
  subst hl
  refine ⟨l, hs _ fun i j x hi hj hn => ?_⟩
  obtain ⟨g, hg⟩ : ∃ g, l[i]? = some g := ⟨_, List.getElem?_eq_getElem hi⟩
  obtain ⟨g0, g1, g2, g3⟩ := acs_get l i g hg
  rw [hq i _ hg]
  match j, hj with
  | 0, _ => rw [g0] at hn; cases hn; rfl
  | 1, _ => rw [g1] at hn; cases hn; rfl
  | 2, _ => rw [g2] at hn; cases hn; rfl
  | 3, _ => rw [g3] at hn; cases hn; rfl
theorem tell_none' {g : FuncId} {v : CV} : ∀ f a h, f ≠ g → tell g v f a h = none := tell_other
end Go.Cl.O
