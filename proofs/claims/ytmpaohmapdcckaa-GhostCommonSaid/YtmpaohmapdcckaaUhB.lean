/- The program's functions, run by the rewriting evaluator: what each answers and leaves (UhB). -/
import Derived.Test.YtmpaohmapdcckaaUhA
set_option linter.all false
open Go Go.Cl Go.Proofs
namespace Go.Cl.U
noncomputable section
variable {σ : Sums}
set_option maxRecDepth 1000000
set_option maxHeartbeats 4000000

/-- births: a parent, a child; an error's number (0: none), and the tree -/
def growN : List (Nat × Nat) → List (Nat × Nat) → Nat × List (Nat × Nat)
  | es, [] => (0, es)
  | es, (p, c) :: l => if c = 0 ∨ hasOf es c = true then (2, []) else if hasOf es p = false then (6, []) else growN (es ++ [(c, p)]) l
def ofN (first : Nat) (l : List (Nat × Nat)) : Nat × List (Nat × Nat) := if first = 0 then (2, []) else growN [(first, 0)] l
def bcs (l : List (Nat × Nat)) : List CV := l.flatMap fun p => [u64 p.1, u64 p.2]
theorem bcs_get : ∀ (l : List (Nat × Nat)) (i : Nat) (p c : Nat), l[i]? = some (p, c) → nth (bcs l) (i * 2 + 0) = some (u64 p) ∧ nth (bcs l) (i * 2 + 1) = some (u64 c)
  | [], i, p, c, h => by simp at h
  | a :: l, 0, p, c, h => by
    simp at h; subst h; exact ⟨rfl, rfl⟩
  | a :: l, i + 1, p, c, h => by
    have ih := bcs_get l i p c (by simpa using h)
    refine ⟨?_, ?_⟩
    · have : (i + 1) * 2 + 0 = i * 2 + 0 + 1 + 1 := by omega
      rw [this]; exact ih.1
    · have : (i + 1) * 2 + 1 = i * 2 + 1 + 1 + 1 := by omega
      rw [this]; exact ih.2
/-- births that are read -/
structure RL (h : H) (v : CV) (n : Nat) (cs : List CV) : Prop where
  len : ∀ h' ts az, builtinT Try.prog h' .len (23 :: ts) (v :: az) = some (.val (.int .i64 (Int.ofNat n)))
  elt : ∀ i, i < n → ∃ id off b, (∀ kd, indexAddrT Try.prog 23 v (.int kd (Int.ofNat i)) = some (.ptr id off)) ∧ id < h.nx ∧ h.blk id = some b ∧ ∀ j x, j < 2 → nth cs (i * 2 + j) = some x → b.get (off + j) = some x
theorem RL.of_sl {h : H} {v : CV} {n : Nat} {cs : List CV} (S : Sl Try.prog 23 h v 2 n cs) : RL h v n cs := ⟨S.len, fun i hi => by
  obtain ⟨id, off, b, h1, h2, h3, _, h4⟩ := S.elt i hi
  exact ⟨id, off, b, h1, h2, h3, h4⟩⟩
theorem RL.ext {h h' : H} {v : CV} {n : Nat} {cs : List CV} (S : RL h v n cs) (E : Ext h h') : RL h' v n cs := ⟨S.len, fun i hi => by
  obtain ⟨id, off, b, h1, h2, h3, h4⟩ := S.elt i hi
  exact ⟨id, off, b, h1, Nat.lt_of_lt_of_le h2 E.nx, (E.blk h2).trans h3, h4⟩⟩
theorem RL.of_lst {h : H} {v : CV} {id n : Nat} {cs : List CV} (L : Lst h 2 v id n cs) : RL h v n cs := by
  rcases L.val with ⟨rfl, rfl⟩ | ⟨h0, rfl, h1, b, h2, h3, h4, h5⟩
  · exact ⟨fun h' ts az => by simp [builtinT, Try.underlying23, lenC], fun i hi => absurd hi (Nat.not_lt_zero i)⟩
  · exact ⟨fun h' ts az => by simp [builtinT, Try.underlying23, lenC], fun i hi => ⟨id, i * 2, b, fun kd => by rw [ia_23, blt_eq', decide_eq_true hi, cond_true, Nat.zero_add], h1, h2, fun j x _ hx => by rw [h5]; exact hx⟩⟩
/-- what Of answers -/
def OfQ (h : H) (r : Nat × List (Nat × Nat)) (o : Option (CV × Option H)) : Prop :=
  (r.1 ≠ 0 ∧ o = some (.tup [.nilp, .int .i64 (Int.ofNat r.1)], none)) ∨
  (r.1 = 0 ∧ ∃ t h', o = some (.tup [.ptr t 0, .int .i64 0], some h') ∧ TreeAt h' t r.2 ∧ Ext h h' ∧ h'.low = min h.low h.nx)
structure TreeX (h : H) (lo t m : Nat) (es : List (Nat × Nat)) : Prop where
  pos : 0 < es.length
  lt : t < h.nx
  ltm : m < h.nx
  ne : t ≠ m
  blk : ∃ b M c s lid, h.blk t = some b ∧ b.ro = false ∧ b.n = 2 ∧ b.get 0 = some (.map m) ∧ b.get 1 = some s ∧ h.t.get m = some (.map M c) ∧ MapIs M es ∧ NL h s lid (es.map Prod.fst) ∧ lid ≠ t ∧ lid ≠ m ∧ lo ≤ lid
theorem TreeX.at_ {h : H} {lo t m : Nat} {es : List (Nat × Nat)} (T : TreeX h lo t m es) : TreeAt h t es := by
  obtain ⟨b, M, c, s, lid, q1, q2, q3, q4, q5, q6, q7, q8, q9, q10, _⟩ := T.blk
  exact ⟨T.pos, T.lt, b, m, M, c, s, lid, q1, q2, q3, q4, q5, T.ltm, q6, q7, q8, q9, T.ne, q10⟩
theorem TreeX.ext {h h' : H} {lo t m : Nat} {es : List (Nat × Nat)} (T : TreeX h lo t m es) (E : Ext h h') : TreeX h' lo t m es := by
  obtain ⟨b, M, c, s, lid, q1, q2, q3, q4, q5, q6, q7, q8, q9, q10⟩ := T.blk
  exact ⟨T.pos, Nat.lt_of_lt_of_le T.lt E.nx, Nat.lt_of_lt_of_le T.ltm E.nx, T.ne, b, M, c, s, lid, (E.blk T.lt).trans q1, q2, q3, q4, q5, (E.old m T.ltm).trans q6, q7, q8.ext E, q9, q10⟩
theorem NL.beq {h : H} {s : CV} {lid : Nat} {ns : List Nat} (N : NL h s lid ns) : beqC s s = true := by
  rcases N.val with rfl | rfl <;> simp [beqC]
theorem of_run (hσ : ∀ f a h, f ≠ 9 → σ f a h = none) {h : H} {v : CV} {first : Nat} {l : List (Nat × Nat)} (A : RL h v l.length (bcs l)) (hl : l.length ≤ 60) (hlow : h.low ≤ h.nx) :
    OfQ h (ofN first l) ((lim Try.prog σ).call 10 [u64 first, v] h) := by
  obtain ⟨Q, hQ⟩ : ∃ Q, Q = OfQ h (ofN first l) := ⟨_, rfl⟩
  rw [← hQ]
  rw [call_eq (hσ _ _ _ (by decide)) fn_10 rfl rfl, Try.ntmps10, Try.results10]
  have l0 : CV.int .u64 0 = u64 0 := rfl
  have Alen := A.len
  by_cases qf : first = 0
  · have df : decide (first = 0) = true := decide_eq_true qf
    simp only [go_sem, l0, eq64, df]
    rw [hQ, fin_q _ _ _ rfl rfl]
    have e : ofN first l = (2, []) := by unfold ofN; rw [if_pos qf]
    exact .inl ⟨by rw [e]; decide, by rw [e]; rfl⟩
  have df : decide (first = 0) = false := decide_eq_false qf
  have hof : ofN first l = growN [(first, 0)] l := by unfold ofN; rw [if_neg qf]
  simp only [go_sem, l0, eq64, df]
  have up0 := update_new (h := h.lo.alloc (.map [] 0)) (m := h.nx) (M := []) (es := []) (mp_of (alloc_get_same _ _ _ rfl)) rfl (g := first) 0 rfl
  simp only [List.nil_append] at up0
  obtain ⟨X1, hX1⟩ : ∃ X, X = (h.lo.alloc (.map [] 0)).put h.nx (.map [(u64 first, u64 0, 0)] (0 + 1)) := ⟨_, rfl⟩
  rw [← hX1] at up0
  have X1nx : X1.nx = h.nx + 1 := by rw [hX1]; rfl
  have X1low : X1.low = h.nx := by rw [hX1]; simp only [go_sem]; omega
  have X1E : Ext h X1 := by rw [hX1]; exact ((Ext.lo h).alloc' _).put _ (Nat.le_refl _)
  have X1m : X1.t.get h.nx = some (.map [(u64 first, u64 0, 0)] (0 + 1)) := by rw [hX1]; exact put_get_same _ _ _
  simp only [go_sem, l0, eq64, df, up0, X1nx]
  obtain ⟨X2, hX2⟩ : ∃ X, X = X1.alloc (.cells ({ n := 1, d := [u64 0], t := T.nil : Blk }.st 0 (u64 first))) := ⟨_, rfl⟩
  obtain ⟨X3, hX3⟩ : ∃ X, X = X2.alloc (.cells (newBlk [.map h.nx, .sl (h.nx + 1) 0 1 (.exact 1)])) := ⟨_, rfl⟩
  have X2nx : X2.nx = h.nx + 2 := by rw [hX2, alloc_nx]; omega
  have X3nx : X3.nx = h.nx + 3 := by rw [hX3, alloc_nx]; omega
  have X3low : X3.low = h.nx := by rw [hX3, hX2]; exact X1low
  have E12 : Ext X1 X2 := by rw [hX2]; exact (Ext.refl X1).alloc' _
  have E23 : Ext X2 X3 := by rw [hX3]; exact (Ext.refl X2).alloc' _
  have X3E : Ext h X3 := (X1E.trans E12).trans E23
  have T0 : TreeX X3 h.nx (h.nx + 2) h.nx [(first, 0)] := by
    refine ⟨Nat.zero_lt_one, by omega, by omega, by omega, newBlk [.map h.nx, .sl (h.nx + 1) 0 1 (.exact 1)], [(u64 first, u64 0, 0)], 0 + 1, .sl (h.nx + 1) 0 1 (.exact 1), h.nx + 1, ?_, rfl, rfl, rfl, rfl, ?_, rfl, ?_, by omega, by omega, by omega⟩
    · rw [hX3]; exact alloc_blk_same _ _ _ X2nx.symm
    · rw [E23.old _ (by omega), E12.old _ (by omega)]; exact X1m
    · refine ⟨Nat.zero_lt_one, .inl rfl, by omega, _, (E23.blk (by omega)).trans (by rw [hX2]; exact alloc_blk_same _ _ _ X1nx.symm), rfl, rfl, fun i x hx => ?_⟩
      cases i with
      | zero => simp at hx; subst hx; rfl
      | succ i => simp at hx
  simp only [go_sem, l0, eq64, df, up0, X1nx, ← hX2, X2nx, ← hX3, Alen]
  refine loop_ind (Q := Q) (fun i env h' => evT env 6 = .ptr (h.nx + 2) 0 ∧ evT env 18 = v ∧ evT env 19 = .int .i64 (Int.ofNat l.length) ∧ evT env 20 = .int .i64 (Int.ofNat i) ∧ ∃ es, growN [(first, 0)] l = growN es (l.drop i) ∧ TreeX h' h.nx (h.nx + 2) h.nx es ∧ es.length = i + 1 ∧ Ext h h' ∧ h'.low = h.nx) l.length 0 ?_ (Nat.zero_le _) ?_ ?_
  · exact ⟨by simp only [go_sem], by simp only [go_sem], by simp only [go_sem], by simp only [go_sem]; rfl, [(first, 0)], by rw [List.drop_zero], by rw [hX3, hX2] at T0; simp only [go_sem]; exact T0, rfl, by rw [hX3, hX2] at X3E; simp only [go_sem]; exact X3E, by rw [hX3, hX2] at X3low; simp only [go_sem]; exact X3low⟩
  · rintro i env h' ⟨e6, e18, e19, e20, es, hg, T, hes, E, hlw⟩ hi next
    have c0 := ofNat_lt hi
    have w1 := wrap_succ (i := i) (by omega)
    obtain ⟨⟨p, c⟩, hpc⟩ : ∃ x, l[i]? = some x := ⟨_, List.getElem?_eq_getElem hi⟩
    obtain ⟨id, off, bb, ei, hid, hb, hcell⟩ := A.elt i hi
    obtain ⟨n1, n2⟩ := bcs_get l i p c hpc
    have g0 := hcell 0 _ (by decide) n1
    rw [Nat.add_zero] at g0
    have g1 := hcell 1 _ (by decide) n2
    have hb' : h'.blk id = some bb := (E.blk hid).trans hb
    have hdr : l.drop i = (p, c) :: l.drop (i + 1) := by
      rw [List.drop_eq_getElem_cons hi]; congr 1; exact (List.getElem?_eq_some_iff.1 hpc).2
    rw [hdr] at hg
    simp only [go_sem, e6, e18, e19, e20, c0, ei, hb', g0, g1, l0, eq64]
    by_cases qc : c = 0
    · have dc : decide (c = 0) = true := decide_eq_true qc
      simp only [go_sem, e6, e18, e19, e20, c0, ei, hb', g0, g1, l0, eq64, dc]
      rw [hQ, hof, hg, fin_q _ _ _ (by have := E.nx; simp only [go_sem]; omega) rfl]
      have e : growN es ((p, c) :: l.drop (i + 1)) = (2, []) := by rw [growN, if_pos (.inl qc)]
      rw [e]
      exact .inl ⟨by decide, rfl⟩
    have dc : decide (c = 0) = false := decide_eq_false qc
    simp only [go_sem, e6, e18, e19, e20, c0, ei, hb', g0, g1, l0, eq64, dc]
    obtain ⟨Y, hY⟩ : ∃ Y, Y = (h'.alloc (.cells (newBlk [u64 0, u64 0]))).put h'.nx (.cells (((newBlk [u64 0, u64 0]).st 0 (u64 p)).st 1 (u64 c))) := ⟨_, rfl⟩
    have hn := E.nx
    have Ynx : Y.nx = h'.nx + 1 := by rw [hY]; rfl
    have Ylow : Y.low = h.nx := by rw [hY]; simp only [go_sem]; omega
    have YE : Ext h' Y := by rw [hY]; exact ((Ext.refl h').alloc' _).put _ (Nat.le_refl _)
    have Yb : Y.blk h'.nx = some (((newBlk [u64 0, u64 0]).st 0 (u64 p)).st 1 (u64 c)) := by rw [hY]; exact put_blk_same _ _ _
    have TY := T.ext YE
    have hc : (lim Try.prog σ).call 13 [.ptr (h.nx + 2) 0, u64 c] Y = some (.bool (hasOf es c), none) := has_run hσ TY.at_ c
    have hp : (lim Try.prog σ).call 13 [.ptr (h.nx + 2) 0, u64 p] Y = some (.bool (hasOf es p), none) := has_run hσ TY.at_ p
    have gb0 : (((newBlk [u64 0, u64 0]).st 0 (u64 p)).st 1 (u64 c)).get 0 = some (u64 p) := rfl
    have gb1 : (((newBlk [u64 0, u64 0]).st 0 (u64 p)).st 1 (u64 c)).get 1 = some (u64 c) := rfl
    cases hhc : hasOf es c with
    | true =>
      rw [hhc] at hc
      simp only [go_sem, ← hY, dc, e6, e18, e19, e20, w1, hc]
      rw [hQ, hof, hg, fin_q _ _ _ Ylow rfl]
      have e : growN es ((p, c) :: l.drop (i + 1)) = (2, []) := by rw [growN, if_pos (.inr hhc)]
      rw [e]
      exact .inl ⟨by decide, rfl⟩
    | false =>
      rw [hhc] at hc
      simp only [go_sem, ← hY, dc, e6, e18, e19, e20, w1, hc, Yb, gb0, gb1]
      cases hhp : hasOf es p with
      | false =>
        rw [hhp] at hp
        simp only [go_sem, ← hY, dc, e6, e18, e19, e20, w1, hc, hp, Yb, gb0, gb1]
        rw [hQ, hof, hg, fin_q _ _ _ Ylow rfl]
        have e : growN es ((p, c) :: l.drop (i + 1)) = (6, []) := by rw [growN, if_neg (by simp [qc, hhc]), if_pos hhp]
        rw [e]
        exact .inl ⟨by decide, rfl⟩
      | true =>
        rw [hhp] at hp
        obtain ⟨tb, M, k, s, lid, q1, q2, q3, q4, q5, q6, q7, q8, q9, q10, q11⟩ := T.blk
        have lidlt := q8.lt
        have q1 := (YE.blk T.lt).trans q1
        have q6 := (YE.old _ T.ltm).trans q6
        have q8 := q8.ext YE
        have up := update_new (mp_of q6) q7 p hhc
        obtain ⟨Z, hZ⟩ : ∃ Z, Z = Y.put h.nx (.map (M ++ [(u64 c, u64 p, k)]) (k + 1)) := ⟨_, rfl⟩
        rw [← hZ] at up
        have Znx : Z.nx = Y.nx := by rw [hZ]; rfl
        have Zlow : Z.low = h.nx := by rw [hZ]; show min Y.low h.nx = h.nx; omega
        have Zt : Z.blk (h.nx + 2) = some tb := by rw [hZ]; exact (blk_eq (put_get_ne _ _ _ _ (by omega))).trans q1
        have Zb : Z.blk h'.nx = some (((newBlk [u64 0, u64 0]).st 0 (u64 p)).st 1 (u64 c)) := by rw [hZ]; exact (blk_eq (put_get_ne _ _ _ _ (by have := T.ltm; omega))).trans Yb
        have Zm : Z.t.get h.nx = some (.map (M ++ [(u64 c, u64 p, k)]) (k + 1)) := by rw [hZ]; exact put_get_same _ _ _
        have ZN : NL Z s lid (es.map Prod.fst) := q8.mono (by omega) (by rw [hZ]; exact blk_eq (put_get_ne _ _ _ _ q10))
        simp only [go_sem, ← hY, dc, e6, e18, e19, e20, w1, hc, hp, Yb, gb0, gb1, q1, q4, q5]
        refine cnd_go (Q := Q) (by kernel_rfl) ?_
        simp only [go_sem, ← hY, dc, e6, e18, e19, e20, w1, hc, hp, Yb, gb0, gb1, q1, q4, q5, up]
        refine cnd_go (Q := Q) (by kernel_rfl) ?_
        refine quiet_go (Q := Q) (by kernel_rfl) ?_
        simp only [go_sem, ← hY, e18, e19, e20, w1, Zt, Zb, gb0, gb1, q4, q5, e6]
        refine cnd_go (Q := Q) (by kernel_rfl) ?_
        simp only [go_sem, ← hY, e18, e19, e20, w1, Zt, Zb, gb0, gb1, q4, q5, e6]
        obtain ⟨V, hV⟩ : ∃ V, V = Z.alloc (.cells ({ n := 1, d := [CV.int IntKind.u64 0], t := Cl.T.nil : Blk }.st 0 (u64 c))) := ⟨_, rfl⟩
        have Vnx : V.nx = Z.nx + 1 := by rw [hV]; rfl
        have Vlow : V.low = h.nx := by rw [hV]; exact Zlow
        have VE : Ext Z V := by rw [hV]; exact (Ext.refl Z).alloc' _
        have tlt := TY.lt
        have mlt := TY.ltm
        obtain ⟨U, hU, UN, Unx, Ugn, Uold, Ulow⟩ := (ZN.ext VE).app c (by rw [List.length_map]; omega)
        rw [List.length_map] at hU UN
        have Ub : U.blk h'.nx = some (((newBlk [u64 0, u64 0]).st 0 (u64 p)).st 1 (u64 c)) := (blk_eq (Uold _ (by omega) (by omega))).trans ((VE.blk (by omega)).trans Zb)
        have Ut : U.blk (h.nx + 2) = some tb := (blk_eq (Uold _ (by omega) (by omega))).trans ((VE.blk (by omega)).trans Zt)
        have Um : U.t.get h.nx = some (.map (M ++ [(u64 c, u64 p, k)]) (k + 1)) := (Uold _ (by omega) (by omega)).trans ((VE.old _ (by omega)).trans Zm)
        have Vt : V.blk (h.nx + 2) = some tb := (VE.blk (by omega)).trans Zt
        have Vb : V.blk h'.nx = some (((newBlk [u64 0, u64 0]).st 0 (u64 p)).st 1 (u64 c)) := (VE.blk (by omega)).trans Zb
        simp only [go_sem, ← hY, e18, e19, e20, w1, Zt, Zb, gb0, gb1, q4, q5, ← hV, hU, Ut, q2, q3]
        have hsb := ZN.beq
        refine cnd_go (Q := Q) (by kernel_rfl) ?_
        simp only [go_sem, ← hY, e6, e18, e19, e20, w1, Zt, Zb, Vt, Vb, Ut, Ub, gb0, gb1, q2, q3, q4, q5, ← hV, hU, hsb]
        rw [cond_al (i := 4) (d := [7, 8, 11])]
        rotate_left
        · kernel_rfl
        rw [cond_al (i := 6) (d := [7, 8, 11])]
        rotate_left
        · kernel_rfl
        simp only [go_sem, ← hY, e6, e18, e19, e20, w1, Zt, Zb, Vt, Vb, Ut, Ub, gb0, gb1, q2, q3, q4, q5, ← hV, hU, hsb]
        refine next _ _ ⟨by simp only [go_sem, e6], by simp only [go_sem, e18], by simp only [go_sem, e19], by simp only [go_sem, w1], es ++ [(c, p)], ?_, ?_, by simp [hes], ?_, ?_⟩
        · rw [hg, growN, if_neg (by simp [qc, hhc]), if_neg (by simp [hhp])]
        · have gs : (tb.st 1 (.sl V.nx 0 (es.length + 1) (.opn 1))).get 1 = some (.sl V.nx 0 (es.length + 1) (.opn 1)) := st_get_same _ _ _ (by omega)
          have gm : (tb.st 1 (.sl V.nx 0 (es.length + 1) (.opn 1))).get 0 = some (.map h.nx) := (st_get_ne _ _ _ _ (by decide)).trans q4
          refine ⟨by simp, by simp only [go_sem]; omega, by simp only [go_sem]; omega, T.ne, _, _, _, _, V.nx, put_blk_same _ _ _, by simp only [go_sem, q2], by simp only [go_sem, q3], gm, gs, (put_get_ne _ _ _ _ (by omega)).trans Um, q7.snoc c p k, ?_, by omega, by omega, by omega⟩
          rw [List.map_append]
          exact UN.mono (by simp only [go_sem]; omega) (put_blk_ne _ _ _ _ (by omega))
        · refine ⟨by simp only [go_sem]; omega, by simp only [go_sem]; rw [Ugn, hV]; show Z.gn = h.gn; rw [hZ, hY]; exact E.gn, fun id hid => ?_⟩
          refine (put_get_ne U (h.nx + 2) _ id (by omega)).trans ?_
          rw [Uold id (by omega) (by omega), VE.old id (by omega), hZ, put_get_ne _ _ _ _ (by omega), YE.old id (by omega)]
          exact E.old id hid
        · simp only [go_sem]; rcases Ulow with h1 | h1 <;> omega
  · rintro env h' ⟨e6, e18, e19, e20, es, hg, T, hes, E, hlw⟩
    have c0 := ofNat_nlt (Nat.le_refl l.length)
    rw [List.drop_length] at hg
    simp only [go_sem, e6, e18, e19, e20, c0]
    rw [hQ, hof, hg, fin_new _ _ _ (by simp [okB, okBL, blt_eq'])]
    exact .inr ⟨rfl, _, _, rfl, T.at_.ext (Ext.up _ _), E.up' _, by show min h.low h'.low = _; rw [hlw]⟩
end
end Go.Cl.U

namespace Go.Cl.U
noncomputable section

def rk (es : List (Nat × Nat)) (g : Nat) : Nat := es.findIdx fun p => p.1 == g
structure Good (es : List (Nat × Nat)) : Prop where
  par : ∀ g, hasOf es g = true → parOf es g ≠ 0 → hasOf es (parOf es g) = true ∧ rk es (parOf es g) < rk es g
theorem rk_lt {es : List (Nat × Nat)} {g : Nat} : hasOf es g = true ↔ rk es g < es.length := by
  unfold hasOf rk
  rw [List.findIdx_lt_length, List.any_eq_true]
theorem has_snoc (es : List (Nat × Nat)) (c p g : Nat) : hasOf (es ++ [(c, p)]) g = (hasOf es g || c == g) := by
  unfold hasOf; simp
theorem rk_snoc_old {es : List (Nat × Nat)} {c p g : Nat} (h : hasOf es g = true) : rk (es ++ [(c, p)]) g = rk es g := by
  have := rk_lt.1 h
  unfold rk at this ⊢
  rw [List.findIdx_append, if_pos this]
theorem rk_snoc_new {es : List (Nat × Nat)} {c p g : Nat} (h : hasOf es g = false) (e : c = g) : rk (es ++ [(c, p)]) g = es.length := by
  have : ¬ rk es g < es.length := fun q => by rw [rk_lt.2 q] at h; cases h
  unfold rk at this ⊢
  rw [List.findIdx_append, if_neg this]
  simp [List.findIdx_cons, e]
theorem par_snoc_old {es : List (Nat × Nat)} {c p g : Nat} (h : hasOf es g = true) : parOf (es ++ [(c, p)]) g = parOf es g := by
  unfold hasOf at h
  unfold parOf
  rw [List.find?_append]
  obtain ⟨x, hx, hp⟩ := List.any_eq_true.1 h
  cases hf : es.find? (fun p => p.1 == g) with
  | some y => rfl
  | none => exact absurd hp (by simpa using List.find?_eq_none.1 hf x hx)
theorem par_snoc_new {es : List (Nat × Nat)} {c p g : Nat} (h : hasOf es g = false) (e : c = g) : parOf (es ++ [(c, p)]) g = p := by
  unfold hasOf at h
  unfold parOf
  rw [List.find?_append]
  have : es.find? (fun p => p.1 == g) = none := by
    rw [List.find?_eq_none]; intro x hx
    have := List.any_eq_false.1 h x hx
    simpa using this
  rw [this]
  simp [e]
theorem Good.snoc {es : List (Nat × Nat)} (G : Good es) {c p : Nat} (hc : hasOf es c = false) (hp : hasOf es p = true) : Good (es ++ [(c, p)]) := by
  refine ⟨fun g hg hn => ?_⟩
  rw [has_snoc] at hg
  cases hgo : hasOf es g with
  | true =>
    rw [par_snoc_old hgo] at hn ⊢
    obtain ⟨h1, h2⟩ := G.par g hgo hn
    rw [has_snoc, h1, rk_snoc_old h1, rk_snoc_old hgo]
    exact ⟨rfl, h2⟩
  | false =>
    rw [hgo] at hg
    have e : c = g := by simpa using hg
    rw [par_snoc_new hgo e] at hn ⊢
    rw [has_snoc, hp, rk_snoc_old hp, rk_snoc_new hgo e]
    exact ⟨rfl, rk_lt.1 hp⟩
theorem grow_good : ∀ (l es : List (Nat × Nat)), Good es → (growN es l).1 = 0 → Good (growN es l).2
  | [], es, G, _ => G
  | (p, c) :: l, es, G, h => by
    unfold growN at h ⊢
    by_cases h1 : c = 0 ∨ hasOf es c = true
    · rw [if_pos h1] at h; cases h
    · rw [if_neg h1] at h ⊢
      by_cases h2 : hasOf es p = false
      · rw [if_pos h2] at h; cases h
      · rw [if_neg h2] at h ⊢
        exact grow_good l _ (G.snoc (by simpa using (not_or.1 h1).2) (by simpa using h2)) h
theorem of_good {first : Nat} {l : List (Nat × Nat)} (h : (ofN first l).1 = 0) : Good (ofN first l).2 := by
  unfold ofN at h ⊢
  by_cases hf : first = 0
  · rw [if_pos hf] at h; cases h
  · rw [if_neg hf] at h ⊢
    refine grow_good l _ ⟨fun g hg hn => ?_⟩ h
    have e : first = g := by simpa [hasOf] using hg
    exact absurd (by simp [parOf, e]) hn
theorem Way.nil {es : List (Nat × Nat)} {g : Nat} (h : parOf es g = 0) : Way es g [] := ⟨fun i hi => absurd hi (Nat.not_lt_zero i), h⟩
theorem Way.cons {es : List (Nat × Nat)} {g : Nat} {ws : List Nat} (h : parOf es g ≠ 0) (W : Way es (parOf es g) ws) : Way es g (parOf es g :: ws) := by
  have hc : ∀ i, curW g (parOf es g :: ws) (i + 1) = curW (parOf es g) ws i := fun i => by cases i <;> rfl
  refine ⟨fun i hi => ?_, ?_⟩
  · cases i with
    | zero => exact ⟨rfl, h⟩
    | succ i =>
      rw [hc]
      simpa using W.at_ i (by simpa using hi)
  · show parOf es (curW g (parOf es g :: ws) (ws.length + 1)) = 0
    rw [hc]; exact W.end_
/-- each on the way up of g stands ahead of g -/
theorem way_ex {es : List (Nat × Nat)} (G : Good es) : ∀ (n g : Nat), rk es g < n → ∃ ws, Way es g ws ∧ ∀ x ∈ ws, hasOf es x = true ∧ rk es x < rk es g ∧ hasOf es g = true
  | 0, g, h => absurd h (Nat.not_lt_zero _)
  | n + 1, g, h => by
    by_cases hz : parOf es g = 0
    · exact ⟨[], Way.nil hz, by simp⟩
    · have hg : hasOf es g = true := by
        cases q : hasOf es g with
        | true => rfl
        | false => exact absurd (parOf_no q) hz
      obtain ⟨h1, h2⟩ := G.par g hg hz
      obtain ⟨ws, W, hw⟩ := way_ex G n (parOf es g) (by omega)
      refine ⟨_, W.cons hz, fun x hx => ?_⟩
      rcases List.mem_cons.1 hx with rfl | hx
      · exact ⟨h1, h2, hg⟩
      · obtain ⟨q1, q2, _⟩ := hw x hx
        exact ⟨q1, by omega, hg⟩
def turnN (v : Nat) : Nat := [0, 1, 3, 2, 4, 6, 5, 7, 8].getD v 0
theorem says_turn (a b : Ln) {sa sb : List Nat} (h : ¬ (a.c ∈ sb ∧ b.c ∈ sa)) : saysV a b sa sb = turnN (saysV b a sb sa) := by
  unfold saysV
  have hx : (∃ g ∈ sa, g ∈ sb) ↔ (∃ g ∈ sb, g ∈ sa) := ⟨fun ⟨g, p, q⟩ => ⟨g, q, p⟩, fun ⟨g, p, q⟩ => ⟨g, q, p⟩⟩
  by_cases h1 : a.c = 0 <;> by_cases h2 : b.c = 0 <;> simp only [h1, h2, if_true, if_false] <;> try rfl
  by_cases h3 : a.c = b.c
  · rw [if_pos h3, if_pos h3.symm]; rfl
  have h3' : ¬ b.c = a.c := fun e => h3 e.symm
  by_cases h4 : a.c ∈ sb <;> by_cases h5 : b.c ∈ sa
  · exact absurd ⟨h4, h5⟩ h
  · simp only [h3, h3', h4, h5, if_true, if_false]; rfl
  · simp only [h3, h3', h4, h5, if_true, if_false]; rfl
  · by_cases h6 : ∃ g ∈ sa, g ∈ sb
    · have h7 := hx.1 h6
      simp only [h3, h3', h4, h5, h6, h7, if_true, if_false]; rfl
    · have h7 : ¬ ∃ g ∈ sb, g ∈ sa := fun q => h6 (hx.2 q)
      simp only [h3, h3', h4, h5, h6, h7, if_true, if_false]; rfl
theorem says_self (a : Ln) (sa : List Nat) : saysV a a sa sa = if a.c = 0 then 1 else 4 := by
  unfold saysV
  by_cases h : a.c = 0 <;> simp [h]
theorem says_le (a b : Ln) (sa sb : List Nat) : saysV a b sa sb ≤ 8 := by
  unfold saysV
  repeat' split
  all_goals omega
end
end Go.Cl.U

namespace Go.Cl.U
noncomputable section
variable {σ : Sums}
set_option maxRecDepth 1000000

/-- numbers that are read -/
structure NS (h : H) (v : CV) (ns : List Nat) : Prop where
  len : ∀ h' ts az, builtinT Try.prog h' .len (34 :: ts) (v :: az) = some (.val (.int .i64 (Int.ofNat ns.length)))
  at_ : ∀ i x, ns[i]? = some x → ∃ id off b, (∀ kd, indexAddrT Try.prog 34 v (.int kd (Int.ofNat i)) = some (.ptr id off)) ∧ id < h.nx ∧ h.blk id = some b ∧ b.get off = some (u64 x)
theorem NS.ext {h h' : H} {v : CV} {ns : List Nat} (S : NS h v ns) (E : Ext h h') : NS h' v ns := ⟨S.len, fun i x hx => by
  obtain ⟨id, off, b, h1, h2, h3, h4⟩ := S.at_ i x hx
  exact ⟨id, off, b, h1, Nat.lt_of_lt_of_le h2 E.nx, (E.blk h2).trans h3, h4⟩⟩
theorem EL.ns {h : H} {v : CV} {ns : List Nat} (B : EL h v ns) : NS h v ns := ⟨B.len, fun i x hx => by
  obtain ⟨id, b, h1, h2, h3, h4⟩ := B.at_ hx
  exact ⟨id, i, b, h1, h2, h3, h4⟩⟩
theorem NS.cells {h : H} {id off : Nat} {c : Cap} {b : Blk} {ns : List Nat} (hid : id < h.nx) (hb : h.blk id = some b) (hg : ∀ i x, ns[i]? = some x → b.get (off + i) = some (u64 x)) : NS h (.sl id off ns.length c) ns :=
  ⟨fun h' ts az => by simp [builtinT, Try.underlying34, lenC], fun i x hx => ⟨id, off + i, b, fun kd => by
    have hi := (List.getElem?_eq_some_iff.1 hx).1
    rw [ia_34, blt_eq', decide_eq_true hi, cond_true, Nat.mul_one], hid, hb, hg i x hx⟩⟩
theorem NS.none (h : H) {v : CV} (hv : v = .nils ∨ (∃ a b c d, v = .slend a b c d) ∨ (∃ a b c d, v = .sl0 a b c d)) : NS h v [] := ⟨fun h' ts az => by
  rcases hv with rfl | ⟨a, b, c, d, rfl⟩ | ⟨a, b, c, d, rfl⟩ <;> simp [builtinT, Try.underlying34, lenC], fun i x hx => by simp at hx⟩
theorem nsame_run (hσ : ∀ f a h, f ≠ 9 → σ f a h = none) {h : H} {v w : CV} {es fs : List Nat} (B : NS h v es) (C : NS h w fs) (hl : es.length ≤ 1000) : RetQ (.bool (decide (es = fs))) ((lim Try.prog σ).call 15 [v, w] h) := by
  rw [call_eq (hσ _ _ _ (by decide)) fn_15 rfl rfl, Try.ntmps15, Try.results15]
  have Bl := B.len
  have Cl := C.len
  have e0 : (Int.ofNat es.length = Int.ofNat fs.length) = (es.length = fs.length) := propext ⟨fun e => Int.ofNat.inj e, fun e => by rw [e]⟩
  obtain ⟨Q, hQ⟩ : ∃ Q, Q = RetQ (.bool (decide (es = fs))) := ⟨_, rfl⟩
  rw [← hQ]
  by_cases ql : es.length = fs.length
  · have dl : decide (es.length = fs.length) = true := decide_eq_true ql
    simp only [go_sem, Bl, Cl, e0, dl]
    refine loop_ind (Q := Q) (fun i env h' => h' = h.lo ∧ evT env 0 = v ∧ evT env 1 = w ∧ evT env 5 = .int .i64 (Int.ofNat i) ∧ es.take i = fs.take i) es.length 0 ?_ (Nat.zero_le _) ?_ ?_
    · exact ⟨rfl, by simp only [go_sem], by simp only [go_sem], by simp only [go_sem]; rfl, by simp⟩
    · rintro i env h' ⟨rfl, e0, e1, e5, ht⟩ hi next
      have c0 := ofNat_lt hi
      have w1 := wrap_succ (i := i) (by omega)
      obtain ⟨x, hx⟩ : ∃ x, es[i]? = some x := ⟨_, List.getElem?_eq_getElem hi⟩
      obtain ⟨y, hy⟩ : ∃ y, fs[i]? = some y := ⟨_, List.getElem?_eq_getElem (by omega)⟩
      obtain ⟨id1, o1, b1, i1, _, hb1, hg1⟩ := (B.ext (Ext.lo h)).at_ i x hx
      obtain ⟨id2, o2, b2, i2, _, hb2, hg2⟩ := (C.ext (Ext.lo h)).at_ i y hy
      simp only [go_sem, e0, e1, e5, c0, Bl]
      refine cnd_go (Q := Q) (by kernel_rfl) ?_
      by_cases q : x = y
      · have dq : decide (x = y) = true := decide_eq_true q
        simp only [go_sem, e0, e1, e5, c0, i1, i2, hb1, hb2, hg1, hg2, ne64, eq64, q, dq, w1]
        refine next _ _ ⟨rfl, by simp only [go_sem, e0], by simp only [go_sem, e1], by simp only [go_sem, w1], ?_⟩
        rw [List.take_succ, List.take_succ, hx, hy, ht, q]
      · have dq : decide (x = y) = false := decide_eq_false q
        simp only [go_sem, e0, e1, e5, c0, i1, i2, hb1, hb2, hg1, hg2, ne64, eq64, q, dq, w1]
        rw [hQ, decide_eq_false (fun e => q (by rw [e, hy] at hx; exact (Option.some.inj hx).symm))]
        exact congrArg some (fin_q _ _ _ rfl rfl)
    · rintro env h' ⟨rfl, e0, e1, e5, ht⟩
      have c0 := ofNat_nlt (Nat.le_refl es.length)
      simp only [go_sem, e0, e1, e5, c0, Bl]
      rw [List.take_length, List.take_of_length_le (by omega)] at ht
      rw [hQ, decide_eq_true ht]
      exact congrArg some (fin_q _ _ _ rfl rfl)
  · have dl : decide (es.length = fs.length) = false := decide_eq_false ql
    simp only [go_sem, Bl, Cl, e0, dl]
    rw [hQ, decide_eq_false (fun e => ql (by rw [e]))]
    exact congrArg some (fin_q _ _ _ rfl rfl)
/-- a number's place, below 0: none -/
def placeN (ns : List Nat) (g : Nat) : Int := if g ∈ ns then Int.ofNat (ns.findIdx fun x => x == g) else -1
theorem place_run (hσ : ∀ f a h, f ≠ 9 → σ f a h = none) {h : H} {v : CV} {es : List Nat} (B : NS h v es) (hl : es.length ≤ 1000) (x : Nat) : RetQ (.int .i64 (placeN es x)) ((lim Try.prog σ).call 16 [v, u64 x] h) := by
  rw [call_eq (hσ _ _ _ (by decide)) fn_16 rfl rfl, Try.ntmps16, Try.results16]
  have Bl := B.len
  obtain ⟨Q, hQ⟩ : ∃ Q, Q = RetQ (.int .i64 (placeN es x)) := ⟨_, rfl⟩
  rw [← hQ]
  simp only [go_sem, Bl]
  refine loop_ind (Q := Q) (fun i env h' => h' = h.lo ∧ evT env 0 = v ∧ evT env 1 = u64 x ∧ evT env 5 = .int .i64 (Int.ofNat i) ∧ x ∉ es.take i) es.length 0 ?_ (Nat.zero_le _) ?_ ?_
  · exact ⟨rfl, by simp only [go_sem], by simp only [go_sem], by simp only [go_sem]; rfl, by simp⟩
  · rintro i env h' ⟨rfl, e0, e1, e5, hx⟩ hi next
    have c0 := ofNat_lt hi
    have w1 := wrap_succ (i := i) (by omega)
    obtain ⟨y, hy⟩ : ∃ y, es[i]? = some y := ⟨_, List.getElem?_eq_getElem hi⟩
    obtain ⟨id, o, b, ea, _, hb, hg⟩ := (B.ext (Ext.lo h)).at_ i y hy
    by_cases q : y = x
    · have dq : decide (y = x) = true := decide_eq_true q
      simp only [go_sem, e0, e1, e5, c0, Bl, ea, hb, hg, eq64, dq]
      rw [hQ]
      have hm : x ∈ es := by rw [← q]; exact List.mem_of_getElem? hy
      have hp : placeN es x = Int.ofNat i := by
        unfold placeN
        rw [if_pos hm]
        congr 1
        have hlt : es.findIdx (fun z => z == x) ≤ i := by
          rcases Nat.lt_or_ge i (es.findIdx fun z => z == x) with h1 | h1
          · have := List.not_of_lt_findIdx h1
            rw [(List.getElem?_eq_some_iff.1 hy).2] at this
            simp [q] at this
          · exact h1
        have hf : es.findIdx (fun z => z == x) < es.length := by omega
        have hge : i ≤ es.findIdx (fun z => z == x) := by
          rcases Nat.lt_or_ge (es.findIdx fun z => z == x) i with h1 | h1
          · have h2 := List.findIdx_getElem (w := hf)
            have h3 : es[es.findIdx fun z => z == x] = x := by simpa using h2
            refine absurd ?_ hx
            rw [List.mem_take_iff_getElem]
            exact ⟨_, by omega, h3⟩
          · exact h1
        omega
      rw [hp]
      exact congrArg some (fin_q _ _ _ rfl rfl)
    · have dq : decide (y = x) = false := decide_eq_false q
      simp only [go_sem, e0, e1, e5, c0, Bl, ea, hb, hg, eq64, dq, w1]
      refine next _ _ ⟨rfl, by simp only [go_sem, e0], by simp only [go_sem, e1], by simp only [go_sem, w1], ?_⟩
      rw [List.take_succ, hy]
      simp [hx]
      exact fun e => q e.symm
  · rintro env h' ⟨rfl, e0, e1, e5, hx⟩
    have c0 := ofNat_nlt (Nat.le_refl es.length)
    simp only [go_sem, e0, e1, e5, c0, Bl]
    rw [List.take_length] at hx
    rw [hQ]
    have hp : placeN es x = -1 := by unfold placeN; rw [if_neg hx]
    rw [hp]
    exact congrArg some (fin_q _ _ _ rfl rfl)
end
end Go.Cl.U

namespace Go.Cl.U
variable {σ : Sums}
set_option maxRecDepth 1000000
set_option maxHeartbeats 4000000

theorem aseq_run (hσ : ∀ f a h, f ≠ 9 → σ f a h = none) {h : H} {t A B g : Nat} {es : List (Nat × Nat)} (T : TreeAt h t es) {ba bb : Blk} (hA : A < h.nx) (hB : B < h.nx) (bA : h.blk A = some ba) (bB : h.blk B = some bb) (gA : ba.get 0 = some (.ptr t 0)) (gB : bb.get 0 = some (u64 g)) {ws : List Nat} (W : Way es g ws) (hws : ws.length ≤ 1000) (hlow : h.low ≤ h.nx) :
    SightQ h ws ((lim Try.prog σ).call 79 [.nils, .fn (.func 78) [] [.ptr A 0, .ptr B 0]] h) := by
  obtain ⟨Q, hQ⟩ : ∃ Q, Q = SightQ h ws := ⟨_, rfl⟩
  rw [← hQ]
  rw [call_eq (hσ _ _ _ (by decide)) fn_79 rfl rfl, Try.ntmps79, Try.results79]
  obtain ⟨X, hX⟩ : ∃ X, X = h.lo.alloc (.cells (newBlk [.nils])) := ⟨_, rfl⟩
  have Xnx : X.nx = h.nx + 1 := by rw [hX]; rfl
  have Xlow : X.low = h.nx := by rw [hX]; rfl
  have XE : Ext h X := by rw [hX]; exact (Ext.lo h).alloc' _
  have Xc : X.blk h.nx = some (newBlk [.nils]) := by rw [hX]; exact alloc_blk_same _ _ _ rfl
  simp only [go_sem, ← hX]
  refine way_law (Q := Q) hσ (ba := ba) (bb := bb) (xid := .exit 0) W (by rw [Xnx]) gA gB h.nx (by omega) ws.length false (Nat.le_refl _) (fun _ => rfl) (fun e => by cases e)
    (fun i h1 => X.nx + 1 ≤ h1.nx ∧ h1.gn = X.gn ∧ (∀ k, k < X.nx → k ≠ h.nx → h1.t.get k = X.t.get k) ∧ ∃ s lid, Cell h1 h.nx s ∧ Lst h1 1 s lid i (uc (ws.take i)) ∧ X.nx < lid) ?_ ?_ ?_ ?_ (fun _ => by rw [rngD_none]; refine congrArg (fun z => rngD _ _ _ _ _ _ _ _ (some z)) ?_; simp only [go_sem, ← hX]) ?_
  · refine ⟨by rw [alloc_nx]; omega, rfl, fun k hk _ => alloc_get_ne _ _ _ (by omega), .nils, X.nx + 1, ⟨by rw [alloc_nx]; omega, _, (alloc_blk_ne _ _ _ (by omega)).trans Xc, rfl, rfl, rfl⟩, Lst.nil _ _ _, by omega⟩
  · rintro i h1 h2 ⟨j1, j2, j3, s, lid, j4, j5, j6⟩ e
    obtain ⟨q1, b, q2, q3, q4, q5⟩ := j4
    exact ⟨Nat.le_trans j1 e.nx, e.gn.trans j2, fun k hk hk6 => (e.old k (by omega)).trans (j3 k hk hk6), s, lid, ⟨Nat.lt_of_lt_of_le q1 e.nx, b, (e.blk q1).trans q2, q3, q4, q5⟩, j5.ext e, j6⟩
  · rintro i h1 ⟨j1, j2, j3, _⟩
    have Eh : Ext h h1 := ⟨by omega, j2.trans XE.gn, fun k hk => (j3 k (by omega) (by omega)).trans (XE.old k hk)⟩
    exact ⟨j1, T.ext Eh, (Eh.blk hA).trans bA, (Eh.blk hB).trans bB⟩
  · rintro i h1 w hi hloop ⟨j1, j2, j3, s, lid, ⟨q1, b, q2, q3, q4, q5⟩, j5, j6⟩ hlB hw
    have n6 : h.nx ≠ X.nx := by omega
    have nL : X.nx ≠ h.nx := by omega
    have hle : i + 1 ≤ 1000 := by omega
    have hLlt : X.nx < h1.nx := by omega
    refine opq (P := RndOk _ _ _ _ _ _ _) fun R hR => ?_
    simp only [round_eq, hloop, go_sem, n6, nL, q2, q5]
    refine app_step (Q := R) (by_ := 8) (m := 1) ((j5.mono (h' := h1.put X.nx _) (Nat.le_refl _) (fun hne => put_blk_ne _ _ _ _ (by omega))).ext (Ext.alloc _ _)) (by decide) rfl rfl rfl (by decide) (by omega) (by omega) fun V LV vnx vgn vold vlow vlow2 => ?_
    simp only [go_sem] at vnx vgn vlow vold LV vlow2
    have VL := (vold X.nx (by omega) (by omega)).trans ((alloc_get_ne _ _ _ (by simp only [go_sem]; omega)).trans (put_get_same _ _ _))
    have V6 : V.blk h.nx = some b := (blk_eq (vold _ (by omega) (by omega))).trans ((alloc_blk_ne _ _ _ (by simp only [go_sem]; omega)).trans ((put_blk_ne _ _ _ _ n6).trans q2))
    have g6 : (b.st 0 (.sl (h1.nx + 1) 0 (i + 1) (.opn 1))).get 0 = some (.sl (h1.nx + 1) 0 (i + 1) (.opn 1)) := st_get_same _ _ _ (by omega)
    have fin : ∀ (Z : H) (o : CLoop), Z = (V.put h.nx (.cells (b.st 0 (.sl (h1.nx + 1) 0 (i + 1) (.opn 1))))).put X.nx (.loop o) → (X.nx + 1 ≤ Z.nx ∧ Z.gn = X.gn ∧ (∀ k, k < X.nx → k ≠ h.nx → Z.t.get k = X.t.get k) ∧ ∃ s lid, Cell Z h.nx s ∧ Lst Z 1 s lid (i + 1) (uc (ws.take (i + 1))) ∧ X.nx < lid) ∧ Z.low ≤ X.nx ∧ h1.nx ≤ Z.nx ∧ h.nx ≤ Z.low := by
      rintro Z o rfl
      have htk : uc (ws.take (i + 1)) = uc (ws.take i) ++ [u64 w] := by rw [List.take_succ, hw, uc_app]; rfl
      refine ⟨⟨by simp only [go_sem]; omega, by simp only [go_sem]; exact vgn.trans j2, fun k hk hk6 => ?_, _, h1.nx + 1, ⟨by simp only [go_sem]; omega, _, (put_blk_ne _ _ _ _ n6).trans (put_blk_same _ _ _), by simp only [go_sem, q3], by simp only [go_sem, q4], g6⟩, ?_, by omega⟩, by simp only [go_sem]; omega, by simp only [go_sem]; omega, by simp only [go_sem]; omega⟩
      · rw [put_get_ne _ _ _ _ (by omega), put_get_ne _ _ _ _ hk6, vold k (by omega) (by omega), alloc_get_ne _ _ _ (by simp only [go_sem]; omega), put_get_ne _ _ _ _ (by omega)]
        exact j3 k hk hk6
      · rw [htk]
        exact LV.mono (Nat.le_refl _) fun _ => by rw [put_blk_ne _ _ _ _ (by omega), put_blk_ne _ _ _ _ (by omega)]
    simp only [go_sem, V6, VL, q3, q4, g6, n6, nL]
    rw [hR]
    obtain ⟨f1, f2, f3, f4⟩ := fin _ _ rfl
    exact ⟨_, rfl, put_get_same _ _ _, f1, f2, f3, f4⟩
  · intro Z hloop ⟨j1, j2, j3, s, lid, ⟨q1, b, q2, q3, q4, q5⟩, j5, j6⟩ hZB
    have hZlow : h.nx ≤ Z.low := hZB (by omega)
    have EZ : Ext h Z := ⟨by omega, j2.trans XE.gn, fun k hk => (j3 k (by omega) (by omega)).trans (XE.old k hk)⟩
    rw [List.take_length] at j5
    have n6 : h.nx ≠ X.nx := by omega
    have hel : ∀ Z', (ws.length ≠ 0 → Z'.blk lid = Z.blk lid) → Z.nx ≤ Z'.nx → EL Z' s ws := fun Z' hb hn => by
      have j5' := j5.mono hn hb
      rcases j5'.val with ⟨h0, rfl⟩ | ⟨h0, rfl, h1, b, h2, h3, h4, h5⟩
      · exact .inl ⟨List.length_eq_zero_iff.1 h0, rfl⟩
      · exact .inr ⟨lid, b, rfl, h1, h2, by rw [h4, Nat.mul_one], fun i x hx => by rw [h5, nth_eq]; unfold uc; rw [List.getElem?_map, hx]; rfl⟩
    have fin : ∀ o : CLoop, Q (some (fin h (Z.put X.nx (.loop o)) s)) := fun o => by
      have EZ' : Ext h (Z.put X.nx (.loop o)) := EZ.put _ (by omega)
      have hE := hel (Z.put X.nx (.loop o)) (fun _ => put_blk_ne _ _ _ _ (by omega)) (Nat.le_refl _)
      rw [hQ]
      obtain ⟨x, e, Ex, Bx⟩ := fin_el EZ' hlow hE
      exact ⟨s, x, congrArg some e, Ex, Bx.1, Bx.2 (by simp only [go_sem]; omega)⟩
    have Z6 : (Z.put X.nx (.loop default)).blk h.nx = some b := (put_blk_ne _ _ _ _ n6).trans q2
    simp only [go_sem, ← hX, hloop, cond_true, cond_false, loOut_eq, n6, q2, q5]
    exact fin _
theorem up_run (hσ : ∀ f a h, f ≠ 9 → σ f a h = none) {h : H} {t g : Nat} {es : List (Nat × Nat)} (T : TreeAt h t es) {ws : List Nat} (W : Way es g ws) (hws : ws.length ≤ 1000) (hlow : h.low ≤ h.nx) :
    SightQ h ws ((lim Try.prog σ).call 14 [.ptr t 0, u64 g] h) := by
  obtain ⟨Q, hQ⟩ : ∃ Q, Q = SightQ h ws := ⟨_, rfl⟩
  rw [← hQ]
  rw [call_eq (hσ _ _ _ (by decide)) fn_14 rfl rfl, Try.ntmps14, Try.results14]
  have wr := way_run hσ h.lo t g (by simp only [go_sem]; omega)
  obtain ⟨X, hX⟩ : ∃ X, X = ((h.lo.lo.alloc (.cells (newBlk [.ptr t 0]))).alloc (.cells (newBlk [u64 g]))).up (min h.lo.low h.lo.nx) := ⟨_, rfl⟩
  rw [← hX] at wr
  have Xnx : X.nx = h.nx + 2 := by rw [hX]; rfl
  have Xlow : X.low = h.nx := by rw [hX]; show min h.nx h.nx = h.nx; omega
  have XE : Ext h X := by rw [hX]; exact (((((Ext.lo h).trans (Ext.lo _)).alloc' _).alloc' _).up' _)
  have bA : X.blk h.nx = some (newBlk [.ptr t 0]) := by rw [hX]; exact (up_blk _ _ _).trans ((alloc_blk_ne _ _ _ (by simp only [go_sem])).trans (alloc_blk_same _ _ _ rfl))
  have bB : X.blk (h.nx + 1) = some (newBlk [u64 g]) := by rw [hX]; exact (up_blk _ _ _).trans (alloc_blk_same _ _ _ rfl)
  -- Collect
  have co : SightQ X ws ((lim Try.prog σ).call 51 [.fn (.func 78) [] [.ptr h.nx 0, .ptr (h.nx + 1) 0]] X) := by
    obtain ⟨R, hR⟩ : ∃ R, R = SightQ X ws := ⟨_, rfl⟩
    rw [← hR]
    rw [call_eq (hσ _ _ _ (by decide)) fn_51 rfl rfl, Try.ntmps51, Try.results51]
    obtain ⟨v, x, e, Ee, Be, le⟩ := aseq_run hσ (h := X.lo) (T.ext (XE.trans (Ext.lo X))) (A := h.nx) (B := h.nx + 1) (by simp only [go_sem]; omega) (by simp only [go_sem]; omega) bA bB rfl rfl W hws (by simp only [go_sem]; omega)
    simp only [go_sem, e]
    rw [hR]
    obtain ⟨x', e', Ex, Bx⟩ := fin_el ((Ext.lo X).trans Ee) (by omega) Be
    exact ⟨v, x', congrArg some e', Ex, Bx.1, Bx.2 (by rw [le]; simp only [go_sem]; omega)⟩
  obtain ⟨v, x, e, Ee, Be, le⟩ := co
  simp only [go_sem, wr, e]
  rw [hQ]
  obtain ⟨x', e', Ex, Bx⟩ := fin_el (XE.trans Ee) hlow Be
  exact ⟨v, x', congrArg some e', Ex, Bx.1, Bx.2 (by omega)⟩
end Go.Cl.U
