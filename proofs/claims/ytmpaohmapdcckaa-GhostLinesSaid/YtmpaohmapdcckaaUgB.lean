/- The program's functions, run by the rewriting evaluator: what each answers and leaves (UgB). -/
import Derived.Test.YtmpaohmapdcckaaUgA
set_option linter.all false
open Go Go.Cl Go.Proofs
namespace Go.Cl.U
noncomputable section
variable {σ : Sums}
set_option maxRecDepth 1000000
set_option maxHeartbeats 4000000

/-- births: a parent, a child; an error's number (0: none), and the tree -/
def growN : List (Nat × Nat) → List (Nat × Nat) → Nat × List (Nat × Nat)
  | es, [] => (0, es)
  | es, (p, c) :: l => if c = 0 ∨ hasOf es c = true then (2, []) else if hasOf es p = false then (6, []) else growN (es ++ [(c, p)]) l
def ofN (first : Nat) (l : List (Nat × Nat)) : Nat × List (Nat × Nat) := if first = 0 then (2, []) else growN [(first, 0)] l
def bcs (l : List (Nat × Nat)) : List CV := l.flatMap fun p => [u64 p.1, u64 p.2]
theorem bcs_get : ∀ (l : List (Nat × Nat)) (i : Nat) (p c : Nat), l[i]? = some (p, c) → nth (bcs l) (i * 2 + 0) = some (u64 p) ∧ nth (bcs l) (i * 2 + 1) = some (u64 c)
  | [], i, p, c, h => by simp at h
  | a :: l, 0, p, c, h => by
    simp at h; subst h; exact ⟨rfl, rfl⟩
  | a :: l, i + 1, p, c, h => by
    have ih := bcs_get l i p c (by simpa using h)
    refine ⟨?_, ?_⟩
    · have : (i + 1) * 2 + 0 = i * 2 + 0 + 1 + 1 := by omega
      rw [this]; exact ih.1
    · have : (i + 1) * 2 + 1 = i * 2 + 1 + 1 + 1 := by omega
      rw [this]; exact ih.2
/-- births that are read -/
structure RL (h : H) (v : CV) (n : Nat) (cs : List CV) : Prop where
  len : ∀ h' ts az, builtinT Try.prog h' .len (23 :: ts) (v :: az) = some (.val (.int .i64 (Int.ofNat n)))
  elt : ∀ i, i < n → ∃ id off b, (∀ kd, indexAddrT Try.prog 23 v (.int kd (Int.ofNat i)) = some (.ptr id off)) ∧ id < h.nx ∧ h.blk id = some b ∧ ∀ j x, j < 2 → nth cs (i * 2 + j) = some x → b.get (off + j) = some x
theorem RL.of_sl {h : H} {v : CV} {n : Nat} {cs : List CV} (S : Sl Try.prog 23 h v 2 n cs) : RL h v n cs := ⟨S.len, fun i hi => by
  obtain ⟨id, off, b, h1, h2, h3, _, h4⟩ := S.elt i hi
  exact ⟨id, off, b, h1, h2, h3, h4⟩⟩
theorem RL.ext {h h' : H} {v : CV} {n : Nat} {cs : List CV} (S : RL h v n cs) (E : Ext h h') : RL h' v n cs := ⟨S.len, fun i hi => by
  obtain ⟨id, off, b, h1, h2, h3, h4⟩ := S.elt i hi
  exact ⟨id, off, b, h1, Nat.lt_of_lt_of_le h2 E.nx, (E.blk h2).trans h3, h4⟩⟩
theorem RL.of_lst {h : H} {v : CV} {id n : Nat} {cs : List CV} (L : Lst h 2 v id n cs) : RL h v n cs := by
  rcases L.val with ⟨rfl, rfl⟩ | ⟨h0, rfl, h1, b, h2, h3, h4, h5⟩
  · exact ⟨fun h' ts az => by simp [builtinT, Try.underlying23, lenC], fun i hi => absurd hi (Nat.not_lt_zero i)⟩
  · exact ⟨fun h' ts az => by simp [builtinT, Try.underlying23, lenC], fun i hi => ⟨id, i * 2, b, fun kd => by rw [ia_23, blt_eq', decide_eq_true hi, cond_true, Nat.zero_add], h1, h2, fun j x _ hx => by rw [h5]; exact hx⟩⟩
/-- what Of answers -/
def OfQ (h : H) (r : Nat × List (Nat × Nat)) (o : Option (CV × Option H)) : Prop :=
  (r.1 ≠ 0 ∧ o = some (.tup [.nilp, .int .i64 (Int.ofNat r.1)], none)) ∨
  (r.1 = 0 ∧ ∃ t h', o = some (.tup [.ptr t 0, .int .i64 0], some h') ∧ TreeAt h' t r.2 ∧ Ext h h' ∧ h'.low = min h.low h.nx)
structure TreeX (h : H) (lo t m : Nat) (es : List (Nat × Nat)) : Prop where
  pos : 0 < es.length
  lt : t < h.nx
  ltm : m < h.nx
  ne : t ≠ m
  blk : ∃ b M c s lid, h.blk t = some b ∧ b.ro = false ∧ b.n = 2 ∧ b.get 0 = some (.map m) ∧ b.get 1 = some s ∧ h.t.get m = some (.map M c) ∧ MapIs M es ∧ NL h s lid (es.map Prod.fst) ∧ lid ≠ t ∧ lid ≠ m ∧ lo ≤ lid
theorem TreeX.at_ {h : H} {lo t m : Nat} {es : List (Nat × Nat)} (T : TreeX h lo t m es) : TreeAt h t es := by
  obtain ⟨b, M, c, s, lid, q1, q2, q3, q4, q5, q6, q7, q8, q9, q10, _⟩ := T.blk
  exact ⟨T.pos, T.lt, b, m, M, c, s, lid, q1, q2, q3, q4, q5, T.ltm, q6, q7, q8, q9, T.ne, q10⟩
theorem TreeX.ext {h h' : H} {lo t m : Nat} {es : List (Nat × Nat)} (T : TreeX h lo t m es) (E : Ext h h') : TreeX h' lo t m es := by
  obtain ⟨b, M, c, s, lid, q1, q2, q3, q4, q5, q6, q7, q8, q9, q10⟩ := T.blk
  exact ⟨T.pos, Nat.lt_of_lt_of_le T.lt E.nx, Nat.lt_of_lt_of_le T.ltm E.nx, T.ne, b, M, c, s, lid, (E.blk T.lt).trans q1, q2, q3, q4, q5, (E.old m T.ltm).trans q6, q7, q8.ext E, q9, q10⟩
theorem NL.beq {h : H} {s : CV} {lid : Nat} {ns : List Nat} (N : NL h s lid ns) : beqC s s = true := by
  rcases N.val with rfl | rfl <;> simp [beqC]
theorem of_run (hσ : ∀ f a h, f ≠ 9 → σ f a h = none) {h : H} {v : CV} {first : Nat} {l : List (Nat × Nat)} (A : RL h v l.length (bcs l)) (hl : l.length ≤ 60) (hlow : h.low ≤ h.nx) :
    OfQ h (ofN first l) ((lim Try.prog σ).call 10 [u64 first, v] h) := by
  obtain ⟨Q, hQ⟩ : ∃ Q, Q = OfQ h (ofN first l) := ⟨_, rfl⟩
  rw [← hQ]
  rw [call_eq (hσ _ _ _ (by decide)) fn_10 rfl rfl, Try.ntmps10, Try.results10]
  have l0 : CV.int .u64 0 = u64 0 := rfl
  have Alen := A.len
  by_cases qf : first = 0
  · have df : decide (first = 0) = true := decide_eq_true qf
    simp only [go_sem, l0, eq64, df]
    rw [hQ, fin_q _ _ _ rfl rfl]
    have e : ofN first l = (2, []) := by unfold ofN; rw [if_pos qf]
    exact .inl ⟨by rw [e]; decide, by rw [e]; rfl⟩
  have df : decide (first = 0) = false := decide_eq_false qf
  have hof : ofN first l = growN [(first, 0)] l := by unfold ofN; rw [if_neg qf]
  simp only [go_sem, l0, eq64, df]
  have up0 := update_new (h := h.lo.alloc (.map [] 0)) (m := h.nx) (M := []) (es := []) (mp_of (alloc_get_same _ _ _ rfl)) rfl (g := first) 0 rfl
  simp only [List.nil_append] at up0
  obtain ⟨X1, hX1⟩ : ∃ X, X = (h.lo.alloc (.map [] 0)).put h.nx (.map [(u64 first, u64 0, 0)] (0 + 1)) := ⟨_, rfl⟩
  rw [← hX1] at up0
  have X1nx : X1.nx = h.nx + 1 := by rw [hX1]; rfl
  have X1low : X1.low = h.nx := by rw [hX1]; simp only [go_sem]; omega
  have X1E : Ext h X1 := by rw [hX1]; exact ((Ext.lo h).alloc' _).put _ (Nat.le_refl _)
  have X1m : X1.t.get h.nx = some (.map [(u64 first, u64 0, 0)] (0 + 1)) := by rw [hX1]; exact put_get_same _ _ _
  simp only [go_sem, l0, eq64, df, up0, X1nx]
  obtain ⟨X2, hX2⟩ : ∃ X, X = X1.alloc (.cells ({ n := 1, d := [u64 0], t := T.nil : Blk }.st 0 (u64 first))) := ⟨_, rfl⟩
  obtain ⟨X3, hX3⟩ : ∃ X, X = X2.alloc (.cells (newBlk [.map h.nx, .sl (h.nx + 1) 0 1 (.exact 1)])) := ⟨_, rfl⟩
  have X2nx : X2.nx = h.nx + 2 := by rw [hX2, alloc_nx]; omega
  have X3nx : X3.nx = h.nx + 3 := by rw [hX3, alloc_nx]; omega
  have X3low : X3.low = h.nx := by rw [hX3, hX2]; exact X1low
  have E12 : Ext X1 X2 := by rw [hX2]; exact (Ext.refl X1).alloc' _
  have E23 : Ext X2 X3 := by rw [hX3]; exact (Ext.refl X2).alloc' _
  have X3E : Ext h X3 := (X1E.trans E12).trans E23
  have T0 : TreeX X3 h.nx (h.nx + 2) h.nx [(first, 0)] := by
    refine ⟨Nat.zero_lt_one, by omega, by omega, by omega, newBlk [.map h.nx, .sl (h.nx + 1) 0 1 (.exact 1)], [(u64 first, u64 0, 0)], 0 + 1, .sl (h.nx + 1) 0 1 (.exact 1), h.nx + 1, ?_, rfl, rfl, rfl, rfl, ?_, rfl, ?_, by omega, by omega, by omega⟩
    · rw [hX3]; exact alloc_blk_same _ _ _ X2nx.symm
    · rw [E23.old _ (by omega), E12.old _ (by omega)]; exact X1m
    · refine ⟨Nat.zero_lt_one, .inl rfl, by omega, _, (E23.blk (by omega)).trans (by rw [hX2]; exact alloc_blk_same _ _ _ X1nx.symm), rfl, rfl, fun i x hx => ?_⟩
      cases i with
      | zero => simp at hx; subst hx; rfl
      | succ i => simp at hx
  simp only [go_sem, l0, eq64, df, up0, X1nx, ← hX2, X2nx, ← hX3, Alen]
  refine loop_ind (Q := Q) (fun i env h' => evT env 6 = .ptr (h.nx + 2) 0 ∧ evT env 18 = v ∧ evT env 19 = .int .i64 (Int.ofNat l.length) ∧ evT env 20 = .int .i64 (Int.ofNat i) ∧ ∃ es, growN [(first, 0)] l = growN es (l.drop i) ∧ TreeX h' h.nx (h.nx + 2) h.nx es ∧ es.length = i + 1 ∧ Ext h h' ∧ h'.low = h.nx) l.length 0 ?_ (Nat.zero_le _) ?_ ?_
  · exact ⟨by simp only [go_sem], by simp only [go_sem], by simp only [go_sem], by simp only [go_sem]; rfl, [(first, 0)], by rw [List.drop_zero], by rw [hX3, hX2] at T0; simp only [go_sem]; exact T0, rfl, by rw [hX3, hX2] at X3E; simp only [go_sem]; exact X3E, by rw [hX3, hX2] at X3low; simp only [go_sem]; exact X3low⟩
  · rintro i env h' ⟨e6, e18, e19, e20, es, hg, T, hes, E, hlw⟩ hi next
    have c0 := ofNat_lt hi
    have w1 := wrap_succ (i := i) (by omega)
    obtain ⟨⟨p, c⟩, hpc⟩ : ∃ x, l[i]? = some x := ⟨_, List.getElem?_eq_getElem hi⟩
    obtain ⟨id, off, bb, ei, hid, hb, hcell⟩ := A.elt i hi
    obtain ⟨n1, n2⟩ := bcs_get l i p c hpc
    have g0 := hcell 0 _ (by decide) n1
    rw [Nat.add_zero] at g0
    have g1 := hcell 1 _ (by decide) n2
    have hb' : h'.blk id = some bb := (E.blk hid).trans hb
    have hdr : l.drop i = (p, c) :: l.drop (i + 1) := by
      rw [List.drop_eq_getElem_cons hi]; congr 1; exact (List.getElem?_eq_some_iff.1 hpc).2
    rw [hdr] at hg
    simp only [go_sem, e6, e18, e19, e20, c0, ei, hb', g0, g1, l0, eq64]
    by_cases qc : c = 0
    · have dc : decide (c = 0) = true := decide_eq_true qc
      simp only [go_sem, e6, e18, e19, e20, c0, ei, hb', g0, g1, l0, eq64, dc]
      rw [hQ, hof, hg, fin_q _ _ _ (by have := E.nx; simp only [go_sem]; omega) rfl]
      have e : growN es ((p, c) :: l.drop (i + 1)) = (2, []) := by rw [growN, if_pos (.inl qc)]
      rw [e]
      exact .inl ⟨by decide, rfl⟩
    have dc : decide (c = 0) = false := decide_eq_false qc
    simp only [go_sem, e6, e18, e19, e20, c0, ei, hb', g0, g1, l0, eq64, dc]
    obtain ⟨Y, hY⟩ : ∃ Y, Y = (h'.alloc (.cells (newBlk [u64 0, u64 0]))).put h'.nx (.cells (((newBlk [u64 0, u64 0]).st 0 (u64 p)).st 1 (u64 c))) := ⟨_, rfl⟩
    have hn := E.nx
    have Ynx : Y.nx = h'.nx + 1 := by rw [hY]; rfl
    have Ylow : Y.low = h.nx := by rw [hY]; simp only [go_sem]; omega
    have YE : Ext h' Y := by rw [hY]; exact ((Ext.refl h').alloc' _).put _ (Nat.le_refl _)
    have Yb : Y.blk h'.nx = some (((newBlk [u64 0, u64 0]).st 0 (u64 p)).st 1 (u64 c)) := by rw [hY]; exact put_blk_same _ _ _
    have TY := T.ext YE
    have hc : (lim Try.prog σ).call 13 [.ptr (h.nx + 2) 0, u64 c] Y = some (.bool (hasOf es c), none) := has_run hσ TY.at_ c
    have hp : (lim Try.prog σ).call 13 [.ptr (h.nx + 2) 0, u64 p] Y = some (.bool (hasOf es p), none) := has_run hσ TY.at_ p
    have gb0 : (((newBlk [u64 0, u64 0]).st 0 (u64 p)).st 1 (u64 c)).get 0 = some (u64 p) := rfl
    have gb1 : (((newBlk [u64 0, u64 0]).st 0 (u64 p)).st 1 (u64 c)).get 1 = some (u64 c) := rfl
    cases hhc : hasOf es c with
    | true =>
      rw [hhc] at hc
      simp only [go_sem, ← hY, dc, e6, e18, e19, e20, w1, hc]
      rw [hQ, hof, hg, fin_q _ _ _ Ylow rfl]
      have e : growN es ((p, c) :: l.drop (i + 1)) = (2, []) := by rw [growN, if_pos (.inr hhc)]
      rw [e]
      exact .inl ⟨by decide, rfl⟩
    | false =>
      rw [hhc] at hc
      simp only [go_sem, ← hY, dc, e6, e18, e19, e20, w1, hc, Yb, gb0, gb1]
      cases hhp : hasOf es p with
      | false =>
        rw [hhp] at hp
        simp only [go_sem, ← hY, dc, e6, e18, e19, e20, w1, hc, hp, Yb, gb0, gb1]
        rw [hQ, hof, hg, fin_q _ _ _ Ylow rfl]
        have e : growN es ((p, c) :: l.drop (i + 1)) = (6, []) := by rw [growN, if_neg (by simp [qc, hhc]), if_pos hhp]
        rw [e]
        exact .inl ⟨by decide, rfl⟩
      | true =>
        rw [hhp] at hp
        obtain ⟨tb, M, k, s, lid, q1, q2, q3, q4, q5, q6, q7, q8, q9, q10, q11⟩ := T.blk
        have lidlt := q8.lt
        have q1 := (YE.blk T.lt).trans q1
        have q6 := (YE.old _ T.ltm).trans q6
        have q8 := q8.ext YE
        have up := update_new (mp_of q6) q7 p hhc
        obtain ⟨Z, hZ⟩ : ∃ Z, Z = Y.put h.nx (.map (M ++ [(u64 c, u64 p, k)]) (k + 1)) := ⟨_, rfl⟩
        rw [← hZ] at up
        have Znx : Z.nx = Y.nx := by rw [hZ]; rfl
        have Zlow : Z.low = h.nx := by rw [hZ]; show min Y.low h.nx = h.nx; omega
        have Zt : Z.blk (h.nx + 2) = some tb := by rw [hZ]; exact (blk_eq (put_get_ne _ _ _ _ (by omega))).trans q1
        have Zb : Z.blk h'.nx = some (((newBlk [u64 0, u64 0]).st 0 (u64 p)).st 1 (u64 c)) := by rw [hZ]; exact (blk_eq (put_get_ne _ _ _ _ (by have := T.ltm; omega))).trans Yb
        have Zm : Z.t.get h.nx = some (.map (M ++ [(u64 c, u64 p, k)]) (k + 1)) := by rw [hZ]; exact put_get_same _ _ _
        have ZN : NL Z s lid (es.map Prod.fst) := q8.mono (by omega) (by rw [hZ]; exact blk_eq (put_get_ne _ _ _ _ q10))
        simp only [go_sem, ← hY, dc, e6, e18, e19, e20, w1, hc, hp, Yb, gb0, gb1, q1, q4, q5]
        refine cnd_go (Q := Q) (by kernel_rfl) ?_
        simp only [go_sem, ← hY, dc, e6, e18, e19, e20, w1, hc, hp, Yb, gb0, gb1, q1, q4, q5, up]
        refine cnd_go (Q := Q) (by kernel_rfl) ?_
        refine quiet_go (Q := Q) (by kernel_rfl) ?_
        simp only [go_sem, ← hY, e18, e19, e20, w1, Zt, Zb, gb0, gb1, q4, q5, e6]
        refine cnd_go (Q := Q) (by kernel_rfl) ?_
        simp only [go_sem, ← hY, e18, e19, e20, w1, Zt, Zb, gb0, gb1, q4, q5, e6]
        obtain ⟨V, hV⟩ : ∃ V, V = Z.alloc (.cells ({ n := 1, d := [CV.int IntKind.u64 0], t := Cl.T.nil : Blk }.st 0 (u64 c))) := ⟨_, rfl⟩
        have Vnx : V.nx = Z.nx + 1 := by rw [hV]; rfl
        have Vlow : V.low = h.nx := by rw [hV]; exact Zlow
        have VE : Ext Z V := by rw [hV]; exact (Ext.refl Z).alloc' _
        have tlt := TY.lt
        have mlt := TY.ltm
        obtain ⟨U, hU, UN, Unx, Ugn, Uold, Ulow⟩ := (ZN.ext VE).app c (by rw [List.length_map]; omega)
        rw [List.length_map] at hU UN
        have Ub : U.blk h'.nx = some (((newBlk [u64 0, u64 0]).st 0 (u64 p)).st 1 (u64 c)) := (blk_eq (Uold _ (by omega) (by omega))).trans ((VE.blk (by omega)).trans Zb)
        have Ut : U.blk (h.nx + 2) = some tb := (blk_eq (Uold _ (by omega) (by omega))).trans ((VE.blk (by omega)).trans Zt)
        have Um : U.t.get h.nx = some (.map (M ++ [(u64 c, u64 p, k)]) (k + 1)) := (Uold _ (by omega) (by omega)).trans ((VE.old _ (by omega)).trans Zm)
        have Vt : V.blk (h.nx + 2) = some tb := (VE.blk (by omega)).trans Zt
        have Vb : V.blk h'.nx = some (((newBlk [u64 0, u64 0]).st 0 (u64 p)).st 1 (u64 c)) := (VE.blk (by omega)).trans Zb
        simp only [go_sem, ← hY, e18, e19, e20, w1, Zt, Zb, gb0, gb1, q4, q5, ← hV, hU, Ut, q2, q3]
        have hsb := ZN.beq
        refine cnd_go (Q := Q) (by kernel_rfl) ?_
        simp only [go_sem, ← hY, e6, e18, e19, e20, w1, Zt, Zb, Vt, Vb, Ut, Ub, gb0, gb1, q2, q3, q4, q5, ← hV, hU, hsb]
        rw [cond_al (i := 4) (d := [7, 8, 11])]
        rotate_left
        · kernel_rfl
        rw [cond_al (i := 6) (d := [7, 8, 11])]
        rotate_left
        · kernel_rfl
        simp only [go_sem, ← hY, e6, e18, e19, e20, w1, Zt, Zb, Vt, Vb, Ut, Ub, gb0, gb1, q2, q3, q4, q5, ← hV, hU, hsb]
        refine next _ _ ⟨by simp only [go_sem, e6], by simp only [go_sem, e18], by simp only [go_sem, e19], by simp only [go_sem, w1], es ++ [(c, p)], ?_, ?_, by simp [hes], ?_, ?_⟩
        · rw [hg, growN, if_neg (by simp [qc, hhc]), if_neg (by simp [hhp])]
        · have gs : (tb.st 1 (.sl V.nx 0 (es.length + 1) (.opn 1))).get 1 = some (.sl V.nx 0 (es.length + 1) (.opn 1)) := st_get_same _ _ _ (by omega)
          have gm : (tb.st 1 (.sl V.nx 0 (es.length + 1) (.opn 1))).get 0 = some (.map h.nx) := (st_get_ne _ _ _ _ (by decide)).trans q4
          refine ⟨by simp, by simp only [go_sem]; omega, by simp only [go_sem]; omega, T.ne, _, _, _, _, V.nx, put_blk_same _ _ _, by simp only [go_sem, q2], by simp only [go_sem, q3], gm, gs, (put_get_ne _ _ _ _ (by omega)).trans Um, q7.snoc c p k, ?_, by omega, by omega, by omega⟩
          rw [List.map_append]
          exact UN.mono (by simp only [go_sem]; omega) (put_blk_ne _ _ _ _ (by omega))
        · refine ⟨by simp only [go_sem]; omega, by simp only [go_sem]; rw [Ugn, hV]; show Z.gn = h.gn; rw [hZ, hY]; exact E.gn, fun id hid => ?_⟩
          refine (put_get_ne U (h.nx + 2) _ id (by omega)).trans ?_
          rw [Uold id (by omega) (by omega), VE.old id (by omega), hZ, put_get_ne _ _ _ _ (by omega), YE.old id (by omega)]
          exact E.old id hid
        · simp only [go_sem]; rcases Ulow with h1 | h1 <;> omega
  · rintro env h' ⟨e6, e18, e19, e20, es, hg, T, hes, E, hlw⟩
    have c0 := ofNat_nlt (Nat.le_refl l.length)
    rw [List.drop_length] at hg
    simp only [go_sem, e6, e18, e19, e20, c0]
    rw [hQ, hof, hg, fin_new _ _ _ (by simp [okB, okBL, blt_eq'])]
    exact .inr ⟨rfl, _, _, rfl, T.at_.ext (Ext.up _ _), E.up' _, by show min h.low h'.low = _; rw [hlw]⟩
end
end Go.Cl.U

namespace Go.Cl.U
noncomputable section

def rk (es : List (Nat × Nat)) (g : Nat) : Nat := es.findIdx fun p => p.1 == g
structure Good (es : List (Nat × Nat)) : Prop where
  par : ∀ g, hasOf es g = true → parOf es g ≠ 0 → hasOf es (parOf es g) = true ∧ rk es (parOf es g) < rk es g
theorem rk_lt {es : List (Nat × Nat)} {g : Nat} : hasOf es g = true ↔ rk es g < es.length := by
  unfold hasOf rk
  rw [List.findIdx_lt_length, List.any_eq_true]
theorem has_snoc (es : List (Nat × Nat)) (c p g : Nat) : hasOf (es ++ [(c, p)]) g = (hasOf es g || c == g) := by
  unfold hasOf; simp
theorem rk_snoc_old {es : List (Nat × Nat)} {c p g : Nat} (h : hasOf es g = true) : rk (es ++ [(c, p)]) g = rk es g := by
  have := rk_lt.1 h
  unfold rk at this ⊢
  rw [List.findIdx_append, if_pos this]
theorem rk_snoc_new {es : List (Nat × Nat)} {c p g : Nat} (h : hasOf es g = false) (e : c = g) : rk (es ++ [(c, p)]) g = es.length := by
  have : ¬ rk es g < es.length := fun q => by rw [rk_lt.2 q] at h; cases h
  unfold rk at this ⊢
  rw [List.findIdx_append, if_neg this]
  simp [List.findIdx_cons, e]
theorem par_snoc_old {es : List (Nat × Nat)} {c p g : Nat} (h : hasOf es g = true) : parOf (es ++ [(c, p)]) g = parOf es g := by
  unfold hasOf at h
  unfold parOf
  rw [List.find?_append]
  obtain ⟨x, hx, hp⟩ := List.any_eq_true.1 h
  cases hf : es.find? (fun p => p.1 == g) with
  | some y => rfl
  | none => exact absurd hp (by simpa using List.find?_eq_none.1 hf x hx)
theorem par_snoc_new {es : List (Nat × Nat)} {c p g : Nat} (h : hasOf es g = false) (e : c = g) : parOf (es ++ [(c, p)]) g = p := by
  unfold hasOf at h
  unfold parOf
  rw [List.find?_append]
  have : es.find? (fun p => p.1 == g) = none := by
    rw [List.find?_eq_none]; intro x hx
    have := List.any_eq_false.1 h x hx
    simpa using this
  rw [this]
  simp [e]
theorem Good.snoc {es : List (Nat × Nat)} (G : Good es) {c p : Nat} (hc : hasOf es c = false) (hp : hasOf es p = true) : Good (es ++ [(c, p)]) := by
  refine ⟨fun g hg hn => ?_⟩
  rw [has_snoc] at hg
  cases hgo : hasOf es g with
  | true =>
    rw [par_snoc_old hgo] at hn ⊢
    obtain ⟨h1, h2⟩ := G.par g hgo hn
    rw [has_snoc, h1, rk_snoc_old h1, rk_snoc_old hgo]
    exact ⟨rfl, h2⟩
  | false =>
    rw [hgo] at hg
    have e : c = g := by simpa using hg
    rw [par_snoc_new hgo e] at hn ⊢
    rw [has_snoc, hp, rk_snoc_old hp, rk_snoc_new hgo e]
    exact ⟨rfl, rk_lt.1 hp⟩
theorem grow_good : ∀ (l es : List (Nat × Nat)), Good es → (growN es l).1 = 0 → Good (growN es l).2
  | [], es, G, _ => G
  | (p, c) :: l, es, G, h => by
    unfold growN at h ⊢
    by_cases h1 : c = 0 ∨ hasOf es c = true
    · rw [if_pos h1] at h; cases h
    · rw [if_neg h1] at h ⊢
      by_cases h2 : hasOf es p = false
      · rw [if_pos h2] at h; cases h
      · rw [if_neg h2] at h ⊢
        exact grow_good l _ (G.snoc (by simpa using (not_or.1 h1).2) (by simpa using h2)) h
theorem of_good {first : Nat} {l : List (Nat × Nat)} (h : (ofN first l).1 = 0) : Good (ofN first l).2 := by
  unfold ofN at h ⊢
  by_cases hf : first = 0
  · rw [if_pos hf] at h; cases h
  · rw [if_neg hf] at h ⊢
    refine grow_good l _ ⟨fun g hg hn => ?_⟩ h
    have e : first = g := by simpa [hasOf] using hg
    exact absurd (by simp [parOf, e]) hn
theorem Way.nil {es : List (Nat × Nat)} {g : Nat} (h : parOf es g = 0) : Way es g [] := ⟨fun i hi => absurd hi (Nat.not_lt_zero i), h⟩
theorem Way.cons {es : List (Nat × Nat)} {g : Nat} {ws : List Nat} (h : parOf es g ≠ 0) (W : Way es (parOf es g) ws) : Way es g (parOf es g :: ws) := by
  have hc : ∀ i, curW g (parOf es g :: ws) (i + 1) = curW (parOf es g) ws i := fun i => by cases i <;> rfl
  refine ⟨fun i hi => ?_, ?_⟩
  · cases i with
    | zero => exact ⟨rfl, h⟩
    | succ i =>
      rw [hc]
      simpa using W.at_ i (by simpa using hi)
  · show parOf es (curW g (parOf es g :: ws) (ws.length + 1)) = 0
    rw [hc]; exact W.end_
/-- each on the way up of g stands ahead of g -/
theorem way_ex {es : List (Nat × Nat)} (G : Good es) : ∀ (n g : Nat), rk es g < n → ∃ ws, Way es g ws ∧ ∀ x ∈ ws, hasOf es x = true ∧ rk es x < rk es g ∧ hasOf es g = true
  | 0, g, h => absurd h (Nat.not_lt_zero _)
  | n + 1, g, h => by
    by_cases hz : parOf es g = 0
    · exact ⟨[], Way.nil hz, by simp⟩
    · have hg : hasOf es g = true := by
        cases q : hasOf es g with
        | true => rfl
        | false => exact absurd (parOf_no q) hz
      obtain ⟨h1, h2⟩ := G.par g hg hz
      obtain ⟨ws, W, hw⟩ := way_ex G n (parOf es g) (by omega)
      refine ⟨_, W.cons hz, fun x hx => ?_⟩
      rcases List.mem_cons.1 hx with rfl | hx
      · exact ⟨h1, h2, hg⟩
      · obtain ⟨q1, q2, _⟩ := hw x hx
        exact ⟨q1, by omega, hg⟩
def turnN (v : Nat) : Nat := [0, 1, 3, 2, 4, 6, 5, 7, 8].getD v 0
theorem says_turn (a b : Ln) {sa sb : List Nat} (h : ¬ (a.c ∈ sb ∧ b.c ∈ sa)) : saysV a b sa sb = turnN (saysV b a sb sa) := by
  unfold saysV
  have hx : (∃ g ∈ sa, g ∈ sb) ↔ (∃ g ∈ sb, g ∈ sa) := ⟨fun ⟨g, p, q⟩ => ⟨g, q, p⟩, fun ⟨g, p, q⟩ => ⟨g, q, p⟩⟩
  by_cases h1 : a.c = 0 <;> by_cases h2 : b.c = 0 <;> simp only [h1, h2, if_true, if_false] <;> try rfl
  by_cases h3 : a.c = b.c
  · rw [if_pos h3, if_pos h3.symm]; rfl
  have h3' : ¬ b.c = a.c := fun e => h3 e.symm
  by_cases h4 : a.c ∈ sb <;> by_cases h5 : b.c ∈ sa
  · exact absurd ⟨h4, h5⟩ h
  · simp only [h3, h3', h4, h5, if_true, if_false]; rfl
  · simp only [h3, h3', h4, h5, if_true, if_false]; rfl
  · by_cases h6 : ∃ g ∈ sa, g ∈ sb
    · have h7 := hx.1 h6
      simp only [h3, h3', h4, h5, h6, h7, if_true, if_false]; rfl
    · have h7 : ¬ ∃ g ∈ sb, g ∈ sa := fun q => h6 (hx.2 q)
      simp only [h3, h3', h4, h5, h6, h7, if_true, if_false]; rfl
theorem says_self (a : Ln) (sa : List Nat) : saysV a a sa sa = if a.c = 0 then 1 else 4 := by
  unfold saysV
  by_cases h : a.c = 0 <;> simp [h]
theorem says_le (a b : Ln) (sa sb : List Nat) : saysV a b sa sb ≤ 8 := by
  unfold saysV
  repeat' split
  all_goals omega
end
end Go.Cl.U

namespace Go.Cl.U
noncomputable section
variable {σ : Sums}
set_option maxRecDepth 1000000

def alone (l : Ln) (d : Nat) : Ln := if l.b = 0 then ⟨d, l.c, l.h0, l.h1⟩ else l
def ended (l : Ln) : Ln := if l.b = 0 then l else ⟨l.c, 0, l.b, l.h0⟩
theorem alone_run (hσ : ∀ f a h, f ≠ 9 → σ f a h = none) (h : H) (l : Ln) (d : Nat) : RetQ (.tup [(alone l d).cv, .bool (decide (l.b = 0))]) ((lim Try.prog σ).call 18 [l.cv, u64 d] h) := by
  rw [call_eq (hσ _ _ _ (by decide)) fn_18 rfl rfl, Try.ntmps18, Try.results18]
  have l0 : CV.int .u64 0 = u64 0 := rfl
  by_cases q : l.b = 0
  · have d1 : decide (l.b = 0) = true := decide_eq_true q
    simp only [go_sem, Ln.cv_eq, l0, ne64, d1]
    exact congrArg some ((fin_q _ _ _ (by simp only [go_sem]; omega) rfl).trans (by rw [show alone l d = ⟨d, l.c, l.h0, l.h1⟩ from if_pos q]))
  · have d1 : decide (l.b = 0) = false := decide_eq_false q
    simp only [go_sem, Ln.cv_eq, l0, ne64, d1]
    exact congrArg some ((fin_q _ _ _ (by simp only [go_sem]; omega) rfl).trans (by rw [show alone l d = l from if_neg q]))
theorem ended_run (hσ : ∀ f a h, f ≠ 9 → σ f a h = none) (h : H) (l : Ln) : RetQ (ended l).cv ((lim Try.prog σ).call 19 [l.cv] h) := by
  rw [call_eq (hσ _ _ _ (by decide)) fn_19 rfl rfl, Try.ntmps19, Try.results19]
  have l0 : CV.int .u64 0 = u64 0 := rfl
  by_cases q : l.b = 0
  · have d1 : decide (l.b = 0) = true := decide_eq_true q
    simp only [go_sem, Ln.cv_eq, l0, ne64, hist0, hist1, d1]
    exact congrArg some ((fin_q _ _ _ (by simp only [go_sem]; omega) rfl).trans (by rw [show ended l = l from if_pos q]))
  · have d1 : decide (l.b = 0) = false := decide_eq_false q
    simp only [go_sem, Ln.cv_eq, l0, ne64, hist0, hist1, d1]
    exact congrArg some ((fin_q _ _ _ (by simp only [go_sem]; omega) rfl).trans (by rw [show ended l = ⟨l.c, 0, l.b, l.h0⟩ from if_neg q]))

/-- the tree's numbers -/
theorem sh_ne {a b : Ln} : sh a.el b.el ≠ 0 ↔ ∃ x, x ∈ a.el ∧ x ∈ b.el := by
  unfold sh
  cases e : a.el.find? fun x => decide (x ∈ b.el) with
  | none =>
    rw [List.find?_eq_none] at e
    simp at e ⊢
    exact e
  | some y =>
    have h1 := List.find?_some e
    have h2 := List.mem_of_find?_eq_some e
    simp at h1
    exact ⟨fun _ => ⟨y, h2, h1⟩, fun _ => el_nz _ _ h2⟩

theorem equal_run (hσ : ∀ f a h, f ≠ 9 → σ f a h = none) {h : H} {v w : CV} {es fs : List Nat} (B : EL h v es) (C : EL h w fs) (hl : es.length ≤ 1000) : RetQ (.bool (decide (es = fs))) ((lim Try.prog σ).call 52 [v, w] h) := by
  rw [call_eq (hσ _ _ _ (by decide)) fn_52 rfl rfl, Try.ntmps52, Try.results52]
  have Bl := B.len
  have Cl := C.len
  have e0 : (Int.ofNat es.length = Int.ofNat fs.length) = (es.length = fs.length) := propext ⟨fun e => Int.ofNat.inj e, fun e => by rw [e]⟩
  obtain ⟨Q, hQ⟩ : ∃ Q, Q = RetQ (.bool (decide (es = fs))) := ⟨_, rfl⟩
  rw [← hQ]
  by_cases ql : es.length = fs.length
  · have dl : decide (es.length = fs.length) = true := decide_eq_true ql
    simp only [go_sem, Bl, Cl, e0, dl]
    refine loop_ind (Q := Q) (fun i env h' => h' = h.lo ∧ evT env 0 = v ∧ evT env 1 = w ∧ evT env 12 = .int .i64 (Int.ofNat es.length) ∧ evT env 13 = .int .i64 (Int.ofNat i) ∧ es.take i = fs.take i) es.length 0 ?_ (Nat.zero_le _) ?_ ?_
    · exact ⟨rfl, by simp only [go_sem], by simp only [go_sem], by simp only [go_sem], by simp only [go_sem]; rfl, by simp⟩
    · rintro i env h' ⟨rfl, e0, e1, e12, e13, ht⟩ hi next
      have c0 := ofNat_lt hi
      have w1 := wrap_succ (i := i) (by omega)
      obtain ⟨x, hx⟩ : ∃ x, es[i]? = some x := ⟨_, List.getElem?_eq_getElem hi⟩
      obtain ⟨y, hy⟩ : ∃ y, fs[i]? = some y := ⟨_, List.getElem?_eq_getElem (by omega)⟩
      obtain ⟨id1, b1, i1, _, hb1, hg1⟩ := (B.ext (Ext.lo h)).at_ hx
      obtain ⟨id2, b2, i2, _, hb2, hg2⟩ := (C.ext (Ext.lo h)).at_ hy
      simp only [go_sem, e0, e1, e12, e13, c0]
      refine cnd_go (Q := Q) (by kernel_rfl) ?_
      by_cases q : x = y
      · have dq : decide (x = y) = true := decide_eq_true q
        simp only [go_sem, e0, e1, e12, e13, c0, i1, i2, hb1, hb2, hg1, hg2, ne64, eq64, q, dq, w1]
        refine next _ _ ⟨rfl, by simp only [go_sem, e0], by simp only [go_sem, e1], by simp only [go_sem, e12], by simp only [go_sem, w1], ?_⟩
        rw [List.take_succ, List.take_succ, hx, hy, ht, q]
      · have dq : decide (x = y) = false := decide_eq_false q
        simp only [go_sem, e0, e1, e12, e13, c0, i1, i2, hb1, hb2, hg1, hg2, ne64, eq64, q, dq, w1]
        rw [hQ, decide_eq_false (fun e => q (by rw [e, hy] at hx; exact (Option.some.inj hx).symm))]
        exact congrArg some (fin_q _ _ _ rfl rfl)
    · rintro env h' ⟨rfl, e0, e1, e12, e13, ht⟩
      have c0 := ofNat_nlt (Nat.le_refl es.length)
      simp only [go_sem, e0, e1, e12, e13, c0]
      rw [List.take_length, List.take_of_length_le (by omega)] at ht
      rw [hQ, decide_eq_true ht]
      exact congrArg some (fin_q _ _ _ rfl rfl)
  · have dl : decide (es.length = fs.length) = false := decide_eq_false ql
    simp only [go_sem, Bl, Cl, e0, dl]
    rw [hQ, decide_eq_false (fun e => ql (by rw [e]))]
    exact congrArg some (fin_q _ _ _ rfl rfl)

/-- does a line fit, that is not blank -/
theorem fits_run (hσ : ∀ f a h, f ≠ 9 → σ f a h = none) {h : H} {t : Nat} {es : List (Nat × Nat)} (T : TreeAt h t es) (a : Ln) {wa : List Nat} (Wa : Way es a.c wa) (hlow : h.low ≤ h.nx) (hfit : a.c ≠ 0 → hasOf es a.c = true ∧ a.el = wa.take a.el.length) :
    RetQ (.bool true) ((lim Try.prog σ).call 20 [.ptr t 0, a.cv] h) := by
  obtain ⟨Q, hQ⟩ : ∃ Q, Q = RetQ (.bool true) := ⟨_, rfl⟩
  rw [← hQ]
  rw [call_eq (hσ _ _ _ (by decide)) fn_20 rfl rfl, Try.ntmps20, Try.results20]
  obtain ⟨X, hX⟩ : ∃ X, X = h.lo.alloc (.cells (newBlk [u64 a.c, u64 a.b, u64 a.h0, u64 a.h1])) := ⟨_, rfl⟩
  have Xnx : X.nx = h.nx + 1 := by rw [hX]; rfl
  have Xlow : X.low = h.nx := by rw [hX]; rfl
  have XE : Ext h X := by rw [hX]; exact (Ext.lo h).alloc' _
  have Xa : X.blk h.nx = some (newBlk [u64 a.c, u64 a.b, u64 a.h0, u64 a.h1]) := by rw [hX]; simp only [go_sem]
  have nn : (lim Try.prog σ).call 50 [.ptr t 0] X = some (.bool false, none) := none_run hσ (T.ext XE)
  have b1 : (lim Try.prog σ).call 17 [.agg [u64 a.c, u64 a.b, u64 a.h0, u64 a.h1]] X = some (.bool (decide (a.c = 0)), none) := blank_run hσ X a
  have fin : ∀ (Y : H), Y.low = h.nx → Q (some (fin h Y (.bool true))) := fun Y hl => by
    rw [hQ, fin_q _ _ _ hl rfl]; rfl
  by_cases qa : a.c = 0
  · have da : decide (a.c = 0) = true := decide_eq_true qa
    simp only [go_sem, Ln.cv_eq, ← hX, nn, Xa, b1, da]
    exact fin X Xlow
  have da : decide (a.c = 0) = false := decide_eq_false qa
  obtain ⟨hh, hel⟩ := hfit qa
  have hr : (lim Try.prog σ).call 13 [.ptr t 0, u64 a.c] X = some (.bool true, none) := by
    have : _ = _ := has_run hσ (T.ext XE) a.c
    rw [hh] at this; exact this
  obtain ⟨ve, xe, ee, Be, Ee, le⟩ := elder_c hσ (X := X) (by omega) a
  obtain ⟨Y, hY⟩ : ∃ Y, Y = xe.getD X := ⟨_, rfl⟩
  rw [← hY] at Be Ee le
  have Ynx := Ee.nx
  obtain ⟨vs, xs, es', Es, Bs, ls⟩ := sight_run hσ (T.ext (XE.trans Ee)) a Wa (h := Y) (by omega)
  rw [← hel] at Bs
  obtain ⟨Z, hZ⟩ : ∃ Z, Z = xs.getD Y := ⟨_, rfl⟩
  rw [← hZ] at Bs Es ls
  rw [Ln.cv_eq] at ee es'
  have Ya : Y.blk h.nx = some (newBlk [u64 a.c, u64 a.b, u64 a.h0, u64 a.h1]) := (Ee.blk (by omega)).trans Xa
  have Za : Z.blk h.nx = some (newBlk [u64 a.c, u64 a.b, u64 a.h0, u64 a.h1]) := (Es.blk (by omega)).trans Ya
  have Zlow : Z.low = h.nx := by omega
  have eq : (lim Try.prog σ).call 52 [ve, vs] Z = some (.bool true, none) := by
    have : _ = _ := equal_run hσ (Be.ext Es) Bs (by have := el_len a; omega)
    rw [decide_eq_true rfl] at this; exact this
  have hve := Be.beq
  have hvs := Bs.beq
  simp only [go_sem, Ln.cv_eq, ← hX, nn, Xa, b1, da]
  refine cnd_go (Q := Q) (by kernel_rfl) ?_
  rcases xe with _ | Y' <;> rcases xs with _ | Z'
  · have hXY : Y = X := hY
    have hYZ : Z = Y := hZ
    subst hXY hYZ
    simp only [go_sem, ← hX, Xa, hr, ee, es', eq, Za, hve, hvs, Ln.beq]
    exact fin _ Zlow
  · have hXY : Y = X := hY
    have hYZ : Z = Z' := hZ
    subst hXY hYZ
    simp only [go_sem, ← hX, Xa, hr, ee, es', eq, Za, hve, hvs, Ln.beq]
    refine cnd_go (Q := Q) (by kernel_rfl) ?_
    simp only [go_sem, ← hX, Xa, Ya, hr, ee, es', eq, Za, hve, hvs, Ln.beq]
    rw [cond_al (i := 10) (d := [])]
    rotate_left
    · kernel_rfl
    rw [cond_al (i := 3) (d := [9])]
    rotate_left
    · kernel_rfl
    rw [cond_al (i := 6) (d := [9])]
    rotate_left
    · kernel_rfl
    simp only [go_sem, ← hX, Xa, Ya, hr, ee, es', eq, Za, hve, hvs, Ln.beq]
    exact fin _ Zlow
  · have hXY : Y = Y' := hY
    have hYZ : Z = Y := hZ
    subst hXY hYZ
    simp only [go_sem, ← hX, Xa, Ya, hr, ee, es', eq, Za, hve, hvs, Ln.beq]
    refine cnd_go (Q := Q) (by kernel_rfl) ?_
    simp only [go_sem, ← hX, Xa, Ya, hr, ee, es', eq, Za, hve, hvs, Ln.beq]
    rw [cond_al (i := 9) (d := [])]
    rotate_left
    · kernel_rfl
    rw [cond_al (i := 10) (d := [])]
    rotate_left
    · kernel_rfl
    rw [cond_al (i := 3) (d := [6])]
    rotate_left
    · kernel_rfl
    simp only [go_sem, ← hX, Xa, Ya, hr, ee, es', eq, Za, hve, hvs, Ln.beq]
    exact fin _ Zlow
  · have hXY : Y = Y' := hY
    have hYZ : Z = Z' := hZ
    subst hXY hYZ
    simp only [go_sem, ← hX, Xa, Ya, hr, ee, es', eq, Za, hve, hvs, Ln.beq]
    refine cnd_go (Q := Q) (by kernel_rfl) ?_
    simp only [go_sem, ← hX, Xa, Ya, hr, ee, es', eq, Za, hve, hvs, Ln.beq]
    rw [cond_al (i := 10) (d := [])]
    rotate_left
    · kernel_rfl
    rw [cond_al (i := 3) (d := [6])]
    rotate_left
    · kernel_rfl
    rw [cond_al (i := 10) (d := [6])]
    rotate_left
    · kernel_rfl
    rw [cond_al (i := 3) (d := [6, 9])]
    rotate_left
    · kernel_rfl
    simp only [go_sem, ← hX, Xa, Ya, hr, ee, es', eq, Za, hve, hvs, Ln.beq]
    exact fin _ Zlow
end
end Go.Cl.U

namespace Go.Cl.U
noncomputable section
variable {σ : Sums}
set_option maxRecDepth 1000000

theorem cmp_says {a b : Ln} (ha : a.c ≠ 0) (hb : b.c ≠ 0) : cmpV a b = saysV a b a.el b.el := by
  unfold cmpV saysV
  rw [if_neg ha, if_neg hb]
  have h1 : (sh a.el b.el ≠ 0) = (∃ g ∈ a.el, g ∈ b.el) := propext ⟨fun h => by obtain ⟨x, p, q⟩ := sh_ne.1 h; exact ⟨x, p, q⟩, fun ⟨x, p, q⟩ => sh_ne.2 ⟨x, p, q⟩⟩
  simp only [h1]
theorem comp_run (hσ : ∀ f a h, f ≠ 9 → σ f a h = none) (h : H) (a b : Ln) : RetQ (.int .i64 (Int.ofNat (saysV a b a.el b.el))) ((lim Try.prog σ).call 22 [a.cv, b.cv] h) := by
  by_cases ha : a.c = 0 ∨ b.c = 0
  · obtain ⟨Q, hQ⟩ : ∃ Q, Q = RetQ (.int .i64 (Int.ofNat (saysV a b a.el b.el))) := ⟨_, rfl⟩
    rw [← hQ]
    rw [call_eq (hσ _ _ _ (by decide)) fn_22 rfl rfl, Try.ntmps22, Try.results22]
    obtain ⟨X, hX⟩ : ∃ X, X = (h.lo.alloc (.cells (newBlk [u64 a.c, u64 a.b, u64 a.h0, u64 a.h1]))).alloc (.cells (newBlk [u64 b.c, u64 b.b, u64 b.h0, u64 b.h1])) := ⟨_, rfl⟩
    have Xlow : X.low = h.nx := by rw [hX]; rfl
    have Xa : X.blk h.nx = some (newBlk [u64 a.c, u64 a.b, u64 a.h0, u64 a.h1]) := by rw [hX]; simp only [go_sem]
    have Xb : X.blk (h.nx + 1) = some (newBlk [u64 b.c, u64 b.b, u64 b.h0, u64 b.h1]) := by rw [hX]; simp only [go_sem]
    have b1 : (lim Try.prog σ).call 17 [.agg [u64 a.c, u64 a.b, u64 a.h0, u64 a.h1]] X = some (.bool (decide (a.c = 0)), none) := blank_run hσ X a
    have b2 : (lim Try.prog σ).call 17 [.agg [u64 b.c, u64 b.b, u64 b.h0, u64 b.h1]] X = some (.bool (decide (b.c = 0)), none) := blank_run hσ X b
    have fin : ∀ k : Nat, saysV a b a.el b.el = k → Q (some (fin h X (.int .i64 (Int.ofNat k)))) := fun k hk => by
      rw [hQ, fin_q _ _ _ Xlow rfl, hk]; rfl
    by_cases qa : a.c = 0
    · have da : decide (a.c = 0) = true := decide_eq_true qa
      by_cases qb : b.c = 0
      · have db : decide (b.c = 0) = true := decide_eq_true qb
        simp only [go_sem, Ln.cv_eq, ← hX, Xa, Xb, b1, b2, da, db]
        exact fin 1 (by unfold saysV; rw [if_pos qa, if_pos qb])
      · have db : decide (b.c = 0) = false := decide_eq_false qb
        simp only [go_sem, Ln.cv_eq, ← hX, Xa, Xb, b1, b2, da, db]
        exact fin 2 (by unfold saysV; rw [if_pos qa, if_neg qb])
    · have da : decide (a.c = 0) = false := decide_eq_false qa
      have qb : b.c = 0 := ha.resolve_left qa
      have db : decide (b.c = 0) = true := decide_eq_true qb
      simp only [go_sem, Ln.cv_eq, ← hX, Xa, Xb, b1, b2, da, db]
      exact fin 3 (by unfold saysV; rw [if_neg qa, if_pos qb])
  · rw [not_or] at ha
    rw [← cmp_says ha.1 ha.2]
    exact compare_run hσ h a b ha.1 ha.2

theorem par_ne {es : List (Nat × Nat)} {c p g : Nat} (h : g ≠ c) : parOf (es ++ [(c, p)]) g = parOf es g := by
  unfold parOf
  rw [List.find?_append]
  cases hf : es.find? (fun p => p.1 == g) with
  | some y => rfl
  | none =>
    have : ¬ c = g := fun e => h e.symm
    simp [this]
theorem Way.ext {es : List (Nat × Nat)} {c p g : Nat} {ws : List Nat} (W : Way es g ws) (hg : g ≠ c) (hw : ∀ w ∈ ws, w ≠ c) : Way (es ++ [(c, p)]) g ws := by
  have hc : ∀ i, i ≤ ws.length → curW g ws i ≠ c := fun i hi => by
    cases i with
    | zero => exact hg
    | succ i =>
      have : i < ws.length := by omega
      show ws[i]?.getD 0 ≠ c
      rw [List.getElem?_eq_getElem this]
      exact hw _ (List.getElem_mem _)
  refine ⟨fun i hi => ?_, ?_⟩
  · rw [par_ne (hc i (by omega))]; exact W.at_ i hi
  · rw [par_ne (hc _ (Nat.le_refl _))]; exact W.end_
theorem Way.has {es : List (Nat × Nat)} (G : Good es) {g : Nat} {ws : List Nat} (W : Way es g ws) : ∀ (i w : Nat), ws[i]? = some w → hasOf es w = true := fun i w hw => by
  have hi := (List.getElem?_eq_some_iff.1 hw).1
  obtain ⟨h1, h2⟩ := W.at_ i hi
  rw [hw] at h1
  cases h1
  have hh : hasOf es (curW g ws i) = true := by
    cases q : hasOf es (curW g ws i) with
    | true => rfl
    | false => exact absurd (parOf_no q) h2
  exact (G.par _ hh h2).1
/-- a line fits -/
def FitW (es : List (Nat × Nat)) (l : Ln) (ws : List Nat) : Prop := Way es l.c ws ∧ (l.c ≠ 0 → hasOf es l.c = true ∧ l.el = ws.take l.el.length)
def Fit (es : List (Nat × Nat)) (l : Ln) : Prop := ∃ ws, FitW es l ws
theorem Fit.grow {es : List (Nat × Nat)} (G : Good es) {l : Ln} (F : Fit es l) {c p : Nat} (hc : hasOf es c = false) (hc0 : c ≠ 0) : Fit (es ++ [(c, p)]) l := by
  obtain ⟨ws, W, hl⟩ := F
  refine ⟨ws, W.ext ?_ ?_, fun h0 => ?_⟩
  · rintro rfl
    by_cases h0 : l.c = 0
    · exact hc0 h0
    · rw [(hl h0).1] at hc; cases hc
  · rintro w hw rfl
    obtain ⟨i, hi, e⟩ := List.getElem_of_mem hw
    have := W.has G i w (by rw [List.getElem?_eq_getElem hi, e])
    rw [this] at hc; cases hc
  · obtain ⟨h1, h2⟩ := hl h0
    exact ⟨by rw [has_snoc, h1]; rfl, h2⟩
theorem Fit.alone {es : List (Nat × Nat)} (G : Good es) {l : Ln} (F : Fit es l) {d : Nat} (h0 : l.c ≠ 0) (hb : l.b = 0) (hd : hasOf es d = false) (hd0 : d ≠ 0) : Fit (es ++ [(d, l.c)]) (alone l d) := by
  obtain ⟨ws, W, hl⟩ := F
  obtain ⟨hh, hel⟩ := hl h0
  have hne : l.c ≠ d := by rintro e; rw [e, hd] at hh; cases hh
  have hp : parOf (es ++ [(d, l.c)]) d = l.c := par_snoc_new hd rfl
  have W' : Way (es ++ [(d, l.c)]) l.c ws := W.ext hne (by
    rintro w hw rfl
    obtain ⟨i, hi, e⟩ := List.getElem_of_mem hw
    have := W.has G i w (by rw [List.getElem?_eq_getElem hi, e])
    rw [this] at hd; cases hd)
  have ea : Go.Cl.U.alone l d = ⟨d, l.c, l.h0, l.h1⟩ := by unfold Go.Cl.U.alone; rw [if_pos hb]
  have e1 : l.el = nz [l.h0, l.h1] := by unfold Ln.el; rw [hb]; simp [nz]
  have e2 : (Go.Cl.U.alone l d).el = l.c :: l.el := by rw [ea, e1]; unfold Ln.el; simp [nz, h0]
  refine ⟨l.c :: ws, ?_, fun _ => ?_⟩
  · have := Way.cons (es := es ++ [(d, l.c)]) (g := d) (ws := ws) (by rw [hp]; exact h0) (by rw [hp]; exact W')
    rw [hp] at this
    rw [ea]; exact this
  · rw [e2]
    refine ⟨?_, ?_⟩
    · rw [ea, has_snoc]; simp
    · rw [List.length_cons, List.take_succ_cons, ← hel]
theorem Fit.ended {es : List (Nat × Nat)} {l : Ln} (F : Fit es l) : Fit es (ended l) := by
  obtain ⟨ws, W, hl⟩ := F
  by_cases hb : l.b = 0
  · have : Go.Cl.U.ended l = l := by unfold Go.Cl.U.ended; rw [if_pos hb]
    rw [this]; exact ⟨ws, W, hl⟩
  · have ea : Go.Cl.U.ended l = ⟨l.c, 0, l.b, l.h0⟩ := by unfold Go.Cl.U.ended; rw [if_neg hb]
    have e1 : l.el = (Go.Cl.U.ended l).el ++ nz [l.h1] := by
      rw [ea]; unfold Ln.el nz
      rw [show [l.b, l.h0, l.h1] = [l.b, l.h0] ++ [l.h1] from rfl, List.filter_append]
      simp
    refine ⟨ws, by rw [ea]; exact W, fun h0 => ?_⟩
    have h0' : l.c ≠ 0 := by rw [ea] at h0; exact h0
    obtain ⟨h1, h2⟩ := hl h0'
    refine ⟨by rw [ea]; exact h1, ?_⟩
    have h3 : (Go.Cl.U.ended l).el = l.el.take (Go.Cl.U.ended l).el.length := by
      have hx : ((Go.Cl.U.ended l).el ++ nz [l.h1]).take (Go.Cl.U.ended l).el.length = (Go.Cl.U.ended l).el := by simp
      rw [← e1] at hx; exact hx.symm
    have hle : (Go.Cl.U.ended l).el.length ≤ l.el.length := by rw [e1]; simp
    rw [h3, h2, List.length_take, List.length_take, List.take_take]
    rw [h2] at hle
    congr 1
    simp at hle ⊢
    omega
theorem grow_app : ∀ (l1 l2 es : List (Nat × Nat)), (growN es l1).1 = 0 → growN es (l1 ++ l2) = growN (growN es l1).2 l2
  | [], l2, es, _ => rfl
  | (p, c) :: l1, l2, es, h => by
    unfold growN at h
    show growN es ((p, c) :: (l1 ++ l2)) = _
    rw [growN]
    by_cases h1 : c = 0 ∨ hasOf es c = true
    · rw [if_pos h1] at h; cases h
    · rw [if_neg h1] at h
      by_cases h2 : hasOf es p = false
      · rw [if_pos h2] at h; cases h
      · rw [if_neg h2] at h
        rw [if_neg h1, if_neg h2, grow_app l1 l2 _ h]
        congr 1
        rw [growN, if_neg h1, if_neg h2]
/-- all that holds of four lines and what was born -/
structure LInv (ls : List Ln) (draw : Nat) (bs es : List (Nat × Nat)) : Prop where
  len : ls.length = 4
  grown : growN [(1, 0)] bs = (0, es)
  good : Good es
  low : 1 ≤ draw
  fresh : ∀ g, hasOf es g = true → g ≤ draw
  zero : hasOf es 0 = false
  fit : ∀ l ∈ ls, Fit es l
theorem LInv.start : LInv [⟨1, 0, 0, 0⟩, ⟨1, 0, 0, 0⟩, ⟨1, 0, 0, 0⟩, ⟨1, 0, 0, 0⟩] 1 [] [(1, 0)] := by
  have G : Good [(1, 0)] := ⟨fun g hg hn => by
    have e : 1 = g := by simpa [hasOf] using hg
    exact absurd (by simp [parOf, e]) hn⟩
  have F : Fit [(1, 0)] ⟨1, 0, 0, 0⟩ := ⟨[], Way.nil rfl, fun _ => ⟨rfl, rfl⟩⟩
  exact ⟨rfl, rfl, G, Nat.le_refl _, fun g hg => by have e : 1 = g := by simpa [hasOf] using hg
                                                    omega, rfl, fun l hl => by
    simp at hl; rw [hl]; exact F⟩
theorem LInv.set {ls : List Ln} {draw : Nat} {bs es : List (Nat × Nat)} (I : LInv ls draw bs es) {l : Ln} (F : Fit es l) (i : Nat) : LInv (ls.set i l) draw bs es :=
  ⟨by rw [List.length_set]; exact I.len, I.grown, I.good, I.low, I.fresh, I.zero, fun x hx => by
    rcases List.mem_or_eq_of_mem_set hx with h | h
    · exact I.fit x h
    · rw [h]; exact F⟩
theorem LInv.draw {ls : List Ln} {draw : Nat} {bs es : List (Nat × Nat)} (I : LInv ls draw bs es) : LInv ls (draw + 1) bs es :=
  ⟨I.len, I.grown, I.good, by have := I.low; omega, fun g hg => by have := I.fresh g hg; omega, I.zero, I.fit⟩
theorem LInv.blank {ls : List Ln} {draw : Nat} {bs es : List (Nat × Nat)} (I : LInv ls draw bs es) : Fit es ⟨0, 0, 0, 0⟩ := ⟨[], Way.nil (parOf_no I.zero), fun h => absurd rfl h⟩
theorem LInv.born {ls : List Ln} {draw : Nat} {bs es : List (Nat × Nat)} (I : LInv ls draw bs es) {i : Nat} {l : Ln} (hl : ls[i]? = some l) (h0 : l.c ≠ 0) (hb : l.b = 0) : LInv (ls.set i (alone l (draw + 1))) (draw + 1) (bs ++ [(l.c, draw + 1)]) (es ++ [(draw + 1, l.c)]) := by
  have hm := List.mem_of_getElem? hl
  have hd : hasOf es (draw + 1) = false := by
    cases q : hasOf es (draw + 1) with
    | false => rfl
    | true => have := I.fresh _ q; omega
  obtain ⟨ws, W, hw⟩ := I.fit l hm
  have hh := (hw h0).1
  have g1 : (growN [(1, 0)] bs).1 = 0 := by rw [I.grown]
  refine ⟨by rw [List.length_set]; exact I.len, ?_, I.good.snoc hd hh, by omega, fun g hg => ?_, by rw [has_snoc, I.zero]; simp, fun x hx => ?_⟩
  · rw [grow_app _ _ _ g1, I.grown]
    show growN es [(l.c, draw + 1)] = _
    rw [growN, if_neg (by simp [hd]), if_neg (by simp [hh]), growN]
  · rw [has_snoc] at hg
    cases q : hasOf es g with
    | true => have := I.fresh g q; omega
    | false =>
      rw [q] at hg
      have : draw + 1 = g := by simpa using hg
      omega
  · rcases List.mem_or_eq_of_mem_set hx with h | h
    · exact (I.fit x h).grow I.good hd (by omega)
    · rw [h]; exact Fit.alone I.good (I.fit l hm) h0 hb hd (by omega)
end
end Go.Cl.U
