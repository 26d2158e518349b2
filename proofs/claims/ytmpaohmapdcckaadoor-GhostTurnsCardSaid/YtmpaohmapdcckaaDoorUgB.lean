/- The program's functions, run by the rewriting evaluator: what each answers and leaves (UgB). -/
import Derived.Test.YtmpaohmapdcckaaDoorUgA
set_option linter.all false
open Go Go.Cl Go.Proofs
namespace Go.Cl.U
noncomputable section
variable {σ : Sums}
set_option maxRecDepth 1000000
set_option maxHeartbeats 4000000

/-- births: a parent, a child; an error's number (0: none), and the tree -/
def growN : List (Nat × Nat) → List (Nat × Nat) → Nat × List (Nat × Nat)
  | es, [] => (0, es)
  | es, (p, c) :: l => if c = 0 ∨ hasOf es c = true then (2, []) else if hasOf es p = false then (6, []) else growN (es ++ [(c, p)]) l
def ofN (first : Nat) (l : List (Nat × Nat)) : Nat × List (Nat × Nat) := if first = 0 then (2, []) else growN [(first, 0)] l
def bcs (l : List (Nat × Nat)) : List CV := l.flatMap fun p => [u64 p.1, u64 p.2]
theorem bcs_get : ∀ (l : List (Nat × Nat)) (i : Nat) (p c : Nat), l[i]? = some (p, c) → nth (bcs l) (i * 2 + 0) = some (u64 p) ∧ nth (bcs l) (i * 2 + 1) = some (u64 c)
  | [], i, p, c, h => by simp at h
  | a :: l, 0, p, c, h => by
    simp at h; subst h; exact ⟨rfl, rfl⟩
  | a :: l, i + 1, p, c, h => by
    have ih := bcs_get l i p c (by simpa using h)
    refine ⟨?_, ?_⟩
    · have : (i + 1) * 2 + 0 = i * 2 + 0 + 1 + 1 := by omega
      rw [this]; exact ih.1
    · have : (i + 1) * 2 + 1 = i * 2 + 1 + 1 + 1 := by omega
      rw [this]; exact ih.2
/-- what Of answers -/
def OfQ (h : H) (r : Nat × List (Nat × Nat)) (o : Option (CV × Option H)) : Prop :=
  (r.1 ≠ 0 ∧ o = some (.tup [.nilp, .int .i64 (Int.ofNat r.1)], none)) ∨
  (r.1 = 0 ∧ ∃ t h', o = some (.tup [.ptr t 0, .int .i64 0], some h') ∧ TreeAt h' t r.2 ∧ Ext h h' ∧ h'.low = min h.low h.nx)
structure TreeX (h : H) (lo t m : Nat) (es : List (Nat × Nat)) : Prop where
  pos : 0 < es.length
  lt : t < h.nx
  ltm : m < h.nx
  ne : t ≠ m
  blk : ∃ b M c s lid, h.blk t = some b ∧ b.ro = false ∧ b.n = 2 ∧ b.get 0 = some (.map m) ∧ b.get 1 = some s ∧ h.t.get m = some (.map M c) ∧ MapIs M es ∧ NL h s lid (es.map Prod.fst) ∧ lid ≠ t ∧ lid ≠ m ∧ lo ≤ lid
theorem TreeX.at_ {h : H} {lo t m : Nat} {es : List (Nat × Nat)} (T : TreeX h lo t m es) : TreeAt h t es := by
  obtain ⟨b, M, c, s, lid, q1, q2, q3, q4, q5, q6, q7, q8, q9, q10, _⟩ := T.blk
  exact ⟨T.pos, T.lt, b, m, M, c, s, lid, q1, q2, q3, q4, q5, T.ltm, q6, q7, q8, q9, T.ne, q10⟩
theorem TreeX.ext {h h' : H} {lo t m : Nat} {es : List (Nat × Nat)} (T : TreeX h lo t m es) (E : Ext h h') : TreeX h' lo t m es := by
  obtain ⟨b, M, c, s, lid, q1, q2, q3, q4, q5, q6, q7, q8, q9, q10⟩ := T.blk
  exact ⟨T.pos, Nat.lt_of_lt_of_le T.lt E.nx, Nat.lt_of_lt_of_le T.ltm E.nx, T.ne, b, M, c, s, lid, (E.blk T.lt).trans q1, q2, q3, q4, q5, (E.old m T.ltm).trans q6, q7, q8.ext E, q9, q10⟩
theorem NL.beq {h : H} {s : CV} {lid : Nat} {ns : List Nat} (N : NL h s lid ns) : beqC s s = true := by
  rcases N.val with rfl | rfl <;> simp [beqC]
theorem of_run (hσ : ∀ f a h, f ≠ 5 → σ f a h = none) {h : H} {v : CV} {first : Nat} {l : List (Nat × Nat)} (A : Sl Tryd.prog 23 h v 2 l.length (bcs l)) (hl : l.length ≤ 60) (hlow : h.low ≤ h.nx) :
    OfQ h (ofN first l) ((lim Tryd.prog σ).call 6 [u64 first, v] h) := by
  obtain ⟨Q, hQ⟩ : ∃ Q, Q = OfQ h (ofN first l) := ⟨_, rfl⟩
  rw [← hQ]
  rw [call_eq (hσ _ _ _ (by decide)) fn_6 rfl rfl, Tryd.ntmps6, Tryd.results6]
  have l0 : CV.int .u64 0 = u64 0 := rfl
  have Alen := A.len
  by_cases qf : first = 0
  · have df : decide (first = 0) = true := decide_eq_true qf
    simp only [go_sem, l0, eq64, df]
    rw [hQ, fin_q _ _ _ rfl rfl]
    have e : ofN first l = (2, []) := by unfold ofN; rw [if_pos qf]
    exact .inl ⟨by rw [e]; decide, by rw [e]; rfl⟩
  have df : decide (first = 0) = false := decide_eq_false qf
  have hof : ofN first l = growN [(first, 0)] l := by unfold ofN; rw [if_neg qf]
  simp only [go_sem, l0, eq64, df]
  have up0 := update_new (h := h.lo.alloc (.map [] 0)) (m := h.nx) (M := []) (es := []) (mp_of (alloc_get_same _ _ _ rfl)) rfl (g := first) 0 rfl
  simp only [List.nil_append] at up0
  obtain ⟨X1, hX1⟩ : ∃ X, X = (h.lo.alloc (.map [] 0)).put h.nx (.map [(u64 first, u64 0, 0)] (0 + 1)) := ⟨_, rfl⟩
  rw [← hX1] at up0
  have X1nx : X1.nx = h.nx + 1 := by rw [hX1]; rfl
  have X1low : X1.low = h.nx := by rw [hX1]; simp only [go_sem]; omega
  have X1E : Ext h X1 := by rw [hX1]; exact ((Ext.lo h).alloc' _).put _ (Nat.le_refl _)
  have X1m : X1.t.get h.nx = some (.map [(u64 first, u64 0, 0)] (0 + 1)) := by rw [hX1]; exact put_get_same _ _ _
  simp only [go_sem, l0, eq64, df, up0, X1nx]
  obtain ⟨X2, hX2⟩ : ∃ X, X = X1.alloc (.cells ({ n := 1, d := [u64 0], t := T.nil : Blk }.st 0 (u64 first))) := ⟨_, rfl⟩
  obtain ⟨X3, hX3⟩ : ∃ X, X = X2.alloc (.cells (newBlk [.map h.nx, .sl (h.nx + 1) 0 1 (.exact 1)])) := ⟨_, rfl⟩
  have X2nx : X2.nx = h.nx + 2 := by rw [hX2, alloc_nx]; omega
  have X3nx : X3.nx = h.nx + 3 := by rw [hX3, alloc_nx]; omega
  have X3low : X3.low = h.nx := by rw [hX3, hX2]; exact X1low
  have E12 : Ext X1 X2 := by rw [hX2]; exact (Ext.refl X1).alloc' _
  have E23 : Ext X2 X3 := by rw [hX3]; exact (Ext.refl X2).alloc' _
  have X3E : Ext h X3 := (X1E.trans E12).trans E23
  have T0 : TreeX X3 h.nx (h.nx + 2) h.nx [(first, 0)] := by
    refine ⟨Nat.zero_lt_one, by omega, by omega, by omega, newBlk [.map h.nx, .sl (h.nx + 1) 0 1 (.exact 1)], [(u64 first, u64 0, 0)], 0 + 1, .sl (h.nx + 1) 0 1 (.exact 1), h.nx + 1, ?_, rfl, rfl, rfl, rfl, ?_, rfl, ?_, by omega, by omega, by omega⟩
    · rw [hX3]; exact alloc_blk_same _ _ _ X2nx.symm
    · rw [E23.old _ (by omega), E12.old _ (by omega)]; exact X1m
    · refine ⟨Nat.zero_lt_one, .inl rfl, by omega, _, (E23.blk (by omega)).trans (by rw [hX2]; exact alloc_blk_same _ _ _ X1nx.symm), rfl, rfl, fun i x hx => ?_⟩
      cases i with
      | zero => simp at hx; subst hx; rfl
      | succ i => simp at hx
  simp only [go_sem, l0, eq64, df, up0, X1nx, ← hX2, X2nx, ← hX3, Alen]
  refine loop_ind (Q := Q) (fun i env h' => evT env 6 = .ptr (h.nx + 2) 0 ∧ evT env 18 = v ∧ evT env 19 = .int .i64 (Int.ofNat l.length) ∧ evT env 20 = .int .i64 (Int.ofNat i) ∧ ∃ es, growN [(first, 0)] l = growN es (l.drop i) ∧ TreeX h' h.nx (h.nx + 2) h.nx es ∧ es.length = i + 1 ∧ Ext h h' ∧ h'.low = h.nx) l.length 0 ?_ (Nat.zero_le _) ?_ ?_
  · exact ⟨by simp only [go_sem], by simp only [go_sem], by simp only [go_sem], by simp only [go_sem]; rfl, [(first, 0)], by rw [List.drop_zero], by rw [hX3, hX2] at T0; simp only [go_sem]; exact T0, rfl, by rw [hX3, hX2] at X3E; simp only [go_sem]; exact X3E, by rw [hX3, hX2] at X3low; simp only [go_sem]; exact X3low⟩
  · rintro i env h' ⟨e6, e18, e19, e20, es, hg, T, hes, E, hlw⟩ hi next
    have c0 := ofNat_lt hi
    have w1 := wrap_succ (i := i) (by omega)
    obtain ⟨⟨p, c⟩, hpc⟩ : ∃ x, l[i]? = some x := ⟨_, List.getElem?_eq_getElem hi⟩
    obtain ⟨id, off, bb, ei, hid, hb, hro, hcell⟩ := A.elt i hi
    obtain ⟨n1, n2⟩ := bcs_get l i p c hpc
    have g0 := hcell 0 _ (by decide) n1
    rw [Nat.add_zero] at g0
    have g1 := hcell 1 _ (by decide) n2
    have hb' : h'.blk id = some bb := (E.blk hid).trans hb
    have hdr : l.drop i = (p, c) :: l.drop (i + 1) := by
      rw [List.drop_eq_getElem_cons hi]; congr 1; exact (List.getElem?_eq_some_iff.1 hpc).2
    rw [hdr] at hg
    simp only [go_sem, e6, e18, e19, e20, c0, ei, hb', g0, g1, l0, eq64]
    by_cases qc : c = 0
    · have dc : decide (c = 0) = true := decide_eq_true qc
      simp only [go_sem, e6, e18, e19, e20, c0, ei, hb', g0, g1, l0, eq64, dc]
      rw [hQ, hof, hg, fin_q _ _ _ (by have := E.nx; simp only [go_sem]; omega) rfl]
      have e : growN es ((p, c) :: l.drop (i + 1)) = (2, []) := by rw [growN, if_pos (.inl qc)]
      rw [e]
      exact .inl ⟨by decide, rfl⟩
    have dc : decide (c = 0) = false := decide_eq_false qc
    simp only [go_sem, e6, e18, e19, e20, c0, ei, hb', g0, g1, l0, eq64, dc]
    obtain ⟨Y, hY⟩ : ∃ Y, Y = (h'.alloc (.cells (newBlk [u64 0, u64 0]))).put h'.nx (.cells (((newBlk [u64 0, u64 0]).st 0 (u64 p)).st 1 (u64 c))) := ⟨_, rfl⟩
    have hn := E.nx
    have Ynx : Y.nx = h'.nx + 1 := by rw [hY]; rfl
    have Ylow : Y.low = h.nx := by rw [hY]; simp only [go_sem]; omega
    have YE : Ext h' Y := by rw [hY]; exact ((Ext.refl h').alloc' _).put _ (Nat.le_refl _)
    have Yb : Y.blk h'.nx = some (((newBlk [u64 0, u64 0]).st 0 (u64 p)).st 1 (u64 c)) := by rw [hY]; exact put_blk_same _ _ _
    have TY := T.ext YE
    have hc : (lim Tryd.prog σ).call 12 [.ptr (h.nx + 2) 0, u64 c] Y = some (.bool (hasOf es c), none) := has_run hσ TY.at_ c
    have hp : (lim Tryd.prog σ).call 12 [.ptr (h.nx + 2) 0, u64 p] Y = some (.bool (hasOf es p), none) := has_run hσ TY.at_ p
    have gb0 : (((newBlk [u64 0, u64 0]).st 0 (u64 p)).st 1 (u64 c)).get 0 = some (u64 p) := rfl
    have gb1 : (((newBlk [u64 0, u64 0]).st 0 (u64 p)).st 1 (u64 c)).get 1 = some (u64 c) := rfl
    cases hhc : hasOf es c with
    | true =>
      rw [hhc] at hc
      simp only [go_sem, ← hY, dc, e6, e18, e19, e20, w1, hc]
      rw [hQ, hof, hg, fin_q _ _ _ Ylow rfl]
      have e : growN es ((p, c) :: l.drop (i + 1)) = (2, []) := by rw [growN, if_pos (.inr hhc)]
      rw [e]
      exact .inl ⟨by decide, rfl⟩
    | false =>
      rw [hhc] at hc
      simp only [go_sem, ← hY, dc, e6, e18, e19, e20, w1, hc, Yb, gb0, gb1]
      cases hhp : hasOf es p with
      | false =>
        rw [hhp] at hp
        simp only [go_sem, ← hY, dc, e6, e18, e19, e20, w1, hc, hp, Yb, gb0, gb1]
        rw [hQ, hof, hg, fin_q _ _ _ Ylow rfl]
        have e : growN es ((p, c) :: l.drop (i + 1)) = (6, []) := by rw [growN, if_neg (by simp [qc, hhc]), if_pos hhp]
        rw [e]
        exact .inl ⟨by decide, rfl⟩
      | true =>
        rw [hhp] at hp
        obtain ⟨tb, M, k, s, lid, q1, q2, q3, q4, q5, q6, q7, q8, q9, q10, q11⟩ := T.blk
        have lidlt := q8.lt
        have q1 := (YE.blk T.lt).trans q1
        have q6 := (YE.old _ T.ltm).trans q6
        have q8 := q8.ext YE
        have up := update_new (mp_of q6) q7 p hhc
        obtain ⟨Z, hZ⟩ : ∃ Z, Z = Y.put h.nx (.map (M ++ [(u64 c, u64 p, k)]) (k + 1)) := ⟨_, rfl⟩
        rw [← hZ] at up
        have Znx : Z.nx = Y.nx := by rw [hZ]; rfl
        have Zlow : Z.low = h.nx := by rw [hZ]; show min Y.low h.nx = h.nx; omega
        have Zt : Z.blk (h.nx + 2) = some tb := by rw [hZ]; exact (blk_eq (put_get_ne _ _ _ _ (by omega))).trans q1
        have Zb : Z.blk h'.nx = some (((newBlk [u64 0, u64 0]).st 0 (u64 p)).st 1 (u64 c)) := by rw [hZ]; exact (blk_eq (put_get_ne _ _ _ _ (by have := T.ltm; omega))).trans Yb
        have Zm : Z.t.get h.nx = some (.map (M ++ [(u64 c, u64 p, k)]) (k + 1)) := by rw [hZ]; exact put_get_same _ _ _
        have ZN : NL Z s lid (es.map Prod.fst) := q8.mono (by omega) (by rw [hZ]; exact blk_eq (put_get_ne _ _ _ _ q10))
        simp only [go_sem, ← hY, dc, e6, e18, e19, e20, w1, hc, hp, Yb, gb0, gb1, q1, q4, q5]
        refine cnd_go (Q := Q) (by kernel_rfl) ?_
        simp only [go_sem, ← hY, dc, e6, e18, e19, e20, w1, hc, hp, Yb, gb0, gb1, q1, q4, q5, up]
        refine cnd_go (Q := Q) (by kernel_rfl) ?_
        refine quiet_go (Q := Q) (by kernel_rfl) ?_
        simp only [go_sem, ← hY, e18, e19, e20, w1, Zt, Zb, gb0, gb1, q4, q5, e6]
        refine cnd_go (Q := Q) (by kernel_rfl) ?_
        simp only [go_sem, ← hY, e18, e19, e20, w1, Zt, Zb, gb0, gb1, q4, q5, e6]
        obtain ⟨V, hV⟩ : ∃ V, V = Z.alloc (.cells ({ n := 1, d := [CV.int IntKind.u64 0], t := Cl.T.nil : Blk }.st 0 (u64 c))) := ⟨_, rfl⟩
        have Vnx : V.nx = Z.nx + 1 := by rw [hV]; rfl
        have Vlow : V.low = h.nx := by rw [hV]; exact Zlow
        have VE : Ext Z V := by rw [hV]; exact (Ext.refl Z).alloc' _
        have tlt := TY.lt
        have mlt := TY.ltm
        obtain ⟨U, hU, UN, Unx, Ugn, Uold, Ulow⟩ := (ZN.ext VE).app c (by rw [List.length_map]; omega)
        rw [List.length_map] at hU UN
        have Ub : U.blk h'.nx = some (((newBlk [u64 0, u64 0]).st 0 (u64 p)).st 1 (u64 c)) := (blk_eq (Uold _ (by omega) (by omega))).trans ((VE.blk (by omega)).trans Zb)
        have Ut : U.blk (h.nx + 2) = some tb := (blk_eq (Uold _ (by omega) (by omega))).trans ((VE.blk (by omega)).trans Zt)
        have Um : U.t.get h.nx = some (.map (M ++ [(u64 c, u64 p, k)]) (k + 1)) := (Uold _ (by omega) (by omega)).trans ((VE.old _ (by omega)).trans Zm)
        have Vt : V.blk (h.nx + 2) = some tb := (VE.blk (by omega)).trans Zt
        have Vb : V.blk h'.nx = some (((newBlk [u64 0, u64 0]).st 0 (u64 p)).st 1 (u64 c)) := (VE.blk (by omega)).trans Zb
        simp only [go_sem, ← hY, e18, e19, e20, w1, Zt, Zb, gb0, gb1, q4, q5, ← hV, hU, Ut, q2, q3]
        have hsb := ZN.beq
        refine cnd_go (Q := Q) (by kernel_rfl) ?_
        simp only [go_sem, ← hY, e6, e18, e19, e20, w1, Zt, Zb, Vt, Vb, Ut, Ub, gb0, gb1, q2, q3, q4, q5, ← hV, hU, hsb]
        rw [cond_al (i := 4) (d := [7, 8, 11])]
        rotate_left
        · kernel_rfl
        rw [cond_al (i := 6) (d := [7, 8, 11])]
        rotate_left
        · kernel_rfl
        simp only [go_sem, ← hY, e6, e18, e19, e20, w1, Zt, Zb, Vt, Vb, Ut, Ub, gb0, gb1, q2, q3, q4, q5, ← hV, hU, hsb]
        refine next _ _ ⟨by simp only [go_sem, e6], by simp only [go_sem, e18], by simp only [go_sem, e19], by simp only [go_sem, w1], es ++ [(c, p)], ?_, ?_, by simp [hes], ?_, ?_⟩
        · rw [hg, growN, if_neg (by simp [qc, hhc]), if_neg (by simp [hhp])]
        · have gs : (tb.st 1 (.sl V.nx 0 (es.length + 1) (.opn 1))).get 1 = some (.sl V.nx 0 (es.length + 1) (.opn 1)) := st_get_same _ _ _ (by omega)
          have gm : (tb.st 1 (.sl V.nx 0 (es.length + 1) (.opn 1))).get 0 = some (.map h.nx) := (st_get_ne _ _ _ _ (by decide)).trans q4
          refine ⟨by simp, by simp only [go_sem]; omega, by simp only [go_sem]; omega, T.ne, _, _, _, _, V.nx, put_blk_same _ _ _, by simp only [go_sem, q2], by simp only [go_sem, q3], gm, gs, (put_get_ne _ _ _ _ (by omega)).trans Um, q7.snoc c p k, ?_, by omega, by omega, by omega⟩
          rw [List.map_append]
          exact UN.mono (by simp only [go_sem]; omega) (put_blk_ne _ _ _ _ (by omega))
        · refine ⟨by simp only [go_sem]; omega, by simp only [go_sem]; rw [Ugn, hV]; show Z.gn = h.gn; rw [hZ, hY]; exact E.gn, fun id hid => ?_⟩
          refine (put_get_ne U (h.nx + 2) _ id (by omega)).trans ?_
          rw [Uold id (by omega) (by omega), VE.old id (by omega), hZ, put_get_ne _ _ _ _ (by omega), YE.old id (by omega)]
          exact E.old id hid
        · simp only [go_sem]; rcases Ulow with h1 | h1 <;> omega
  · rintro env h' ⟨e6, e18, e19, e20, es, hg, T, hes, E, hlw⟩
    have c0 := ofNat_nlt (Nat.le_refl l.length)
    rw [List.drop_length] at hg
    simp only [go_sem, e6, e18, e19, e20, c0]
    rw [hQ, hof, hg, fin_new _ _ _ (by simp [okB, okBL, blt_eq'])]
    exact .inr ⟨rfl, _, _, rfl, T.at_.ext (Ext.up _ _), E.up' _, by show min h.low h'.low = _; rw [hlw]⟩
end
end Go.Cl.U

namespace Go.Cl.U
noncomputable section

def rk (es : List (Nat × Nat)) (g : Nat) : Nat := es.findIdx fun p => p.1 == g
structure Good (es : List (Nat × Nat)) : Prop where
  par : ∀ g, hasOf es g = true → parOf es g ≠ 0 → hasOf es (parOf es g) = true ∧ rk es (parOf es g) < rk es g
theorem rk_lt {es : List (Nat × Nat)} {g : Nat} : hasOf es g = true ↔ rk es g < es.length := by
  unfold hasOf rk
  rw [List.findIdx_lt_length, List.any_eq_true]
theorem has_snoc (es : List (Nat × Nat)) (c p g : Nat) : hasOf (es ++ [(c, p)]) g = (hasOf es g || c == g) := by
  unfold hasOf; simp
theorem rk_snoc_old {es : List (Nat × Nat)} {c p g : Nat} (h : hasOf es g = true) : rk (es ++ [(c, p)]) g = rk es g := by
  have := rk_lt.1 h
  unfold rk at this ⊢
  rw [List.findIdx_append, if_pos this]
theorem rk_snoc_new {es : List (Nat × Nat)} {c p g : Nat} (h : hasOf es g = false) (e : c = g) : rk (es ++ [(c, p)]) g = es.length := by
  have : ¬ rk es g < es.length := fun q => by rw [rk_lt.2 q] at h; cases h
  unfold rk at this ⊢
  rw [List.findIdx_append, if_neg this]
  simp [List.findIdx_cons, e]
theorem par_snoc_old {es : List (Nat × Nat)} {c p g : Nat} (h : hasOf es g = true) : parOf (es ++ [(c, p)]) g = parOf es g := by
  unfold hasOf at h
  unfold parOf
  rw [List.find?_append]
  obtain ⟨x, hx, hp⟩ := List.any_eq_true.1 h
  cases hf : es.find? (fun p => p.1 == g) with
  | some y => rfl
  | none => exact absurd hp (by simpa using List.find?_eq_none.1 hf x hx)
theorem par_snoc_new {es : List (Nat × Nat)} {c p g : Nat} (h : hasOf es g = false) (e : c = g) : parOf (es ++ [(c, p)]) g = p := by
  unfold hasOf at h
  unfold parOf
  rw [List.find?_append]
  have : es.find? (fun p => p.1 == g) = none := by
    rw [List.find?_eq_none]; intro x hx
    have := List.any_eq_false.1 h x hx
    simpa using this
  rw [this]
  simp [e]
theorem Good.snoc {es : List (Nat × Nat)} (G : Good es) {c p : Nat} (hc : hasOf es c = false) (hp : hasOf es p = true) : Good (es ++ [(c, p)]) := by
  refine ⟨fun g hg hn => ?_⟩
  rw [has_snoc] at hg
  cases hgo : hasOf es g with
  | true =>
    rw [par_snoc_old hgo] at hn ⊢
    obtain ⟨h1, h2⟩ := G.par g hgo hn
    rw [has_snoc, h1, rk_snoc_old h1, rk_snoc_old hgo]
    exact ⟨rfl, h2⟩
  | false =>
    rw [hgo] at hg
    have e : c = g := by simpa using hg
    rw [par_snoc_new hgo e] at hn ⊢
    rw [has_snoc, hp, rk_snoc_old hp, rk_snoc_new hgo e]
    exact ⟨rfl, rk_lt.1 hp⟩
theorem grow_good : ∀ (l es : List (Nat × Nat)), Good es → (growN es l).1 = 0 → Good (growN es l).2
  | [], es, G, _ => G
  | (p, c) :: l, es, G, h => by
    unfold growN at h ⊢
    by_cases h1 : c = 0 ∨ hasOf es c = true
    · rw [if_pos h1] at h; cases h
    · rw [if_neg h1] at h ⊢
      by_cases h2 : hasOf es p = false
      · rw [if_pos h2] at h; cases h
      · rw [if_neg h2] at h ⊢
        exact grow_good l _ (G.snoc (by simpa using (not_or.1 h1).2) (by simpa using h2)) h
theorem of_good {first : Nat} {l : List (Nat × Nat)} (h : (ofN first l).1 = 0) : Good (ofN first l).2 := by
  unfold ofN at h ⊢
  by_cases hf : first = 0
  · rw [if_pos hf] at h; cases h
  · rw [if_neg hf] at h ⊢
    refine grow_good l _ ⟨fun g hg hn => ?_⟩ h
    have e : first = g := by simpa [hasOf] using hg
    exact absurd (by simp [parOf, e]) hn
theorem Way.nil {es : List (Nat × Nat)} {g : Nat} (h : parOf es g = 0) : Way es g [] := ⟨fun i hi => absurd hi (Nat.not_lt_zero i), h⟩
theorem Way.cons {es : List (Nat × Nat)} {g : Nat} {ws : List Nat} (h : parOf es g ≠ 0) (W : Way es (parOf es g) ws) : Way es g (parOf es g :: ws) := by
  have hc : ∀ i, curW g (parOf es g :: ws) (i + 1) = curW (parOf es g) ws i := fun i => by cases i <;> rfl
  refine ⟨fun i hi => ?_, ?_⟩
  · cases i with
    | zero => exact ⟨rfl, h⟩
    | succ i =>
      rw [hc]
      simpa using W.at_ i (by simpa using hi)
  · show parOf es (curW g (parOf es g :: ws) (ws.length + 1)) = 0
    rw [hc]; exact W.end_
/-- each on the way up of g stands ahead of g -/
theorem way_ex {es : List (Nat × Nat)} (G : Good es) : ∀ (n g : Nat), rk es g < n → ∃ ws, Way es g ws ∧ ∀ x ∈ ws, hasOf es x = true ∧ rk es x < rk es g ∧ hasOf es g = true
  | 0, g, h => absurd h (Nat.not_lt_zero _)
  | n + 1, g, h => by
    by_cases hz : parOf es g = 0
    · exact ⟨[], Way.nil hz, by simp⟩
    · have hg : hasOf es g = true := by
        cases q : hasOf es g with
        | true => rfl
        | false => exact absurd (parOf_no q) hz
      obtain ⟨h1, h2⟩ := G.par g hg hz
      obtain ⟨ws, W, hw⟩ := way_ex G n (parOf es g) (by omega)
      refine ⟨_, W.cons hz, fun x hx => ?_⟩
      rcases List.mem_cons.1 hx with rfl | hx
      · exact ⟨h1, h2, hg⟩
      · obtain ⟨q1, q2, _⟩ := hw x hx
        exact ⟨q1, by omega, hg⟩
def turnN (v : Nat) : Nat := [0, 1, 3, 2, 4, 6, 5, 7, 8].getD v 0
theorem says_turn (a b : Ln) {sa sb : List Nat} (h : ¬ (a.c ∈ sb ∧ b.c ∈ sa)) : saysV a b sa sb = turnN (saysV b a sb sa) := by
  unfold saysV
  have hx : (∃ g ∈ sa, g ∈ sb) ↔ (∃ g ∈ sb, g ∈ sa) := ⟨fun ⟨g, p, q⟩ => ⟨g, q, p⟩, fun ⟨g, p, q⟩ => ⟨g, q, p⟩⟩
  by_cases h1 : a.c = 0 <;> by_cases h2 : b.c = 0 <;> simp only [h1, h2, if_true, if_false] <;> try rfl
  by_cases h3 : a.c = b.c
  · rw [if_pos h3, if_pos h3.symm]; rfl
  have h3' : ¬ b.c = a.c := fun e => h3 e.symm
  by_cases h4 : a.c ∈ sb <;> by_cases h5 : b.c ∈ sa
  · exact absurd ⟨h4, h5⟩ h
  · simp only [h3, h3', h4, h5, if_true, if_false]; rfl
  · simp only [h3, h3', h4, h5, if_true, if_false]; rfl
  · by_cases h6 : ∃ g ∈ sa, g ∈ sb
    · have h7 := hx.1 h6
      simp only [h3, h3', h4, h5, h6, h7, if_true, if_false]; rfl
    · have h7 : ¬ ∃ g ∈ sb, g ∈ sa := fun q => h6 (hx.2 q)
      simp only [h3, h3', h4, h5, h6, h7, if_true, if_false]; rfl
theorem says_self (a : Ln) (sa : List Nat) : saysV a a sa sa = if a.c = 0 then 1 else 4 := by
  unfold saysV
  by_cases h : a.c = 0 <;> simp [h]
theorem says_le (a b : Ln) (sa sb : List Nat) : saysV a b sa sb ≤ 8 := by
  unfold saysV
  repeat' split
  all_goals omega
end
end Go.Cl.U

namespace Go.Cl.U
noncomputable section
variable {σ : Sums}
set_option maxRecDepth 1000000
set_option maxHeartbeats 4000000

def turnV : List Int := [0, 1, 3, 2, 4, 6, 5, 7, 8]
structure HT (h : H) : Prop where
  gn : 0 < h.gn
  nx : 0 < h.nx
  blk : ∃ b, h.blk 0 = some b ∧ ∀ i, i ≤ 8 → b.get i = some (.int .i64 (Int.ofNat (turnN i)))
theorem HT.ext {h h' : H} (g : HT h) (e : Ext h h') : HT h' := ⟨by rw [e.gn]; exact g.gn, Nat.lt_of_lt_of_le g.nx e.nx, by
  obtain ⟨b, h1, h2⟩ := g.blk
  exact ⟨b, (e.blk g.nx).trans h1, h2⟩⟩
theorem HT.tab (h : (tabH .i64 turnV).blk 0 = some (tabB .i64 turnV)) : HT (tabH .i64 turnV) := ⟨by decide, by decide, _, h, fun i hi => by
  match i, hi with
  | 0, _ => rfl
  | 1, _ => rfl
  | 2, _ => rfl
  | 3, _ => rfl
  | 4, _ => rfl
  | 5, _ => rfl
  | 6, _ => rfl
  | 7, _ => rfl
  | 8, _ => rfl
  | n + 9, h => omega⟩
theorem Sl.ext' {t : TypeId} {h h' : H} {v : CV} {size n : Nat} {cs : List CV} (S : Sl Tryd.prog t h v size n cs) (E : Ext h h') : Sl Tryd.prog t h' v size n cs := ⟨S.len, fun i hi => by
  obtain ⟨id, off, b, h1, h2, h3, h4⟩ := S.elt i hi
  exact ⟨id, off, b, h1, Nat.lt_of_lt_of_le h2 E.nx, (E.blk h2).trans h3, h4⟩⟩
theorem num_run (hσ : ∀ f a h, f ≠ 5 → σ f a h = none) (h : H) (n : Int) : RetQ (.int .i64 n) ((lim Tryd.prog σ).call 7 [.int .i64 n] h) := by
  rw [call_eq (hσ _ _ _ (by decide)) fn_7 rfl rfl, Tryd.ntmps7, Tryd.results7]
  simp only [go_sem]
  exact congrArg some (fin_q _ _ _ rfl rfl)
theorem much_run (hσ : ∀ f a h, f ≠ 5 → σ f a h = none) {h h0 : H} {v : CV} {n : Nat} {cs : List CV} (A : Sl Tryd.prog 23 h0 v 2 n cs) : RetQ (.bool (decide (60 < n))) ((lim Tryd.prog σ).call 4 [v] h) := by
  have Alen := A.len
  have e : (Int.ofNat n > 60) = (60 < n) := propext ⟨fun q => by have : (n : Int) > 60 := q; omega, fun q => by show (n : Int) > 60; omega⟩
  rw [call_eq (hσ _ _ _ (by decide)) fn_4 rfl rfl, Tryd.ntmps4, Tryd.results4]
  by_cases q : 60 < n
  · have c : Int.ofNat n > 60 := by rw [e]; exact q
    simp only [go_sem, Alen, c, decide_eq_true q]
    exact congrArg some (fin_q _ _ _ rfl rfl)
  · have c : ¬ Int.ofNat n > 60 := by rw [e]; exact q
    simp only [go_sem, Alen, c, decide_eq_false q]
    exact congrArg some (fin_q _ _ _ rfl rfl)
theorem turn_run (hσ : ∀ f a h, f ≠ 5 → σ f a h = none) {h : H} (g : HT h) {n : Nat} (hn : n ≤ 8) : RetQ (.int .i64 (Int.ofNat (turnN n))) ((lim Tryd.prog σ).call 9 [.int .i64 (Int.ofNat n)] h) := by
  obtain ⟨b, hb, hg⟩ := g.blk
  have g0 := g.gn
  have hgn := hg n hn
  have c1 : ¬ Int.ofNat n < 0 := by simp
  have c2 : ¬ Int.ofNat n ≥ 9 := by intro q; have : (n : Int) ≥ 9 := q; omega
  have n0 : n < 9 := by omega
  rw [call_eq (hσ _ _ _ (by decide)) fn_9 rfl rfl, Tryd.ntmps9, Tryd.results9]
  simp only [go_sem, ev_global, g0, c1, c2, n0, Nat.mul_one, hb, hgn]
  exact congrArg some (fin_q _ _ _ rfl rfl)
theorem turns_run (hσ : ∀ f a h, f ≠ 5 → σ f a h = none) (hk : ∀ h, (lim Tryd.prog σ).call 5 [] h = some (.bool true, none)) {h : H} {v : CV} {first : Nat} {l : List (Nat × Nat)} (g : HT h) (A : Sl Tryd.prog 23 h v 2 l.length (bcs l)) (a b : Ln) :
    Tru ((lim Tryd.prog σ).call 3 [u64 first, v, a.cv, b.cv] h) := by
  obtain ⟨Q, hQ⟩ : ∃ Q : Option (CV × Option H) → Prop, Q = Tru := ⟨_, rfl⟩
  rw [← hQ]
  rw [call_eq (hσ _ _ _ (by decide)) fn_3 rfl rfl, Tryd.ntmps3, Tryd.results3]
  obtain ⟨X, hX⟩ : ∃ X, X = (h.lo.alloc (.cells (newBlk [u64 a.c, u64 a.b, u64 a.h0, u64 a.h1]))).alloc (.cells (newBlk [u64 b.c, u64 b.b, u64 b.h0, u64 b.h1])) := ⟨_, rfl⟩
  have Xnx : X.nx = h.nx + 2 := by rw [hX]; rfl
  have Xlow : X.low = h.nx := by rw [hX]; rfl
  have XE : Ext h X := by rw [hX]; exact ((Ext.lo h).alloc' _).alloc' _
  have Xa : X.blk h.nx = some (newBlk [u64 a.c, u64 a.b, u64 a.h0, u64 a.h1]) := by rw [hX]; simp only [go_sem]
  have Xb : X.blk (h.nx + 1) = some (newBlk [u64 b.c, u64 b.b, u64 b.h0, u64 b.h1]) := by rw [hX]; simp only [go_sem]
  have mr : (lim Tryd.prog σ).call 4 [v] X = some (.bool (decide (60 < l.length)), none) := much_run hσ A
  by_cases q0 : 60 < l.length
  · rw [decide_eq_true q0] at mr
    simp only [go_sem, Ln.cv_eq, ← hX, mr, hk]
    rw [hQ]; exact tru_fin _ _
  rw [decide_eq_false q0] at mr
  have A' := Sl.ext' A XE
  have Or := of_run hσ (first := first) A' (by omega) (by omega)
  rcases Or with ⟨hne, hr⟩ | ⟨h0, t, Y, hr, T, YE, Ylow⟩
  · have nr : (lim Tryd.prog σ).call 7 [.int .i64 (Int.ofNat (ofN first l).1)] X = some (.int .i64 (Int.ofNat (ofN first l).1), none) := num_run hσ X _
    have c0 : ¬ Int.ofNat (ofN first l).1 = 0 := by simpa using hne
    simp only [go_sem, Ln.cv_eq, ← hX, mr, hk, hr, nr, c0]
    rw [hQ]; exact tru_fin _ _
  have Ynx := YE.nx
  have Ya : Y.blk h.nx = some (newBlk [u64 a.c, u64 a.b, u64 a.h0, u64 a.h1]) := (YE.blk (by omega)).trans Xa
  have Yb : Y.blk (h.nx + 1) = some (newBlk [u64 b.c, u64 b.b, u64 b.h0, u64 b.h1]) := (YE.blk (by omega)).trans Xb
  have nr : (lim Tryd.prog σ).call 7 [.int .i64 0] Y = some (.int .i64 0, none) := num_run hσ Y _
  have G := of_good h0
  obtain ⟨wa, Wa, ha⟩ := way_ex G _ a.c (Nat.lt_succ_self _)
  obtain ⟨wb, Wb, hb⟩ := way_ex G _ b.c (Nat.lt_succ_self _)
  obtain ⟨sa, hsa⟩ : ∃ s, s = wa.take a.el.length := ⟨_, rfl⟩
  obtain ⟨sb, hsb⟩ : ∃ s, s = wb.take b.el.length := ⟨_, rfl⟩
  have hnot : ¬ (a.c ∈ sb ∧ b.c ∈ sa) := fun ⟨h1, h2⟩ => by
    rw [hsb] at h1; rw [hsa] at h2
    have p1 := (hb _ (List.mem_of_mem_take h1)).2.1
    have p2 := (ha _ (List.mem_of_mem_take h2)).2.1
    omega
  have saa := says_run hσ T a a Wa Wa (by omega)
  have sab := says_run hσ T a b Wa Wb (by omega)
  have sba := says_run hσ T b a Wb Wa (by omega)
  rw [← hsa, says_self] at saa
  rw [← hsa, ← hsb] at sab sba
  rw [says_turn a b hnot] at sab
  obtain ⟨n, hn⟩ : ∃ n, n = saysV b a sb sa := ⟨_, rfl⟩
  rw [← hn] at sab sba
  have tr : (lim Tryd.prog σ).call 9 [.int .i64 (Int.ofNat n)] Y = some (.int .i64 (Int.ofNat (turnN n)), none) := turn_run hσ ((g.ext XE).ext YE) (by rw [hn]; exact says_le _ _ _ _)
  have bl : (lim Tryd.prog σ).call 10 [.agg [u64 a.c, u64 a.b, u64 a.h0, u64 a.h1]] Y = some (.bool (decide (a.c = 0)), none) := blank_run hσ Y a
  have saa : (lim Tryd.prog σ).call 8 [.ptr t 0, .agg [u64 a.c, u64 a.b, u64 a.h0, u64 a.h1], .agg [u64 a.c, u64 a.b, u64 a.h0, u64 a.h1]] Y = some (.int .i64 (Int.ofNat (if a.c = 0 then 1 else 4)), none) := saa
  have sab : (lim Tryd.prog σ).call 8 [.ptr t 0, .agg [u64 a.c, u64 a.b, u64 a.h0, u64 a.h1], .agg [u64 b.c, u64 b.b, u64 b.h0, u64 b.h1]] Y = some (.int .i64 (Int.ofNat (turnN n)), none) := sab
  have sba : (lim Tryd.prog σ).call 8 [.ptr t 0, .agg [u64 b.c, u64 b.b, u64 b.h0, u64 b.h1], .agg [u64 a.c, u64 a.b, u64 a.h0, u64 a.h1]] Y = some (.int .i64 (Int.ofNat n), none) := sba
  have eqt : (Int.ofNat (turnN n) = Int.ofNat (turnN n)) = True := eq_self _
  by_cases qa : a.c = 0
  · rw [decide_eq_true qa] at bl
    rw [if_pos qa] at saa
    have saa : (lim Tryd.prog σ).call 8 [.ptr t 0, .agg [u64 a.c, u64 a.b, u64 a.h0, u64 a.h1], .agg [u64 a.c, u64 a.b, u64 a.h0, u64 a.h1]] Y = some (.int .i64 1, none) := saa
    simp only [go_sem, Ln.cv_eq, ← hX, mr, hk, hr, nr, Ya, Yb, saa, sab, sba, tr, bl]
    refine cnd_go (Q := Q) (by kernel_rfl) ?_
    simp only [go_sem, Ya, Yb, saa, sab, sba, tr, bl, hk]
    rw [hQ]; exact tru_fin _ _
  · rw [decide_eq_false qa] at bl
    rw [if_neg qa] at saa
    have saa : (lim Tryd.prog σ).call 8 [.ptr t 0, .agg [u64 a.c, u64 a.b, u64 a.h0, u64 a.h1], .agg [u64 a.c, u64 a.b, u64 a.h0, u64 a.h1]] Y = some (.int .i64 4, none) := saa
    simp only [go_sem, Ln.cv_eq, ← hX, mr, hk, hr, nr, Ya, Yb, saa, sab, sba, tr, bl]
    refine cnd_go (Q := Q) (by kernel_rfl) ?_
    simp only [go_sem, Ya, Yb, saa, sab, sba, tr, bl, hk]
    rw [hQ]; exact tru_fin _ _
end
end Go.Cl.U

namespace Go.Cl.U
set_option maxRecDepth 100000

theorem cellsOf_u64 : Tryd.prog.cellsOf 22 = 1 := by kernel_rfl
theorem cellsOf_hist : Tryd.prog.cellsOf 24 = 2 := by kernel_rfl
theorem cellsOf_line : Tryd.prog.cellsOf 26 = 4 := by kernel_rfl
theorem szOf_born : szOf Tryd.prog 40 = some 2 := by kernel_rfl
theorem un_of {h : H} {xs : List CV} (r : Rd Tryd.prog h 22 xs) : ∃ n : Nat, xs = [u64 n] := by
  obtain ⟨n, e, q1, _⟩ := r.int_inv Tryd.underlying22
  have q1 : 0 ≤ n := q1
  refine ⟨n.toNat, ?_⟩
  rw [e]; unfold u64; congr 2; simp; omega
theorem u64n_of {h : H} {c : CV} (a : Arg Tryd.prog h 22 c) : ∃ n : Nat, c = u64 n := by
  have h1 : c.one = true := by rcases a.one with ⟨_, h⟩ | ⟨_, _, h⟩ | h; rw [Tryd.underlying22] at h; cases h; rw [Tryd.underlying22] at h; cases h; exact h
  have r := a.rd
  rw [cells_one h1] at r
  obtain ⟨n, e⟩ := un_of r
  simp at e
  exact ⟨n, e⟩
theorem line_of {h : H} {c : CV} (a : Arg Tryd.prog h 26 c) : ∃ l : Ln, c = l.cv := by
  obtain ⟨hl, hf⟩ := a.rd.struct_inv Tryd.underlying26
  rw [cellsOf_line] at hl
  obtain ⟨az, rfl⟩ := agg_of (c := c) (by omega)
  simp only [cells_agg] at hl hf
  have h0 := hf _ (List.mem_cons_self)
  have h1 := hf _ (List.mem_cons_of_mem _ List.mem_cons_self)
  have h2 := hf _ (List.mem_cons_of_mem _ (List.mem_cons_of_mem _ List.mem_cons_self))
  simp only [cellsOf_u64, cellsOf_hist] at h0 h1 h2
  obtain ⟨_, ha⟩ := h2.array_inv Tryd.underlying24
  have a0 := ha 0 (by decide)
  have a1 := ha 1 (by decide)
  simp only [cellsOf_u64] at a0 a1
  obtain ⟨n0, e0⟩ := un_of h0
  obtain ⟨n1, e1⟩ := un_of h1
  obtain ⟨n2, e2⟩ := un_of a0
  obtain ⟨n3, e3⟩ := un_of a1
  match az, hl with
  | [x0, x1, x2, x3], _ =>
    simp at e0 e1 e2 e3
    subst e0 e1 e2 e3
    exact ⟨⟨n0, n1, n2, n3⟩, rfl⟩
theorem born_of {h : H} {c : CV} (a : Arg Tryd.prog h 23 c) : ∃ l : List (Nat × Nat), Sl Tryd.prog 23 h c 2 l.length (bcs l) := by
  have h1 : c.one = true := by rcases a.one with ⟨_, h⟩ | ⟨_, _, h⟩ | h; rw [Tryd.underlying23] at h; cases h; rw [Tryd.underlying23] at h; cases h; exact h
  have r := a.rd
  rw [cells_one h1] at r
  obtain ⟨n, xs, _, hx, hs⟩ := r.slice_inv Tryd.underlying23 szOf_born
  obtain ⟨l, hl, hq⟩ := list_of (Q := fun i (p : Nat × Nat) => xs i = [u64 p.1, u64 p.2]) n fun i hi => by
    obtain ⟨hlen, r⟩ := hx i hi
    obtain ⟨_, hf⟩ := r.struct_inv Tryd.underlying40
    have h0 := hf _ (List.mem_cons_self)
    have h1 := hf _ (List.mem_cons_of_mem _ List.mem_cons_self)
    simp only [cellsOf_u64] at h0 h1
    obtain ⟨n0, e0⟩ := un_of h0
    obtain ⟨n1, e1⟩ := un_of h1
    generalize xs i = ys at *
    match ys, hlen with
    | [y0, y1], _ =>
      simp at e0 e1
      subst e0 e1
      exact ⟨(n0, n1), rfl⟩
  subst hl
  refine ⟨l, hs _ fun i j x hi hj hn => ?_⟩
  obtain ⟨⟨p, c⟩, hg⟩ : ∃ g, l[i]? = some g := ⟨_, List.getElem?_eq_getElem hi⟩
  obtain ⟨g0, g1⟩ := bcs_get l i p c hg
  rw [hq i _ hg]
  match j, hj with
  | 0, _ => rw [g0] at hn; cases hn; rfl
  | 1, _ => rw [g1] at hn; cases hn; rfl
theorem tell_none {g : FuncId} {v : CV} : ∀ f a h, f ≠ g → tell g v f a h = none := tell_other
end Go.Cl.U
