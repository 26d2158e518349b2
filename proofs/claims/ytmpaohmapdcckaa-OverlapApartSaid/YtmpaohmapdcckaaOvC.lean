/- The program's functions, run by the rewriting evaluator: what each answers and leaves (OvC). -/
import Derived.Test.YtmpaohmapdcckaaOvB
set_option linter.all false
open Go Go.Cl Go.Proofs
namespace Go.Cl.O
noncomputable section
variable {σ : Sums}
set_option maxRecDepth 1000000

def ClearQ (h : H) (t : Nat) (v : CV) (es : List Nat) (r : Option (CV × Option H)) : Prop :=
  ∃ u x, r = some (u, x) ∧ TA (x.getD h) t .nils [] ∧ Mod h (x.getD h) t v .nils ∧ EL (x.getD h) u es ∧ (∀ k, own u k → h.nx ≤ k) ∧ (x.getD h).low ≤ t
theorem clear_run (hσ : ∀ f a h, f ≠ 23 → σ f a h = none) {h : H} {t : Nat} {v : CV} {L : List Rq} (T : TA h t v L) (hl : L.length ≤ 100) :
    ClearQ h t v (L.map (·.n)) ((lim Try.prog σ).call 30 [.ptr t 0] h) := by
  obtain ⟨Q, hQ⟩ : ∃ Q, Q = ClearQ h t v (L.map (·.n)) := ⟨_, rfl⟩
  rw [← hQ]
  have B := T.row
  have Bl := B.len
  have htn := T.lt
  have nn : (lim Try.prog σ).call 60 [.ptr t 0] h.lo = some (.bool false, none) := none_run hσ (T.ext (Ext.lo h))
  obtain ⟨tb, q1, q2, q3, q4⟩ := T.blk
  have tbn : 1 < tb.n := Blk.get_lt q4
  rw [call_eq (hσ _ _ _ (by decide)) fn_30 rfl rfl, Try.ntmps30, Try.results30]
  simp only [go_sem, nn, q1, q4, Bl]
  refine loop_ind (Q := Q) (fun i env h' => evT env 0 = .ptr t 0 ∧ evT env 11 = v ∧ evT env 12 = .int .i64 (Int.ofNat L.length) ∧ evT env 13 = .int .i64 (Int.ofNat i) ∧ ∃ lid, GU h.lo h' (evT env 3) ((L.take i).map (·.n)) lid) L.length 0 ?_ (Nat.zero_le _) ?_ ?_
  · exact ⟨by simp only [go_sem], by simp only [go_sem], by simp only [go_sem], by simp only [go_sem]; rfl, _, by simp only [go_sem]; exact ⟨Nat.le_refl _, Lst.nil _ _ _, Ext.refl _, rfl, Nat.le_refl _⟩⟩
  · rintro i env h' ⟨e0, e11, e12, e13, lid, G⟩ hi next
    have c0 := ofNat_lt hi
    have w1 := wrap_succ (i := i) (by omega)
    obtain ⟨r, hr⟩ : ∃ r, L[i]? = some r := ⟨_, List.getElem?_eq_getElem hi⟩
    obtain ⟨id, b, ea, _, _, hid, hb, _, A⟩ := (B.ext ((Ext.lo h).trans G.ext)).at_ hr
    have ld := A.load
    have hz : (L.take (i + 1)).map (·.n) = (L.take i).map (·.n) ++ [r.n] := by rw [List.take_succ, hr]; simp
    have hge := G.ext.nx
    have hlow := G.low
    have hle : ((L.take i).map (·.n)).length ≤ 100 := by rw [List.length_map, List.length_take]; omega
    have G1 := G.box (.cells (newBlk [CV.int IntKind.u64 0, CV.int IntKind.i64 0, CV.bool false, CV.bool false])) (.cells (((((newBlk [CV.int IntKind.u64 0, CV.int IntKind.i64 0, CV.bool false, CV.bool false]).st 0 (u64 r.n)).st 1 (CV.int IntKind.i64 r.b)).st 2 (CV.bool r.wr)).st 3 (CV.bool r.wy)))
    simp only [go_sem, e0, e11, e12, e13, c0, ea, hb, ld, w1, Nat.mul_one]
    have G2 := G1.alloc (.cells ({ n := 1, d := [CV.int IntKind.u64 0], t := Go.Cl.T.nil, ro := false : Blk }.st 0 (u64 r.n)))
    refine growU_step (Q := Q) (ns := [r.n]) G2 (Nat.zero_lt_one) (by simp; omega) fun h2 v2 hv2 G3 hlt => ?_
    simp only [go_sem, e0, e11, e12, e13, w1]
    exact next _ _ ⟨by simp only [go_sem, e0], by simp only [go_sem, e11], by simp only [go_sem, e12], by simp only [go_sem, w1], _, by rw [hz]; simp only [go_sem]; exact G3⟩
  · rintro env h' ⟨e0, e11, e12, e13, lid, G⟩
    have c0 := ofNat_nlt (Nat.le_refl L.length)
    rw [List.take_length] at G
    obtain ⟨u, hu⟩ : ∃ u, u = evT env 3 := ⟨_, rfl⟩
    rw [← hu] at G
    have E : Ext h h' := (Ext.lo h).trans G.ext
    have hT : h'.blk t = some tb := (E.blk htn).trans q1
    obtain ⟨P, hP⟩ : ∃ P, P = h'.put t (.cells (tb.st 1 .nils)) := ⟨_, rfl⟩
    have Pt : P.blk t = some (tb.st 1 .nils) := by rw [hP]; exact put_blk_same _ _ _
    have Plow : P.low = min h.nx t := by rw [hP]; show min h'.low t = _; rw [G.low]; rfl
    have Pnx : P.nx = h'.nx := by rw [hP]; rfl
    have Enx := E.nx
    simp only [go_sem, e0, e11, e12, e13, c0, ← hu, hT, q2, tbn, ← hP]
    rw [hQ, fin_l _ _ _ (by omega)]
    obtain ⟨Eu, Ou⟩ := el_lst G.lst
    have ge : ∀ k, own u k → h.nx ≤ k := fun k hk => by rw [Ou k hk]; exact G.ge
    refine ⟨u, some _, rfl, ?_, ⟨?_, ?_, fun k hk k1 k2 => ?_, fun k hk => False.elim hk, fun B b1 b2 b3 => ?_⟩, ?_, ge, by show min h.low P.low ≤ t; omega⟩
    · have TT : TA P t .nils [] := ⟨⟨_, Pt, q2, by rw [st_get_ne _ _ _ _ (by decide)]; exact q3, st_get_same _ _ _ tbn⟩, by omega, .inl ⟨rfl, rfl⟩, fun e => False.elim e⟩
      exact TT.ext (Ext.up _ _)
    · show h.nx ≤ P.nx
      omega
    · show P.gn = _
      rw [hP]; exact E.gn
    · show P.t.get k = _
      rw [hP, put_get_ne _ _ _ _ k1]; exact E.old k hk
    · show B ≤ min h.low P.low
      omega
    · have : EL P u ((L.map (·.n))) := Eu.keep (by omega) fun k hk => by rw [hP]; exact put_get_ne _ _ _ _ (by have := ge k hk; omega)
      exact this.ext (Ext.up _ _)

/-- a copy of a row -/
def RowQ (h : H) (L : List Rq) (r : Option (CV × Option H)) : Prop :=
  ∃ u x, r = some (u, x) ∧ LA (x.getD h) u L ∧ Ext h (x.getD h) ∧ (∀ k, own u k → h.nx ≤ k) ∧ (h.low ≤ h.nx → (x.getD h).low = h.low)
theorem appS_nils' {X : H} {size by_ zl m : Nat} {new : List CV} (hm : 0 < m) (hl : new.length = m * size) (ho : new.all CV.one = true) (hz : zl = size) (hs : 0 < size) (hr : m * by_ ≤ 70368744177664) (hr2 : m ≤ 70368744177664) :
    appS X size by_ zl .nils m (some new) = some (.sl X.nx 0 m (.opn size), X.alloc (.cells (fillB (m * size) new))) := by
  unfold appS
  rw [show Cl.lenC .nils = some 0 from rfl, bind_some', bind_some']
  have hg : (Nat.blt 0 size && Nat.ble ((0 + m) * by_) 70368744177664 && Nat.ble (0 + m) 70368744177664 && Nat.beq zl size && Nat.beq new.length (m * size) && new.all CV.one) = true := by
    simp only [blt_eq', ble_eq', beq_eq', Bool.and_eq_true, decide_eq_true_eq, Nat.zero_add]
    exact ⟨⟨⟨⟨⟨hs, hr⟩, hr2⟩, hz⟩, hl⟩, ho⟩
  rw [hg, cond_true]
  dsimp only
  have hm0 : Nat.beq m 0 = false := by rw [beq_eq']; exact decide_eq_false (by omega)
  rw [hm0, cond_false]
  simp only [grown, List.nil_append]
theorem copy_fresh {X : H} {L : List Rq} {cs : List CV} (hn : cs.length = L.length * 4) (hc : ∀ i r, L[i]? = some r → nth cs (i * 4) = some (u64 r.n) ∧ nth cs (i * 4 + 1) = some (.int .i64 r.b) ∧ nth cs (i * 4 + 2) = some (.bool r.wr) ∧ nth cs (i * 4 + 3) = some (.bool r.wy)) :
    LA (X.alloc (.cells (fillB (L.length * 4) cs))) (.sl X.nx 0 L.length (.opn 4)) L := by
  have hg : ∀ j, (fillB (L.length * 4) cs).get j = nth cs j := fun j => fillB_get _ _ _ hn.symm
  refine .inr (.inr ⟨X.nx, _, L.length, rfl, by rw [alloc_nx]; omega, alloc_blk_same _ _ _ rfl, fillB_ro _ _, fillB_n _ _, Nat.le_refl _, fun i r hr => ?_⟩)
  rw [hg, hg, hg, hg]
  exact hc i r hr
theorem LA.copy {X : H} {v : CV} {L : List Rq} (B : LA X v L) (hl : L.length ≤ 1000) {s : CV} (hs : (s = .nils) ∨ ∃ id b0, s = .sl id 0 0 (.exact 0) ∧ X.blk id = some b0 ∧ id < X.nx) :
    ∃ v' X', builtinT Try.prog X .append [66, 66] [s, v] = some (.upd v' X') ∧ builtinT Try.prog X .append [59, 59] [s, v] = some (.upd v' X') ∧ LA X' v' L ∧ Ext X X' ∧ X'.low = X.low ∧ (∀ k, own v' k → X.nx ≤ k ∨ own s k) := by
  have zero : appS X 4 24 4 s 0 (some []) = some (s, X) ∧ LA X s [] := by
    rcases hs with rfl | ⟨id, b0, rfl, h1, h2⟩
    · exact ⟨appS_nils0 rfl (by decide), .inl ⟨rfl, rfl⟩⟩
    · exact ⟨appS_0 rfl (by decide), .inr (.inl ⟨rfl, id, rfl, h2, b0, h1⟩)⟩
  rcases B with ⟨rfl, rfl⟩ | ⟨rfl, id, rfl, h1, b, h2⟩ | ⟨id, b, m, rfl, h1, h2, h3, h4, h5, h6⟩
  · refine ⟨s, X, ?_, ?_, zero.2, Ext.refl _, rfl, fun k hk => .inr hk⟩
    · rw [app_66_n, ap_66_n, zero.1]; rfl
    · rw [app_59_n, ap_59_n, zero.1]; rfl
  · refine ⟨s, X, ?_, ?_, zero.2, Ext.refl _, rfl, fun k hk => .inr hk⟩
    · rw [app_66, ap_66, firstC_sl, h2, bind_some', Nat.zero_mul, loadN_z, zero.1]; rfl
    · rw [app_59, ap_59, firstC_sl, h2, bind_some', Nat.zero_mul, loadN_z, zero.1]; rfl
  · obtain ⟨cs, e1, e2, e3, e4⟩ := loadN_ex b (L.length * 4) 0 fun j hj => by rw [Nat.zero_add]; exact RC.one h6 hj
    by_cases q : L.length = 0
    · have hL : L = [] := List.length_eq_zero_iff.1 q
      subst hL
      refine ⟨s, X, ?_, ?_, zero.2, Ext.refl _, rfl, fun k hk => .inr hk⟩
      · rw [app_66, ap_66, firstC_sl, h2, bind_some', List.length_nil, Nat.zero_mul, loadN_z, zero.1]; rfl
      · rw [app_59, ap_59, firstC_sl, h2, bind_some', List.length_nil, Nat.zero_mul, loadN_z, zero.1]; rfl
    · have ap : appS X 4 24 4 s L.length (some cs) = some (.sl X.nx 0 L.length (.opn 4), X.alloc (.cells (fillB (L.length * 4) cs))) := by
        rcases hs with rfl | ⟨id, b0, rfl, g1, g2⟩
        · exact appS_nils' (by omega) e2 e3 rfl (by decide) (by omega) (by omega)
        · exact appS_exact0 g1 (by omega) e2 e3 rfl (by decide) (by omega) (by omega)
      refine ⟨.sl X.nx 0 L.length (.opn 4), X.alloc (.cells (fillB (L.length * 4) cs)), ?_, ?_, copy_fresh e2 fun i r hr => ?_, Ext.alloc _ _, rfl, fun k hk => .inl (by cases hk; exact Nat.le_refl _)⟩
      · rw [app_66, ap_66, firstC_sl, h2, bind_some', e1, ap]; rfl
      · rw [app_59, ap_59, firstC_sl, h2, bind_some', e1, ap]; rfl
      · have hi := (List.getElem?_eq_some_iff.1 hr).1
        have := h6 i r hr
        rw [e4 _ (by omega), e4 _ (by omega), e4 _ (by omega), e4 _ (by omega), Nat.zero_add, Nat.zero_add, Nat.zero_add, Nat.zero_add]
        exact this
theorem RowQ.fin {h h' : H} {u : CV} {L : List Rq} (B : LA h' u L) (E : Ext h h') (ho : ∀ k, own u k → h.nx ≤ k) (hl : h'.low = h.nx) : RowQ h L (some (Go.Cl.fin h h' u)) := by
  rcases B with ⟨rfl, rfl⟩ | ⟨rfl, id, rfl, h1, b, h2⟩ | ⟨id, b, m, rfl, h1, h2⟩
  · rw [fin_q _ _ _ hl rfl]
    exact ⟨_, none, rfl, .inl ⟨rfl, rfl⟩, Ext.refl h, fun k hk => False.elim hk, fun _ => rfl⟩
  · have hge := ho id rfl
    rw [fin_new _ _ _ (by rw [okB_sl, blt_eq']; exact decide_eq_false (by omega))]
    exact ⟨_, some _, rfl, LA.ext (.inr (.inl ⟨rfl, id, rfl, h1, b, h2⟩)) (Ext.up _ _), E.up' _, ho, fun hl2 => by show min h.low h'.low = _; omega⟩
  · have hge := ho id rfl
    rw [fin_new _ _ _ (by rw [okB_sl, blt_eq']; exact decide_eq_false (by omega))]
    exact ⟨_, some _, rfl, LA.ext (.inr (.inr ⟨id, b, m, rfl, h1, h2⟩)) (Ext.up _ _), E.up' _, ho, fun hl2 => by show min h.low h'.low = _; omega⟩
theorem eqn_sl (id off len : Nat) (c : Cap) : binT Try.prog .eql 66 (.tmp 3) (.const (.slice none 0 0)) (.sl id off len c) .nils = some (.bool false) := by kernel_rfl
theorem LA.eqn {h : H} {v : CV} {L : List Rq} (B : LA h v L) (q : v ≠ .nils) : binT Try.prog .eql 66 (.tmp 3) (.const (.slice none 0 0)) v .nils = some (.bool false) := by
  rcases B with ⟨_, rfl⟩ | ⟨_, id, rfl, _⟩ | ⟨id, b, m, rfl, _⟩
  · exact absurd rfl q
  · exact eqn_sl _ _ _ _
  · exact eqn_sl _ _ _ _
theorem clone_run (hσ : ∀ f a h, f ≠ 23 → σ f a h = none) {h : H} {v : CV} {L : List Rq} (B : LA h v L) (hl : L.length ≤ 1000) :
    RowQ h L ((lim Try.prog σ).call 61 [v] h) := by
  obtain ⟨Q, hQ⟩ : ∃ Q, Q = RowQ h L := ⟨_, rfl⟩
  rw [← hQ]
  rw [call_eq (hσ _ _ _ (by decide)) fn_61 rfl rfl, Try.ntmps61, Try.results61]
  by_cases qn : v = .nils
  · subst qn
    have hL : L = [] := by
      rcases B with ⟨h0, _⟩ | ⟨h0, _⟩ | ⟨id, b, m, e, _⟩
      · exact h0
      · exact h0
      · cases e
    subst hL
    simp only [go_sem]
    rw [hQ]
    exact RowQ.fin (.inl ⟨rfl, rfl⟩) (Ext.lo h) (fun k hk => False.elim hk) rfl
  · have en := B.eqn qn
    simp only [go_sem, en]
    obtain ⟨X, hX⟩ : ∃ X, X = h.lo.alloc (CObj.cells { n := 0, d := [CV.int IntKind.u64 0, CV.int IntKind.i64 0, CV.bool false, CV.bool false], t := Go.Cl.T.nil, ro := false : Blk }) := ⟨_, rfl⟩
    have XE : Ext h X := by rw [hX]; exact (Ext.lo h).alloc' _
    have Xnx : X.nx = h.nx + 1 := by rw [hX]; rfl
    have Xlow : X.low = h.nx := by rw [hX]; rfl
    obtain ⟨u, Y, e1, _, BY, EY, lY, oY⟩ := LA.copy (B.ext XE) hl (s := .sl h.nx 0 0 (.exact 0)) (.inr ⟨_, _, rfl, by rw [hX]; exact alloc_blk_same _ _ _ rfl, by omega⟩)
    have EN := EY.nx
    simp only [← hX, e1, go_sem]
    rw [hQ]
    refine RowQ.fin BY (XE.trans EY) (fun k hk => ?_) (lY.trans Xlow)
    rcases oY k hk with h1 | h1
    · omega
    · cases h1; exact Nat.le_refl _
theorem copy_run (hσ : ∀ f a h, f ≠ 23 → σ f a h = none) {h : H} {t : Nat} {v : CV} {L : List Rq} (T : TA h t v L) (hl : L.length ≤ 100) :
    ∃ t' v' x, (lim Try.prog σ).call 26 [.ptr t 0] h = some (.ptr t' 0, x) ∧ TA (x.getD h) t' v' L ∧ Ext h (x.getD h) ∧ h.nx ≤ t' ∧ (∀ k, own v' k → h.nx ≤ k) ∧ (h.low ≤ h.nx → (x.getD h).low = h.low) := by
  obtain ⟨Q, hQ⟩ : ∃ Q : Option (CV × Option H) → Prop, Q = fun r => ∃ t' v' x, r = some (.ptr t' 0, x) ∧ TA (x.getD h) t' v' L ∧ Ext h (x.getD h) ∧ h.nx ≤ t' ∧ (∀ k, own v' k → h.nx ≤ k) ∧ (h.low ≤ h.nx → (x.getD h).low = h.low) := ⟨_, rfl⟩
  suffices Q ((lim Try.prog σ).call 26 [.ptr t 0] h) by rw [hQ] at this; exact this
  have nn : (lim Try.prog σ).call 60 [.ptr t 0] h.lo = some (.bool false, none) := none_run hσ (T.ext (Ext.lo h))
  obtain ⟨tb, q1, q2, q3, q4⟩ := T.blk
  obtain ⟨u, x, ce, BX, EX, ox, lx⟩ := clone_run hσ (T.row.ext (Ext.lo h)) (by omega)
  have lx := lx (Nat.le_refl _)
  obtain ⟨X, hX⟩ : ∃ X, X = x.getD h.lo := ⟨_, rfl⟩
  rw [← hX] at BX EX lx
  have Xnx := EX.nx
  rw [call_eq (hσ _ _ _ (by decide)) fn_26 rfl rfl, Try.ntmps26, Try.results26]
  have u1 := BX.one.1
  have u2 := BX.one.2.1
  obtain ⟨Y, hY⟩ : ∃ Y, Y = X.alloc (.cells (newBlk [.bool true, u])) := ⟨_, rfl⟩
  have YE : Ext X Y := by rw [hY]; exact Ext.alloc _ _
  have Ylow : Y.low = h.nx := by rw [hY]; exact lx
  have Ynx : Y.nx = X.nx + 1 := by rw [hY]; rfl
  simp only [go_sem, nn, q1, q4, ce, ← hX, u1, u2, ← hY]
  have hn : h.nx ≤ X.nx := Xnx
  rw [hQ, fin_new _ _ _ (by rw [okB_ptr, blt_eq']; exact decide_eq_false (by omega))]
  have TY : TA Y X.nx u L := by
    refine ⟨⟨newBlk [.bool true, u], by rw [hY]; exact alloc_blk_same _ _ _ rfl, by simp only [go_sem], by simp only [go_sem], by simp only [go_sem]⟩, by omega, BX.ext YE, fun hk => ?_⟩
    have := BX.lt hk
    omega
  exact ⟨X.nx, u, some _, rfl, TY.ext (Ext.up _ _), (((Ext.lo h).trans EX).trans YE).up' _, hn, ox, fun hl2 => by show min h.low Y.low = _; omega⟩
end
end Go.Cl.O

namespace Go.Cl.O
noncomputable section
variable {σ : Sums}
set_option maxRecDepth 1000000

def rcs (L : List Rq) : List CV := L.flatMap Rq.cs
theorem rcs_len (L : List Rq) : (rcs L).length = L.length * 4 := by
  induction L with
  | nil => rfl
  | cons r l ih => unfold rcs at ih ⊢; rw [List.flatMap_cons, List.length_append, ih, List.length_cons]; show 4 + _ = _; omega
theorem rcs_app (A B : List Rq) : rcs (A ++ B) = rcs A ++ rcs B := by unfold rcs; rw [List.flatMap_append]
theorem rcs_one (L : List Rq) : (rcs L).all CV.one = true := List.all_eq_true.2 fun x hx => by
  obtain ⟨r, _, h⟩ := List.mem_flatMap.1 hx
  simp only [Rq.cs, List.mem_cons, List.not_mem_nil, or_false] at h
  rcases h with rfl | rfl | rfl | rfl <;> rfl
theorem rcs_get : ∀ (L : List Rq) (i : Nat) (r : Rq), L[i]? = some r → nth (rcs L) (i * 4) = some (u64 r.n) ∧ nth (rcs L) (i * 4 + 1) = some (.int .i64 r.b) ∧ nth (rcs L) (i * 4 + 2) = some (.bool r.wr) ∧ nth (rcs L) (i * 4 + 3) = some (.bool r.wy)
  | [], i, r, h => by simp at h
  | a :: L, 0, r, h => by
    simp at h; subst h; exact ⟨rfl, rfl, rfl, rfl⟩
  | a :: L, i + 1, r, h => by
    have ih := rcs_get L i r (by simpa using h)
    have e : ∀ m, nth (rcs (a :: L)) ((i + 1) * 4 + m) = nth (rcs L) (i * 4 + m) := fun m => by
      rw [show (i + 1) * 4 + m = i * 4 + m + 1 + 1 + 1 + 1 by omega]; rfl
    exact ⟨(e 0).trans ih.1, (e 1).trans ih.2.1, (e 2).trans ih.2.2.1, (e 3).trans ih.2.2.2⟩
theorem RC.load {b : Blk} {L : List Rq} (C : RC b L) : ∀ (n i : Nat), i + n ≤ L.length → b.loadN (i * 4) (n * 4) = some (rcs ((L.drop i).take n))
  | 0, i, _ => by rw [List.take_zero, Nat.zero_mul]; rfl
  | n + 1, i, h => by
    obtain ⟨r, hr⟩ : ∃ r, L[i]? = some r := ⟨_, List.getElem?_eq_getElem (by omega)⟩
    obtain ⟨c0, c1, c2, c3⟩ := C i r hr
    have ih := RC.load C n (i + 1) (by omega)
    have hd : L.drop i = r :: L.drop (i + 1) := by
      rw [List.drop_eq_getElem_cons (by omega)]
      rw [List.getElem?_eq_getElem (by omega)] at hr
      cases hr; rfl
    rw [hd, List.take_succ_cons, show (n + 1) * 4 = n * 4 + 1 + 1 + 1 + 1 by omega]
    simp only [Blk.loadN, c0, c1, c2, c3, show i * 4 + 1 + 1 + 1 + 1 = (i + 1) * 4 by omega, show i * 4 + 1 + 1 = i * 4 + 2 by omega, show i * 4 + 2 + 1 = i * 4 + 3 by omega, ih, Option.bind_some]
    rfl
theorem RC.of_get {b : Blk} {L : List Rq} (h : ∀ i, b.get i = nth (rcs L) i) : RC b L := fun i r hr => by
  rw [h, h, h, h]; exact rcs_get L i r hr
theorem LA.of_lst {h : H} {u : CV} {lid : Nat} {L : List Rq} (l : Lst h 4 u lid L.length (rcs L)) : LA h u L ∧ ∀ k, own u k → k = lid := by
  rcases l.val with ⟨h0, rfl⟩ | ⟨h0, rfl, h1, b, h2, h3, h4, h5⟩
  · exact ⟨.inl ⟨List.length_eq_zero_iff.1 h0, rfl⟩, fun k hk => False.elim hk⟩
  · exact ⟨.inr (.inr ⟨lid, b, L.length, rfl, h1, h2, h3, h4, Nat.le_refl _, RC.of_get h5⟩), fun k hk => hk⟩
/-- the first some, handed to append -/
theorem app_any {X : H} {v : CV} {lid n m : Nat} {cs new : List CV} (l : Lst X 4 v lid n cs) (hl : new.length = m * 4) (ho : new.all CV.one = true) (hr : n + m ≤ 1000) :
    ∃ v' lid' X', appS X 4 24 4 v m (some new) = some (v', X') ∧ Lst X' 4 v' lid' (n + m) (cs ++ new) ∧ X.nx ≤ X'.nx ∧ X'.gn = X.gn ∧ (∀ k, k < X.nx → k ≠ lid → X'.t.get k = X.t.get k) ∧ (X'.low = X.low ∨ X'.low = min X.low lid) ∧ (lid' = lid ∨ lid' = X.nx) := by
  rcases Nat.eq_zero_or_pos m with rfl | hm
  · have hn : new = [] := List.length_eq_zero_iff.1 (by omega)
    subst hn
    rcases l.val with ⟨h0, rfl⟩ | ⟨h0, rfl, h1, b, h2, h3, h4, h5⟩
    · exact ⟨.nils, lid, X, appS_nils0 rfl (by decide), by rw [List.append_nil]; exact l, Nat.le_refl _, rfl, fun _ _ _ => rfl, .inl rfl, .inl rfl⟩
    · refine ⟨.sl lid 0 n (.opn 4), lid, X.put lid (.cells b), ?_, ?_, Nat.le_refl _, rfl, fun k _ hk => put_get_ne _ _ _ _ hk, .inr rfl, .inl rfl⟩
      · unfold appS
        rw [lenC_sl, bind_some', bind_some']
        have hc : (Nat.blt 0 4 && Nat.ble ((n + 0) * 24) 70368744177664 && Nat.ble (n + 0) 70368744177664 && Nat.beq 4 4 && Nat.beq ([] : List CV).length (0 * 4) && ([] : List CV).all CV.one) = true := by
          simp only [ble_eq', Bool.and_eq_true, decide_eq_true_eq]
          exact ⟨⟨⟨⟨⟨rfl, by omega⟩, by omega⟩, rfl⟩, rfl⟩, rfl⟩
        rw [hc, cond_true]
        dsimp only
        rw [show Nat.beq 4 4 = true from rfl, cond_true, h2, bind_some', h3, cond_false, ble_eq', decide_eq_true (by omega), cond_true]
        rfl
      · rw [List.append_nil]
        exact ⟨l.len, .inr ⟨h0, rfl, h1, b, put_blk_same _ _ _, h3, h4, h5⟩⟩
  · obtain ⟨X', e, l', h1, h2, h3, h4, h5⟩ := app_Lst (by_ := 24) (zl := 4) l hm hl ho rfl (by decide) (by omega) (by omega)
    rcases Nat.eq_zero_or_pos n with hz | hz
    · subst hz
      refine ⟨_, _, X', e, l', by omega, h2, fun k hk _ => h3 k hk fun h => absurd rfl h, ?_, .inr rfl⟩
      rcases h5 with h5 | h5
      · exact .inl h5
      · exact .inr h5
    · exact ⟨_, _, X', e, l', by omega, h2, fun k hk hne => h3 k hk fun _ => hne, h5, .inr rfl⟩
/-- a row, handed to append -/
theorem LA.src {X : H} {u : CV} {L : List Rq} (B : LA X u L) (s : CV) : builtinT Try.prog X .append [59, 59] [s, u] = uv (appS X 4 24 4 s L.length (some (rcs L))) := by
  rcases B with ⟨rfl, rfl⟩ | ⟨rfl, id, rfl, h1, b, h2⟩ | ⟨id, b, m, rfl, h1, h2, h3, h4, h5, h6⟩
  · rw [app_59_n, ap_59_n]; rfl
  · rw [app_59, ap_59, firstC_sl, h2, bind_some', Nat.zero_mul, loadN_z]; rfl
  · have := RC.load h6 L.length 0 (by omega)
    rw [Nat.zero_mul, List.drop_zero, List.take_length] at this
    rw [app_59, ap_59, firstC_sl, h2, bind_some', this]
theorem app_se (h : H) (s : CV) (a b c : Nat) : builtinT Try.prog h .append [59, 59] [s, .slend a b c 4] = uv (appS h 4 24 4 s 0 (some [])) := by kernel_rfl
theorem szo : szOf Try.prog 112 = some 4 := by kernel_rfl
section
variable {X : H} {id m len : Nat} {b : Blk}
theorem sl_pre2 (h2 : X.blk id = some b) (h4 : b.n = m * 4) {i : Nat} (hi : i < len) (h5 : len ≤ m) :
    sliceT Try.prog X 59 (.sl id 0 len (.opn 4)) none (some (.int .i64 (Int.ofNat i))) none = some (.sl id 0 i (.opn 4)) := by
  unfold sliceT
  rw [Try.underlying59]
  simp only [Option.bind_some, szo, cap_of h2 h4, bnd, toN]
  have b1 : Nat.ble i m = true := Nat.ble_eq.mpr (by omega)
  have b9 : Nat.blt 0 4 = true := rfl
  have b8 : Nat.ble 0 i = true := Nat.ble_eq.mpr (Nat.zero_le _)
  simp [szo, toN, cap_of h2 h4, b1, b9, b8]
theorem sl_suf2 (h2 : X.blk id = some b) (h4 : b.n = m * 4) {j : Nat} (hj : j ≤ len) (h5 : len ≤ m) (hj0 : 0 < j) :
    sliceT Try.prog X 59 (.sl id 0 len (.opn 4)) (some (.int .i64 (Int.ofNat j))) none none = some (if j < m then .sl id (j * 4) (len - j) (.opn 4) else .slend id 0 j 4) := by
  unfold sliceT
  rw [Try.underlying59]
  simp only [Option.bind_some, szo, cap_of h2 h4, bnd, toN]
  have b1 : Nat.ble len m = true := Nat.ble_eq.mpr h5
  have b2 : Nat.ble j len = true := Nat.ble_eq.mpr hj
  have b9 : Nat.blt 0 4 = true := rfl
  have b0 : Nat.beq j 0 = false := by
    cases q : Nat.beq j 0 with
    | false => rfl
    | true => have := Nat.eq_of_beq_eq_true q; omega
  by_cases q : j < m
  · have b3 : Nat.blt j m = true := by rw [blt_eq']; exact decide_eq_true q
    simp [toN, b1, b2, b3, b9, q]
  · have b3 : Nat.blt j m = false := by rw [blt_eq']; exact decide_eq_false q
    simp [toN, b1, b2, b3, b9, b0, q]
end
/-- the first i, and what stands behind j, handed to append -/
theorem pre_src {X : H} {id m : Nat} {b : Blk} {L : List Rq} (h2 : X.blk id = some b) (C : RC b L) {i : Nat} (hi : i ≤ L.length) (s : CV) :
    builtinT Try.prog X .append [59, 59] [s, .sl id 0 i (.opn 4)] = uv (appS X 4 24 4 s i (some (rcs (L.take i)))) := by
  have := C.load i 0 (by omega)
  rw [Nat.zero_mul, List.drop_zero] at this
  rw [app_59, ap_59, firstC_sl, h2, bind_some', this]
theorem suf_src {X : H} {id m : Nat} {b : Blk} {L : List Rq} (h2 : X.blk id = some b) (h5 : L.length ≤ m) (C : RC b L) {j : Nat} (hj : j ≤ L.length) (s : CV) :
    builtinT Try.prog X .append [59, 59] [s, if j < m then .sl id (j * 4) (L.length - j) (.opn 4) else .slend id 0 j 4] = uv (appS X 4 24 4 s (L.length - j) (some (rcs (L.drop j)))) := by
  by_cases q : j < m
  · have := C.load (L.length - j) j (by omega)
    rw [List.take_of_length_le (by rw [List.length_drop]; omega)] at this
    rw [if_pos q, app_59, ap_59, firstC_sl, h2, bind_some', this]
  · have hz : L.length - j = 0 := by omega
    rw [if_neg q, app_se, hz, List.drop_of_length_le (by omega)]; rfl

theorem hkey (A : List Rq) (B : List Rq) (hl : A.length = B.length) (h : ∀ (i : Nat) (x y : Rq), A[i]? = some x → B[i]? = some y → x.b = y.b ∧ x.wr = y.wr) (r : Rq) : A.any (fun a => hind a r) = B.any fun a => hind a r := by
  induction A generalizing B with
  | nil =>
    cases B with
    | nil => rfl
    | cons b B => simp at hl
  | cons a A ih =>
    cases B with
    | nil => simp at hl
    | cons b B =>
      obtain ⟨h1, h2⟩ := h 0 a b rfl rfl
      have e : hind a r = hind b r := by unfold hind; rw [h1, h2]
      rw [List.any_cons, List.any_cons, e, ih B (by simpa using hl) fun i x y hx hy => h (i + 1) x y (by simpa using hx) (by simpa using hy)]
theorem free_upd {M : List Rq} {i : Nat} {r : Rq} : freeN (upd M i) i r = !stp (M.take i) r := by
  unfold freeN stp
  congr 1
  refine hkey _ _ (by rw [List.length_take, List.length_take, upd_len]) (fun j x y hx hy => ?_) r
  rw [List.getElem?_take] at hx hy
  by_cases q : j < i
  · rw [if_pos q] at hx hy
    rw [upd_get, hy] at hx
    simp only [Option.map_some, if_pos q, Option.some.injEq] at hx
    subst hx
    exact ⟨rfl, rfl⟩
  · rw [if_neg q] at hx; cases hx
end
end Go.Cl.O

namespace Go.Cl.O
noncomputable section
variable {σ : Sums}
set_option maxRecDepth 1000000

structure Act where
  (k : Int) (n : Nat) (b : Int) (w : Bool)
def Act.cs (a : Act) : List CV := [.int .i64 a.k, u64 a.n, .int .i64 a.b, .bool a.w]
/-- a table, and the document's -/
structure DS (h : H) (t : Nat) (v u : CV) (L : List Rq) : Prop where
  tab : TA h t v L
  row : LA h u L
  ne : ¬ own u t
  apart : ∀ k, own v k → ¬ own u k
  len : L.length ≤ 100
  lt : ∀ r ∈ L, r.b < 64
  low : h.low ≤ h.nx
theorem DS.ext {h h' : H} {t : Nat} {v u : CV} {L : List Rq} (D : DS h t v u L) (E : Ext h h') (hl : h'.low ≤ h'.nx) : DS h' t v u L := ⟨D.tab.ext E, D.row.ext E, D.ne, D.apart, D.len, D.lt, hl⟩
structure DoR (h h' : H) (t : Nat) (v u v' u' : CV) (L' : List Rq) : Prop where
  tab : TA h' t v' L'
  row : LA h' u' L'
  ne : ¬ own u' t
  apart : ∀ k, own v' k → ¬ own u' k
  low : h'.low ≤ h'.nx
  nx : h.nx ≤ h'.nx
  gn : h'.gn = h.gn
  old : ∀ k, k < h.nx → k ≠ t → ¬ own v k → h'.t.get k = h.t.get k
  ownv : ∀ k, own v' k → own v k ∨ h.nx ≤ k
  ownu : ∀ k, own u' k → own u k ∨ h.nx ≤ k
def DoQ (h : H) (t : Nat) (v u : CV) (L' : List Rq) (r : Option (CV × Option H)) : Prop :=
  ∃ v' u' x, r = some (.tup [u', .bool true], x) ∧ DoR h (x.getD h) t v u v' u' L'
theorem DS.dor {h : H} {t : Nat} {v u : CV} {L : List Rq} (D : DS h t v u L) : DoR h h t v u v u L := ⟨D.tab, D.row, D.ne, D.apart, D.low, Nat.le_refl _, rfl, fun _ _ _ _ => rfl, fun _ hk => .inl hk, fun _ hk => .inl hk⟩
theorem DS.fin {h X : H} {t : Nat} {v u : CV} {L : List Rq} (D : DS h t v u L) (hx : X.low = h.nx) : DoQ h t v u L (some (Go.Cl.fin h X (.tup [u, .bool true]))) := by
  have : okB h.nx (.tup [u, .bool true]) = true := by
    rcases D.row with ⟨_, rfl⟩ | ⟨_, id, rfl, h1, _⟩ | ⟨id, b, m, rfl, h1, _⟩
    · rfl
    · show (Nat.blt id h.nx && true) = true
      rw [blt_eq', decide_eq_true h1]; rfl
    · show (Nat.blt id h.nx && true) = true
      rw [blt_eq', decide_eq_true h1]; rfl
  rw [fin_q _ _ _ hx this]
  exact ⟨v, u, none, rfl, D.dor⟩
theorem do_other (hσ : ∀ f a h, f ≠ 23 → σ f a h = none) {h : H} {t : Nat} {v u : CV} {L : List Rq} (D : DS h t v u L) (a : Act) (k1 : a.k ≠ 1) (k2 : a.k ≠ 2) (k3 : a.k ≠ 3) :
    DoQ h t v u L ((lim Try.prog σ).call 25 [.ptr t 0, u, .agg a.cs] h) := by
  obtain ⟨Q, hQ⟩ : ∃ Q, Q = DoQ h t v u L := ⟨_, rfl⟩
  rw [← hQ]
  have d1 : decide (a.k = 1) = false := decide_eq_false k1
  have d2 : decide (a.k = 2) = false := decide_eq_false k2
  have d3 : decide (a.k = 3) = false := decide_eq_false k3
  obtain ⟨X, hX⟩ : ∃ X, X = h.lo.alloc (.cells (newBlk [.int .i64 a.k, u64 a.n, .int .i64 a.b, .bool a.w])) := ⟨_, rfl⟩
  have XE : Ext h X := by rw [hX]; exact (Ext.lo h).alloc' _
  have Xlow : X.low = h.nx := by rw [hX]; rfl
  have Xa : X.blk h.nx = some (newBlk [.int .i64 a.k, u64 a.n, .int .i64 a.b, .bool a.w]) := by rw [hX]; simp only [go_sem]
  have at_ : (lim Try.prog σ).call 57 [u, u64 a.n] X = some (.int .i64 (idxI (pNum a.n) L 0), none) := at_run hσ (D.row.ext XE) (by have := D.len; omega) a.n
  rw [call_eq (hσ _ _ _ (by decide)) fn_25 rfl rfl, Try.ntmps25, Try.results25]
  simp only [go_sem, Act.cs, ← hX, Xa, at_, d1, d2, d3]
  rw [hQ]
  exact D.fin Xlow
theorem do_clear (hσ : ∀ f a h, f ≠ 23 → σ f a h = none) {h : H} {t : Nat} {v u : CV} {L : List Rq} (D : DS h t v u L) (a : Act) (k3 : a.k = 3) :
    DoQ h t v u [] ((lim Try.prog σ).call 25 [.ptr t 0, u, .agg a.cs] h) := by
  obtain ⟨Q, hQ⟩ : ∃ Q, Q = DoQ h t v u [] := ⟨_, rfl⟩
  rw [← hQ]
  obtain ⟨X, hX⟩ : ∃ X, X = h.lo.alloc (.cells (newBlk [.int .i64 3, u64 a.n, .int .i64 a.b, .bool a.w])) := ⟨_, rfl⟩
  have hX' : X = h.lo.alloc (.cells (newBlk (CV.agg [.int .i64 3, u64 a.n, .int .i64 a.b, .bool a.w]).cells)) := hX
  have XE : Ext h X := by rw [hX]; exact (Ext.lo h).alloc' _
  have Xlow : X.low = h.nx := by rw [hX]; rfl
  have Xnx : X.nx = h.nx + 1 := by rw [hX]; rfl
  have Xa : X.blk h.nx = some (newBlk [.int .i64 3, u64 a.n, .int .i64 a.b, .bool a.w]) := by rw [hX]; simp only [go_sem]
  have hl := D.len
  have htn := D.tab.lt
  have at_ : (lim Try.prog σ).call 57 [u, u64 a.n] X = some (.int .i64 (idxI (pNum a.n) L 0), none) := at_run hσ (D.row.ext XE) (by omega) a.n
  obtain ⟨p, x, ce, TY, MY, Ep, op, lowY⟩ := clear_run hσ (D.tab.ext XE) hl
  obtain ⟨Y, hY⟩ : ∃ Y, Y = x.getD X := ⟨_, rfl⟩
  rw [← hY] at TY MY Ep lowY
  have BY : LA Y u L := (D.row.ext XE).keep MY.nx fun k hk => MY.old k (by have := D.row.lt hk; omega) (fun e => D.ne (e ▸ hk)) (fun e => D.apart k e hk)
  have Bl := BY.len2
  have Ynx := MY.nx
  rw [call_eq (hσ _ _ _ (by decide)) fn_25 rfl rfl, Try.ntmps25, Try.results25]
  simp only [go_sem, Act.cs, k3, ← hX, ← hX', Xa, at_, ce, ← hY]
  refine loop_ind (Q := Q) (fun i env h' => evT env 1 = u ∧ evT env 16 = p ∧ evT env 18 = .int .i64 (Int.ofNat i) ∧ Ext Y h' ∧ h'.low = Y.low ∧ ∃ lid, Y.nx ≤ lid ∧ Lst h' 1 (evT env 17) lid ((L.take i).map (·.n)).length (uc ((L.take i).map (·.n)))) L.length 0 ?_ (Nat.zero_le _) ?_ ?_
  · refine ⟨by simp only [go_sem], by simp only [go_sem], by simp only [go_sem]; rfl, ?_⟩
    rw [← hX', ← hY]
    exact ⟨Ext.refl _, rfl, Y.nx, Nat.le_refl _, by simp only [go_sem]; exact Lst.nil _ _ _⟩
  · rintro i env h' ⟨e1, e16, e18, E, elow, lid, hlid, Lu⟩ hi next
    have c0 := ofNat_lt hi
    have w1 := wrap_succ (i := i) (by omega)
    obtain ⟨r, hr⟩ : ∃ r, L[i]? = some r := ⟨_, List.getElem?_eq_getElem hi⟩
    obtain ⟨id, b, _, ea, _, hid, hb, _, A⟩ := (BY.ext E).at_ hr
    have c0' := A.c0
    have hz : (L.take (i + 1)).map (·.n) = (L.take i).map (·.n) ++ [r.n] := by rw [List.take_succ, hr]; simp
    have hle : ((L.take i).map (·.n)).length ≤ 100 := by rw [List.length_map, List.length_take]; omega
    simp only [go_sem, e1, e16, e18, c0, Bl, ea, hb, c0', w1, Nat.mul_one]
    have hen := E.nx
    refine app_step (Q := Q) (by_ := 8) (m := 1) (new := [u64 r.n]) (Lu.ext (Ext.alloc _ _)) (by decide) rfl rfl rfl (by decide) (by omega) (by omega) fun V LV vnx vgn vold vlow vlow2 => ?_
    simp only [go_sem] at vnx vgn vlow vold LV vlow2
    simp only [go_sem, e1, e16, e18, w1]
    refine next _ _ ⟨by simp only [go_sem, e1], by simp only [go_sem, e16], by simp only [go_sem, w1], ⟨by omega, vgn.trans E.gn, fun k hk => ?_⟩, ?_, h'.nx + 1, by omega, ?_⟩
    · exact (vold k (by omega) (fun _ => by omega)).trans ((alloc_get_ne _ _ _ (by omega)).trans (E.old k hk))
    · rcases vlow2 with e | e
      · omega
      · omega
    · rw [hz, List.length_append, uc_app]; simp only [go_sem]; exact LV
  · rintro env h' ⟨e1, e16, e18, E, elow, lid, hlid, Lu⟩
    have c0 := ofNat_nlt (Nat.le_refl L.length)
    rw [List.take_length] at Lu
    obtain ⟨q, hq⟩ : ∃ q, q = evT env 17 := ⟨_, rfl⟩
    rw [← hq] at Lu
    have sr : (lim Try.prog σ).call 59 [p, q] h' = some (.bool true, none) := same_run hσ (Ep.ext E) (el_lst Lu).1 (by rw [List.length_map]; omega)
    simp only [go_sem, e1, e16, e18, c0, Bl, ← hq, sr]
    have hlow : h'.low < h.nx := by omega
    rw [hQ, fin_l _ _ _ hlow]
    have hen := E.nx
    refine ⟨.nils, .nils, some _, rfl, ?_⟩
    refine ⟨(TY.ext E).ext (Ext.up _ _), .inl ⟨rfl, rfl⟩, fun hk => False.elim hk, fun k hk => False.elim hk, ?_, ?_, ?_, fun k hk k1 k2 => ?_, fun k hk => False.elim hk, fun k hk => False.elim hk⟩
    · show min h.low h'.low ≤ h'.nx; omega
    · show h.nx ≤ h'.nx; omega
    · show h'.gn = _; rw [E.gn, MY.gn]; exact XE.gn
    · show h'.t.get k = _; rw [E.old k (by omega), MY.old k (by omega) k1 k2, XE.old k hk]
end
end Go.Cl.O

namespace Go.Cl.O
variable {σ : Sums}
set_option maxRecDepth 1000000

theorem DS.fin2 {h X Y Z : H} {t : Nat} {v u v' u' : CV} {L L' : List Rq} (D : DS h t v u L) (XE : Ext h X) (TY : TA Y t v' L') (MY : Mod X Y t v v') (E : Ext Y Z) (B : LA Z u' L') (ho : ∀ k, own u' k → own u k ∨ Y.nx ≤ k) (hl : Z.low < h.nx) :
    DoQ h t v u L' (some (Go.Cl.fin h Z (.tup [u', .bool true]))) := by
  have xn := XE.nx
  have yn := MY.nx
  have zn := E.nx
  have tn := D.tab.lt
  rw [fin_l _ _ _ hl]
  refine ⟨v', u', some _, rfl, (TY.ext E).ext (Ext.up _ _), B.ext (Ext.up _ _), fun hk => ?_, fun k h1 h2 => ?_, ?_, ?_, ?_, fun k hk k1 k2 => ?_, fun k hk => ?_, fun k hk => ?_⟩
  · rcases ho _ hk with h1 | h1
    · exact D.ne h1
    · omega
  · have l1 := TY.row.lt h1
    rcases ho _ h2 with h3 | h3
    · rcases MY.own k h1 with h4 | h4
      · exact D.apart k h4 h3
      · have := D.row.lt h3; omega
    · omega
  · show min h.low Z.low ≤ Z.nx; omega
  · show h.nx ≤ Z.nx; omega
  · show Z.gn = _; rw [E.gn, MY.gn, XE.gn]
  · show Z.t.get k = _; rw [E.old k (by omega), MY.old k (by omega) k1 k2, XE.old k hk]
  · rcases MY.own k hk with h1 | h1
    · exact .inl h1
    · exact .inr (by omega)
  · rcases ho k hk with h1 | h1
    · exact .inl h1
    · exact .inr (by omega)
theorem RC.last {b : Blk} {L : List Rq} {r0 : Rq} {x : Bool} (C : RC b (L ++ [r0])) (hn : L.length * 4 + 3 < b.n) : RC (b.st (L.length * 4 + 3) (.bool x)) (L ++ [⟨r0.n, r0.b, r0.wr, x⟩]) := by
  intro i r hr
  rcases Nat.lt_or_ge i L.length with hi | hi
  · rw [List.getElem?_append_left hi] at hr
    rw [st_get_ne _ _ _ _ (by omega), st_get_ne _ _ _ _ (by omega), st_get_ne _ _ _ _ (by omega), st_get_ne _ _ _ _ (by omega)]
    exact C i r (by rw [List.getElem?_append_left hi]; exact hr)
  · have hi0 : i = L.length := by
      have := (List.getElem?_eq_some_iff.1 hr).1
      simp at this; omega
    subst hi0
    rw [List.getElem?_append_right (Nat.le_refl _), Nat.sub_self] at hr
    cases hr
    obtain ⟨c0, c1, c2, c3⟩ := C L.length r0 (by simp)
    rw [st_get_ne _ _ _ _ (by omega), st_get_ne _ _ _ _ (by omega), st_get_ne _ _ _ _ (by omega), st_get_same _ _ _ hn]
    exact ⟨c0, c1, c2, rfl⟩
theorem do_come (hσ : ∀ f a h, f ≠ 23 → σ f a h = none) {h : H} {t : Nat} {v u : CV} {L : List Rq} (D : DS h t v u L) (hl : L.length ≤ 99) (a : Act) (k1 : a.k = 1) :
    DoQ h t v u (comeL L a.n a.b a.w) ((lim Try.prog σ).call 25 [.ptr t 0, u, .agg a.cs] h) := by
  obtain ⟨Q, hQ⟩ : ∃ Q, Q = DoQ h t v u (comeL L a.n a.b a.w) := ⟨_, rfl⟩
  rw [← hQ]
  obtain ⟨X, hX⟩ : ∃ X, X = h.lo.alloc (.cells (newBlk [.int .i64 1, u64 a.n, .int .i64 a.b, .bool a.w])) := ⟨_, rfl⟩
  have hX' : X = h.lo.alloc (.cells (newBlk (CV.agg [.int .i64 1, u64 a.n, .int .i64 a.b, .bool a.w]).cells)) := hX
  have XE : Ext h X := by rw [hX]; exact (Ext.lo h).alloc' _
  have Xlow : X.low = h.nx := by rw [hX]; rfl
  have Xnx : X.nx = h.nx + 1 := by rw [hX]; rfl
  have Xa : X.blk h.nx = some (newBlk [.int .i64 1, u64 a.n, .int .i64 a.b, .bool a.w]) := by rw [hX]; simp only [go_sem]
  have htn := D.tab.lt
  have at_ : (lim Try.prog σ).call 57 [u, u64 a.n] X = some (.int .i64 (idxI (pNum a.n) L 0), none) := at_run hσ (D.row.ext XE) (by omega) a.n
  obtain ⟨v', x, ce, TY, MY, hx⟩ := come_run hσ (D.tab.ext XE) D.len D.lt a.n a.b a.w (by omega)
  obtain ⟨Y, hY⟩ : ∃ Y, Y = x.getD X := ⟨_, rfl⟩
  rw [← hY] at TY MY hx
  have BY : LA Y u L := (D.row.ext XE).keep MY.nx fun k hk => MY.old k (by have := D.row.lt hk; omega) (fun e => D.ne (e ▸ hk)) (fun e => D.apart k e hk)
  have Bl := BY.len2
  have Ynx := MY.nx
  have Ya : Y.blk h.nx = some (newBlk [.int .i64 1, u64 a.n, .int .i64 a.b, .bool a.w]) := (blk_eq (MY.old h.nx (by omega) (by omega) (fun hk => by have := D.tab.row.lt hk; omega))).trans Xa
  have stay : comeL L a.n a.b a.w = L → Q (some (fin h Y (.tup [u, .bool true]))) := fun e => by
    rw [hQ]
    rcases hx with ⟨rfl, rfl, h3⟩ | hx
    · rw [e, hY]
      exact D.fin Xlow
    · rw [e] at TY ⊢
      exact D.fin2 XE TY MY (Ext.refl _) BY (fun k hk => .inl hk) (by omega)
  rw [call_eq (hσ _ _ _ (by decide)) fn_25 rfl rfl, Try.ntmps25, Try.results25]
  by_cases hb : a.b ≥ 64
  · have d1 : decide (a.b > 63) = true := decide_eq_true (by omega)
    have ea : comeA L a.n a.b a.w = .tup [.bool false, .int .i64 2] := by rw [comeA, if_pos hb]
    rw [ea] at ce
    simp only [go_sem, Act.cs, k1, ← hX, ← hX', Xa, at_, ce, ← hY, Ya, d1]
    exact stay (by rw [comeL, if_pos hb])
  · have d1 : decide (a.b > 63) = false := decide_eq_false (by omega)
    by_cases hi : idxI (pNum a.n) L 0 ≥ 0
    · have d2 : decide (idxI (pNum a.n) L 0 ≥ 0) = true := decide_eq_true hi
      have ea : comeA L a.n a.b a.w = .tup [.bool false, .int .i64 7] := by rw [comeA, if_neg hb, if_pos hi]
      rw [ea] at ce
      simp only [go_sem, Act.cs, k1, ← hX, ← hX', Xa, at_, ce, ← hY, Ya, d1, d2]
      exact stay (by rw [comeL, if_neg hb, if_pos hi])
    · have d2 : decide (idxI (pNum a.n) L 0 ≥ 0) = false := decide_eq_false hi
      have eL : comeL L a.n a.b a.w = L ++ [newR L a.n a.b a.w] := by rw [comeL, if_neg hb, if_neg hi]
      have ea : comeA L a.n a.b a.w = .tup [.bool (newR L a.n a.b a.w).wy, .int .i64 0] := by rw [comeA, if_neg hb, if_neg hi]
      rw [ea] at ce
      have hylow : Y.low ≤ t := by
        rcases hx with ⟨_, _, h3⟩ | hx
        · rw [eL] at h3
          have := congrArg List.length h3
          simp at this
        · exact hx
      obtain ⟨b', hb'⟩ : ∃ b', b' = max a.b (-1) := ⟨_, rfl⟩
      have bR : ∀ z, z = b' → buildT Try.prog 112 [(0, u64 a.n), (1, .int .i64 z), (2, .bool a.w)] = some (.agg [u64 a.n, .int .i64 z, .bool a.w, .bool false]) := fun z _ => by
        kernel_rfl
      by_cases hneg : a.b < 0
      · have d3 : decide (a.b < 0) = true := decide_eq_true hneg
        have eb : b' = -1 := by omega
        rw [eb] at bR
        have bR := bR _ rfl
        simp only [go_sem, Act.cs, k1, ← hX, ← hX', Xa, at_, ce, ← hY, Ya, d1, d2, d3]
        refine cnd_go (Q := Q) (by kernel_rfl) ?_
        have cu := LA.src BY (CV.nils)
        obtain ⟨w1, l1, Z1, ap1, LZ1, nx1, gn1, old1, low1, hl1⟩ := app_any (X := Y) (v := .nils) (lid := Y.nx) (m := L.length) (Lst.nil Y 4 Y.nx) (rcs_len L) (rcs_one L) (by omega)
        rw [ap1] at cu
        have Z1a : Z1.blk h.nx = some (newBlk [.int .i64 1, u64 a.n, .int .i64 a.b, .bool a.w]) := (blk_eq (old1 _ (by omega) (by omega))).trans Ya
        obtain ⟨Z2, hZ2⟩ : ∃ Z2, Z2 = Z1.alloc (.cells (((({ n := 4, d := [CV.int IntKind.u64 0, CV.int IntKind.i64 0, CV.bool false, CV.bool false], t := Go.Cl.T.nil : Blk }.st 0 (u64 a.n)).st 1 (CV.int IntKind.i64 (-1))).st 2 (CV.bool a.w)).st 3 (CV.bool false))) := ⟨_, rfl⟩
        have Z2E : Ext Z1 Z2 := by rw [hZ2]; exact Ext.alloc _ _
        have Z2nx : Z2.nx = Z1.nx + 1 := by rw [hZ2]; rfl
        have Z2b : Z2.blk Z1.nx = some (((({ n := 4, d := [CV.int IntKind.u64 0, CV.int IntKind.i64 0, CV.bool false, CV.bool false], t := Go.Cl.T.nil : Blk }.st 0 (u64 a.n)).st 1 (CV.int IntKind.i64 (-1))).st 2 (CV.bool a.w)).st 3 (CV.bool false)) := by rw [hZ2]; exact alloc_blk_same _ _ _ rfl
        obtain ⟨w2, l2, Z3, ap2, LZ2, nx2, gn2, old2, low2, hl2⟩ := app_any (X := Z2) (v := w1) (lid := l1) (m := 1) (new := [u64 a.n, .int .i64 (-1), .bool a.w, .bool false]) (LZ1.ext Z2E) rfl rfl (by omega)
        simp only [go_sem, Act.cs, k1, ← hX, ← hX', Xa, at_, ce, ← hY, Ya, d1, d2, d3, cu, Z1a, bR, ← hZ2, Z2b, ap2]
        refine cnd_goF (Q := Q) (by kernel_rfl) ?_
        refine cnd_goF' (Q := Q) (by kernel_rfl) ?_
        refine cnd_go' (Q := Q) (floatS_of 1 (by kernel_rfl) rfl (shutLast_of Z2nx Z2b (by kernel_rfl))) ?_
        have hu2 : beqC u u = true := BY.one.2.2
        have hw2 : beqC w2 w2 = true := by
          rcases LZ2.val with ⟨_, rfl⟩ | ⟨_, rfl, _⟩
          · rfl
          · exact beqC_sl _ _ _ _
        have Z2a : Z2.blk h.nx = some (newBlk [.int .i64 1, u64 a.n, .int .i64 a.b, .bool a.w]) := (Z2E.blk (by omega)).trans Z1a
        have Z3a : Z3.blk h.nx = some (newBlk [.int .i64 1, u64 a.n, .int .i64 a.b, .bool a.w]) := (blk_eq (old2 _ (by omega) (by omega))).trans Z2a
        simp only [go_sem, ← hX, ← hX', ← hY, Ya, Z1a, Z2a, Z3a, hu2, hw2, bR, beqC, beqCL, BEq.rfl, Bool.and_self, Int.reduceBEq, beq_self_eq_true]
        obtain ⟨r0, hr0⟩ : ∃ r0 : Rq, r0 = ⟨a.n, (-1), a.w, false⟩ := ⟨_, rfl⟩
        have hrc : rcs (L ++ [r0]) = rcs L ++ [u64 a.n, .int .i64 (-1), .bool a.w, .bool false] := by rw [rcs_app, hr0]; rfl
        have LZ : Lst Z3 4 w2 l2 (L ++ [r0]).length (rcs (L ++ [r0])) := by rw [hrc, List.length_append, ← List.nil_append (rcs L), List.length_singleton, ← Nat.zero_add L.length]; exact LZ2
        obtain ⟨LA3, O3⟩ := LA.of_lst LZ
        have Wl := LA3.len2
        have hgr : (L ++ [r0])[L.length]? = some r0 := by simp
        have fr : (lim Try.prog σ).call 58 [w2, .int .i64 (Int.ofNat L.length)] Z3 = some (.bool (freeN (L ++ [r0]) L.length r0), none) := free_run hσ LA3 (by simp; omega) hgr
        have hfn : freeN (L ++ [r0]) L.length r0 = !stp L r0 := by unfold freeN stp; rw [List.take_left]
        rw [hfn] at fr
        have hnw : newR L a.n a.b a.w = ⟨a.n, (-1), a.w, !stp L r0⟩ := by
          unfold newR
          rw [stopsA_eq, ← hb', eb, hr0]
        have hwm : IntKind.wrap .i64 (Int.ofNat (L ++ [r0]).length - 1) = Int.ofNat L.length := by
          rw [List.length_append, List.length_singleton, show (Int.ofNat (L.length + 1) - 1) = Int.ofNat L.length by simp]
          exact wrap_i64 (Int.le_trans (by decide) (Int.natCast_nonneg L.length)) (Int.lt_trans (Int.ofNat_lt.2 (show L.length < 1000 by omega)) (by decide))
        rcases LZ.val with ⟨h0, _⟩ | ⟨h0, rfl, q1, wb, q2, q3, q4, q5⟩
        · simp at h0
        have C := RC.of_get q5
        have ia : ∀ kd, indexAddrT Try.prog 59 (.sl l2 0 (L ++ [r0]).length (.opn 4)) (.int kd (Int.ofNat L.length)) = some (.ptr l2 (L.length * 4)) := fun kd => by
          rw [ia_59, blt_eq', decide_eq_true (by simp), cond_true, Nat.zero_add]
        have hwn : L.length * 4 + 3 < wb.n := by rw [q4]; simp; omega
        obtain ⟨Z4, hZ4⟩ : ∃ Z4, Z4 = Z3.put l2 (.cells (wb.st (L.length * 4 + 3) (.bool (!stp L r0)))) := ⟨_, rfl⟩
        have Z4b : Z4.blk l2 = some (wb.st (L.length * 4 + 3) (.bool (!stp L r0))) := by rw [hZ4]; exact put_blk_same _ _ _
        simp only [go_sem, Wl, fr, hwm, ia, q2, q3, hwn, ← hZ4]
        have way : (newR L a.n a.b a.w).wy = !stp L r0 := by rw [hnw]
        have g4 : (wb.st (L.length * 4 + 3) (.bool (!stp L r0))).get (L.length * 4 + 3) = some (.bool (!stp L r0)) := st_get_same _ _ _ hwn
        refine cnd_go (Q := Q) (by kernel_rfl) ?_
        simp only [go_sem, Wl, hwm, ia, Z4b, g4, way, beq_self_eq_true]
        have hn2 := nx2
        have Z4E : Ext Y Z4 := by
          refine ⟨by rw [hZ4]; show Y.nx ≤ Z3.nx; omega, by rw [hZ4]; show Z3.gn = _; rw [gn2, Z2E.gn, gn1], fun k hk => ?_⟩
          rw [hZ4, put_get_ne _ _ _ _ (by omega), old2 k (by omega) (by omega), Z2E.old k (by omega), old1 k (by omega) (by omega)]
        have Z2low : Z2.low = Z1.low := by rw [hZ2]; rfl
        have Z4low : Z4.low < h.nx := by
          have : Z4.low = min Z3.low l2 := by rw [hZ4]; rfl
          omega
        have B4 : LA Z4 (.sl l2 0 (L ++ [r0]).length (.opn 4)) (L ++ [newR L a.n a.b a.w]) := by
          rw [hnw]
          refine .inr (.inr ⟨l2, _, (L ++ [r0]).length, by simp, by rw [hZ4]; show l2 < Z3.nx; omega, Z4b, q3, q4, by simp, ?_⟩)
          have := RC.last (x := !stp L r0) C (by rw [q4]; simp; omega)
          rw [hr0] at this
          rw [hr0]
          exact this
        rw [hQ, eL]
        rw [eL] at TY
        exact D.fin2 XE TY MY Z4E B4 (fun k hk => .inr (by cases hk; omega)) Z4low
      · have d3 : decide (a.b < 0) = false := decide_eq_false hneg
        have eb : b' = a.b := by omega
        rw [eb] at bR
        have bR := bR _ rfl
        simp only [go_sem, Act.cs, k1, ← hX, ← hX', Xa, at_, ce, ← hY, Ya, d1, d2, d3]
        refine cnd_go (Q := Q) (by kernel_rfl) ?_
        have cu := LA.src BY (CV.nils)
        obtain ⟨w1, l1, Z1, ap1, LZ1, nx1, gn1, old1, low1, hl1⟩ := app_any (X := Y) (v := .nils) (lid := Y.nx) (m := L.length) (Lst.nil Y 4 Y.nx) (rcs_len L) (rcs_one L) (by omega)
        rw [ap1] at cu
        have Z1a : Z1.blk h.nx = some (newBlk [.int .i64 1, u64 a.n, .int .i64 a.b, .bool a.w]) := (blk_eq (old1 _ (by omega) (by omega))).trans Ya
        obtain ⟨Z2, hZ2⟩ : ∃ Z2, Z2 = Z1.alloc (.cells (((({ n := 4, d := [CV.int IntKind.u64 0, CV.int IntKind.i64 0, CV.bool false, CV.bool false], t := Go.Cl.T.nil : Blk }.st 0 (u64 a.n)).st 1 (CV.int IntKind.i64 a.b)).st 2 (CV.bool a.w)).st 3 (CV.bool false))) := ⟨_, rfl⟩
        have Z2E : Ext Z1 Z2 := by rw [hZ2]; exact Ext.alloc _ _
        have Z2nx : Z2.nx = Z1.nx + 1 := by rw [hZ2]; rfl
        have Z2b : Z2.blk Z1.nx = some (((({ n := 4, d := [CV.int IntKind.u64 0, CV.int IntKind.i64 0, CV.bool false, CV.bool false], t := Go.Cl.T.nil : Blk }.st 0 (u64 a.n)).st 1 (CV.int IntKind.i64 a.b)).st 2 (CV.bool a.w)).st 3 (CV.bool false)) := by rw [hZ2]; exact alloc_blk_same _ _ _ rfl
        obtain ⟨w2, l2, Z3, ap2, LZ2, nx2, gn2, old2, low2, hl2⟩ := app_any (X := Z2) (v := w1) (lid := l1) (m := 1) (new := [u64 a.n, .int .i64 a.b, .bool a.w, .bool false]) (LZ1.ext Z2E) rfl rfl (by omega)
        simp only [go_sem, Act.cs, k1, ← hX, ← hX', Xa, at_, ce, ← hY, Ya, d1, d2, d3, cu, Z1a, bR, ← hZ2, Z2b, ap2]
        refine cnd_goF (Q := Q) (by kernel_rfl) ?_
        refine cnd_goF' (Q := Q) (by kernel_rfl) ?_
        refine cnd_go' (Q := Q) (floatS_of 1 (by kernel_rfl) rfl (shutLast_of Z2nx Z2b (by kernel_rfl))) ?_
        have hu2 : beqC u u = true := BY.one.2.2
        have hw2 : beqC w2 w2 = true := by
          rcases LZ2.val with ⟨_, rfl⟩ | ⟨_, rfl, _⟩
          · rfl
          · exact beqC_sl _ _ _ _
        have Z2a : Z2.blk h.nx = some (newBlk [.int .i64 1, u64 a.n, .int .i64 a.b, .bool a.w]) := (Z2E.blk (by omega)).trans Z1a
        have Z3a : Z3.blk h.nx = some (newBlk [.int .i64 1, u64 a.n, .int .i64 a.b, .bool a.w]) := (blk_eq (old2 _ (by omega) (by omega))).trans Z2a
        simp only [go_sem, ← hX, ← hX', ← hY, Ya, Z1a, Z2a, Z3a, hu2, hw2, bR, beqC, beqCL, BEq.rfl, Bool.and_self, Int.reduceBEq, beq_self_eq_true]
        obtain ⟨r0, hr0⟩ : ∃ r0 : Rq, r0 = ⟨a.n, a.b, a.w, false⟩ := ⟨_, rfl⟩
        have hrc : rcs (L ++ [r0]) = rcs L ++ [u64 a.n, .int .i64 a.b, .bool a.w, .bool false] := by rw [rcs_app, hr0]; rfl
        have LZ : Lst Z3 4 w2 l2 (L ++ [r0]).length (rcs (L ++ [r0])) := by rw [hrc, List.length_append, ← List.nil_append (rcs L), List.length_singleton, ← Nat.zero_add L.length]; exact LZ2
        obtain ⟨LA3, O3⟩ := LA.of_lst LZ
        have Wl := LA3.len2
        have hgr : (L ++ [r0])[L.length]? = some r0 := by simp
        have fr : (lim Try.prog σ).call 58 [w2, .int .i64 (Int.ofNat L.length)] Z3 = some (.bool (freeN (L ++ [r0]) L.length r0), none) := free_run hσ LA3 (by simp; omega) hgr
        have hfn : freeN (L ++ [r0]) L.length r0 = !stp L r0 := by unfold freeN stp; rw [List.take_left]
        rw [hfn] at fr
        have hnw : newR L a.n a.b a.w = ⟨a.n, a.b, a.w, !stp L r0⟩ := by
          unfold newR
          rw [stopsA_eq, ← hb', eb, hr0]
        have hwm : IntKind.wrap .i64 (Int.ofNat (L ++ [r0]).length - 1) = Int.ofNat L.length := by
          rw [List.length_append, List.length_singleton, show (Int.ofNat (L.length + 1) - 1) = Int.ofNat L.length by simp]
          exact wrap_i64 (Int.le_trans (by decide) (Int.natCast_nonneg L.length)) (Int.lt_trans (Int.ofNat_lt.2 (show L.length < 1000 by omega)) (by decide))
        rcases LZ.val with ⟨h0, _⟩ | ⟨h0, rfl, q1, wb, q2, q3, q4, q5⟩
        · simp at h0
        have C := RC.of_get q5
        have ia : ∀ kd, indexAddrT Try.prog 59 (.sl l2 0 (L ++ [r0]).length (.opn 4)) (.int kd (Int.ofNat L.length)) = some (.ptr l2 (L.length * 4)) := fun kd => by
          rw [ia_59, blt_eq', decide_eq_true (by simp), cond_true, Nat.zero_add]
        have hwn : L.length * 4 + 3 < wb.n := by rw [q4]; simp; omega
        obtain ⟨Z4, hZ4⟩ : ∃ Z4, Z4 = Z3.put l2 (.cells (wb.st (L.length * 4 + 3) (.bool (!stp L r0)))) := ⟨_, rfl⟩
        have Z4b : Z4.blk l2 = some (wb.st (L.length * 4 + 3) (.bool (!stp L r0))) := by rw [hZ4]; exact put_blk_same _ _ _
        simp only [go_sem, Wl, fr, hwm, ia, q2, q3, hwn, ← hZ4]
        have way : (newR L a.n a.b a.w).wy = !stp L r0 := by rw [hnw]
        have g4 : (wb.st (L.length * 4 + 3) (.bool (!stp L r0))).get (L.length * 4 + 3) = some (.bool (!stp L r0)) := st_get_same _ _ _ hwn
        refine cnd_go (Q := Q) (by kernel_rfl) ?_
        simp only [go_sem, Wl, hwm, ia, Z4b, g4, way, beq_self_eq_true]
        have hn2 := nx2
        have Z4E : Ext Y Z4 := by
          refine ⟨by rw [hZ4]; show Y.nx ≤ Z3.nx; omega, by rw [hZ4]; show Z3.gn = _; rw [gn2, Z2E.gn, gn1], fun k hk => ?_⟩
          rw [hZ4, put_get_ne _ _ _ _ (by omega), old2 k (by omega) (by omega), Z2E.old k (by omega), old1 k (by omega) (by omega)]
        have Z2low : Z2.low = Z1.low := by rw [hZ2]; rfl
        have Z4low : Z4.low < h.nx := by
          have : Z4.low = min Z3.low l2 := by rw [hZ4]; rfl
          omega
        have B4 : LA Z4 (.sl l2 0 (L ++ [r0]).length (.opn 4)) (L ++ [newR L a.n a.b a.w]) := by
          rw [hnw]
          refine .inr (.inr ⟨l2, _, (L ++ [r0]).length, by simp, by rw [hZ4]; show l2 < Z3.nx; omega, Z4b, q3, q4, by simp, ?_⟩)
          have := RC.last (x := !stp L r0) C (by rw [q4]; simp; omega)
          rw [hr0] at this
          rw [hr0]
          exact this
        rw [hQ, eL]
        rw [eL] at TY
        exact D.fin2 XE TY MY Z4E B4 (fun k hk => .inr (by cases hk; omega)) Z4low
end Go.Cl.O
