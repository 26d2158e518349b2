/- The program's functions, run by the rewriting evaluator: what each answers and leaves (UgC). -/
import Derived.Test.YtmpaohmapdcckaaUgB
set_option linter.all false
open Go Go.Cl Go.Proofs
namespace Go.Cl.U
noncomputable section
variable {σ : Sums}
set_option maxRecDepth 1000000
set_option maxHeartbeats 4000000

def lcs (ls : List Ln) : List CV := ls.flatMap Ln.cs
theorem lcs_get : ∀ (ls : List Ln) (i : Nat) (l : Ln), ls[i]? = some l → nth (lcs ls) (i * 4) = some (u64 l.c) ∧ nth (lcs ls) (i * 4 + 1) = some (u64 l.b) ∧ nth (lcs ls) (i * 4 + 2) = some (u64 l.h0) ∧ nth (lcs ls) (i * 4 + 3) = some (u64 l.h1)
  | [], i, l, h => by simp at h
  | a :: ls, 0, l, h => by
    simp at h; subst h; exact ⟨rfl, rfl, rfl, rfl⟩
  | a :: ls, i + 1, l, h => by
    have ih := lcs_get ls i l (by simpa using h)
    have e : ∀ k, nth (lcs (a :: ls)) ((i + 1) * 4 + k) = nth (lcs ls) (i * 4 + k) := fun k => by
      rw [show (i + 1) * 4 + k = i * 4 + k + 1 + 1 + 1 + 1 by omega]; rfl
    exact ⟨(e 0).trans ih.1, (e 1).trans ih.2.1, (e 2).trans ih.2.2.1, (e 3).trans ih.2.2.2⟩
/-- a block of lines -/
structure LB (h : H) (id : Nat) (ls : List Ln) : Prop where
  lt : id < h.nx
  blk : ∃ b, h.blk id = some b ∧ b.ro = false ∧ b.n = 16 ∧ ∀ i l, ls[i]? = some l → b.get (i * 4) = some (u64 l.c) ∧ b.get (i * 4 + 1) = some (u64 l.b) ∧ b.get (i * 4 + 2) = some (u64 l.h0) ∧ b.get (i * 4 + 3) = some (u64 l.h1)
theorem LB.ext {h h' : H} {id : Nat} {ls : List Ln} (L : LB h id ls) (E : Ext h h') : LB h' id ls := ⟨Nat.lt_of_lt_of_le L.lt E.nx, by rw [E.blk L.lt]; exact L.blk⟩
theorem LB.of_blk {h h' : H} {id : Nat} {ls : List Ln} (L : LB h id ls) (hn : h.nx ≤ h'.nx) (e : h'.blk id = h.blk id) : LB h' id ls := ⟨Nat.lt_of_lt_of_le L.lt hn, by rw [e]; exact L.blk⟩
def set4 (b : Blk) (i : Nat) (l : Ln) : Blk := (((b.st (i * 4) (u64 l.c)).st (i * 4 + 1) (u64 l.b)).st (i * 4 + 2) (u64 l.h0)).st (i * 4 + 3) (u64 l.h1)
theorem LB.put {h : H} {id : Nat} {ls : List Ln} {b : Blk} (hlt : id < h.nx) (hr : b.ro = false) (hn : b.n = 16) (hg : ∀ i l, ls[i]? = some l → b.get (i * 4) = some (u64 l.c) ∧ b.get (i * 4 + 1) = some (u64 l.b) ∧ b.get (i * 4 + 2) = some (u64 l.h0) ∧ b.get (i * 4 + 3) = some (u64 l.h1))
    {i : Nat} (hi : i < 4) (l : Ln) : LB (h.put id (.cells (set4 b i l))) id (ls.set i l) := by
  refine ⟨hlt, _, put_blk_same _ _ _, by unfold set4; simp only [go_sem, hr], by unfold set4; simp only [go_sem, hn], fun j x hx => ?_⟩
  by_cases q : i = j
  · subst q
    have hx : x = l := by
      rw [List.getElem?_set_self' ] at hx
      cases hq : ls[i]? with
      | none => rw [hq] at hx; simp at hx
      | some y => rw [hq] at hx; simp at hx; exact hx.symm
    subst hx
    unfold set4
    have n0 : b.n = 16 := hn
    refine ⟨?_, ?_, ?_, ?_⟩
    · rw [st_get_ne _ _ _ _ (by omega), st_get_ne _ _ _ _ (by omega), st_get_ne _ _ _ _ (by omega), st_get_same _ _ _ (by omega)]
    · rw [st_get_ne _ _ _ _ (by omega), st_get_ne _ _ _ _ (by omega), st_get_same _ _ _ (by show _ < b.n; omega)]
    · rw [st_get_ne _ _ _ _ (by omega), st_get_same _ _ _ (by show _ < b.n; omega)]
    · rw [st_get_same _ _ _ (by show _ < b.n; omega)]
  · rw [List.getElem?_set_ne q] at hx
    obtain ⟨q1, q2, q3, q4⟩ := hg j x hx
    unfold set4
    refine ⟨?_, ?_, ?_, ?_⟩ <;> rw [st_get_ne _ _ _ _ (by omega), st_get_ne _ _ _ _ (by omega), st_get_ne _ _ _ _ (by omega), st_get_ne _ _ _ _ (by omega)]
    · exact q1
    · exact q2
    · exact q3
    · exact q4
theorem and3 (t xo yo) (x : Int) : ∃ k : Nat, k < 4 ∧ binT Try.prog .and t xo yo (.int .i64 x) (.int .i64 3) = some (.int .i64 (Int.ofNat k)) := by
  refine ⟨(BitVec.ofInt 64 x &&& BitVec.ofInt 64 3).toNat, ?_, ?_⟩
  · have : (BitVec.ofInt 64 x &&& BitVec.ofInt 64 3).toNat ≤ (BitVec.ofInt 64 3).toNat := by rw [BitVec.toNat_and]; exact Nat.and_le_right
    have e : (BitVec.ofInt 64 3).toNat = 3 := rfl
    omega
  · have : (BitVec.ofInt 64 x &&& BitVec.ofInt 64 3).toNat ≤ (BitVec.ofInt 64 3).toNat := by rw [BitVec.toNat_and]; exact Nat.and_le_right
    have e : (BitVec.ofInt 64 3).toNat = 3 := rfl
    show some (CV.int .i64 (IntKind.wrap .i64 ((BitVec.ofInt 64 x &&& BitVec.ofInt 64 3).toNat : Int))) = _
    generalize (BitVec.ofInt 64 x &&& BitVec.ofInt 64 3).toNat = n at *
    congr 2
    have : n = 0 ∨ n = 1 ∨ n = 2 ∨ n = 3 := by omega
    rcases this with rfl | rfl | rfl | rfl <;> rfl
def dcs (l : List (Int × Int × Int)) : List CV := l.flatMap fun d => [.int .i64 d.1, .int .i64 d.2.1, .int .i64 d.2.2]
theorem dcs_get : ∀ (ls : List (Int × Int × Int)) (i : Nat) (k t f : Int), ls[i]? = some (k, t, f) → nth (dcs ls) (i * 3 + 0) = some (.int .i64 k) ∧ nth (dcs ls) (i * 3 + 1) = some (.int .i64 t) ∧ nth (dcs ls) (i * 3 + 2) = some (.int .i64 f)
  | [], i, k, t, f, h => by simp at h
  | a :: ls, 0, k, t, f, h => by
    simp at h; subst h; exact ⟨rfl, rfl, rfl⟩
  | a :: ls, i + 1, k, t, f, h => by
    have ih := dcs_get ls i k t f (by simpa using h)
    have e : ∀ m, nth (dcs (a :: ls)) ((i + 1) * 3 + m) = nth (dcs ls) (i * 3 + m) := fun m => by
      rw [show (i + 1) * 3 + m = i * 3 + m + 1 + 1 + 1 by omega]; rfl
    exact ⟨(e 0).trans ih.1, (e 1).trans ih.2.1, (e 2).trans ih.2.2⟩
theorem num_run (hσ : ∀ f a h, f ≠ 9 → σ f a h = none) (h : H) (n : Int) : RetQ (.int .i64 n) ((lim Try.prog σ).call 11 [.int .i64 n] h) := by
  rw [call_eq (hσ _ _ _ (by decide)) fn_11 rfl rfl, Try.ntmps11, Try.results11]
  simp only [go_sem]
  exact congrArg some (fin_q _ _ _ rfl rfl)
theorem lines_run (hσ : ∀ f a h, f ≠ 9 → σ f a h = none) (hk : ∀ h, (lim Try.prog σ).call 9 [] h = some (.bool true, none)) {h : H} {v : CV} {ds : List (Int × Int × Int)} (A : Sl Try.prog 39 h v 3 ds.length (dcs ds)) :
    Tru ((lim Try.prog σ).call 4 [v] h) := by
  obtain ⟨Q, hQ⟩ : ∃ Q : Option (CV × Option H) → Prop, Q = Tru := ⟨_, rfl⟩
  rw [← hQ]
  rw [call_eq (hσ _ _ _ (by decide)) fn_4 rfl rfl, Try.ntmps4, Try.results4]
  have Alen := A.len
  by_cases q0 : Int.ofNat ds.length > 60
  · simp only [go_sem, Alen, q0, hk]
    rw [hQ]; exact tru_fin _ _
  have hlen : ds.length ≤ 60 := by
    have : ¬ (ds.length : Int) > 60 := q0
    omega
  simp only [go_sem, Alen, q0, hk]
  refine loop_ind (Q := Q) (fun i env h' => evT env 0 = v ∧ evT env 3 = .ptr h.nx 0 ∧ evT env 4 = .int .i64 (Int.ofNat i) ∧ LB h' h.nx (List.replicate i ⟨1, 0, 0, 0⟩ ++ List.replicate (4 - i) ⟨0, 0, 0, 0⟩) ∧ Ext h h' ∧ h'.low = h.nx ∧ h'.nx = h.nx + 1) 4 0 ?_ (by decide) ?_ ?_
  · refine ⟨by simp only [go_sem], by simp only [go_sem], by simp only [go_sem]; rfl, ?_, ?_, ?_, ?_⟩
    · simp only [go_sem]
      refine ⟨by simp only [go_sem] <;> omega, _, alloc_blk_same _ _ _ rfl, rfl, rfl, fun i l hl => ?_⟩
      match i, hl with
      | 0, hl => simp at hl; subst hl; exact ⟨rfl, rfl, rfl, rfl⟩
      | 1, hl => simp at hl; subst hl; exact ⟨rfl, rfl, rfl, rfl⟩
      | 2, hl => simp at hl; subst hl; exact ⟨rfl, rfl, rfl, rfl⟩
      | 3, hl => simp at hl; subst hl; exact ⟨rfl, rfl, rfl, rfl⟩
      | n + 4, hl => simp at hl
    · simp only [go_sem]; exact (Ext.lo h).alloc' _
    · simp only [go_sem]
    · simp only [go_sem]
  · rintro i env h' ⟨e0, e3, e4, L, E, hlow, hnx⟩ hi next
    have c0 : Int.ofNat i < 4 := by simp; omega
    have w1 := wrap_succ (i := i) (by omega)
    obtain ⟨b, hb, hr, hn, hg⟩ := L.blk
    have m0 : i * 4 < 16 := by omega
    have m1 : i * 4 + 1 < 16 := by omega
    have m2 : i * 4 + 1 + 1 < 16 := by omega
    have m3 : i * 4 + 1 + 1 + 1 < 16 := by omega
    have P4 := LB.put L.lt hr hn hg hi (⟨1, 0, 0, 0⟩ : Ln)
    have hset : (List.replicate i (⟨1, 0, 0, 0⟩ : Ln) ++ List.replicate (4 - i) (⟨0, 0, 0, 0⟩ : Ln)).set i (⟨1, 0, 0, 0⟩ : Ln) = List.replicate (i + 1) (⟨1, 0, 0, 0⟩ : Ln) ++ List.replicate (4 - (i + 1)) (⟨0, 0, 0, 0⟩ : Ln) := by
      match i, hi with
      | 0, _ => rfl
      | 1, _ => rfl
      | 2, _ => rfl
      | 3, _ => rfl
    rw [hset] at P4
    simp only [go_sem, e0, e3, e4, c0, hi, hb, hr, hn, w1, m0, m1, m2, m3, decide_true]
    refine next _ _ ⟨by simp only [go_sem, e0], by simp only [go_sem, e3], by simp only [go_sem, w1], P4, E.put _ (Nat.le_refl _), ?_, hnx⟩
    · show min h'.low h.nx = h.nx; omega
  · rintro env h' ⟨e0, e3, e4, L, E, hlow, hnx⟩
    have c0 : ¬ Int.ofNat 4 < 4 := by decide
    simp only [go_sem, e0, e3, e4, c0, Alen]
    refine loop_ind (Q := Q) (fun i env X => evT env 0 = v ∧ evT env 3 = .ptr h.nx 0 ∧ evT env 7 = .int .i64 (Int.ofNat i) ∧ ∃ ls draw bs es lid, LInv ls draw bs es ∧ LB X h.nx ls ∧ evT env 5 = u64 draw ∧ Lst X 2 (evT env 6) lid bs.length (bcs bs) ∧ h.nx < lid ∧ Ext h X ∧ X.low = h.nx ∧ draw ≤ i + 1 ∧ bs.length ≤ i ∧ h.nx < X.nx) ds.length 0 ?_ (Nat.zero_le _) ?_ ?_
    · exact ⟨by simp only [go_sem, e0], by simp only [go_sem, e3], by simp only [go_sem]; rfl, _, 1, [], [(1, 0)], h.nx + 1, LInv.start, L, by simp only [go_sem]; rfl, by simp only [go_sem]; exact Lst.nil _ _ _, by omega, E, hlow, by omega, Nat.le_refl _, by omega⟩
    · rintro i env X ⟨f0, f3, f7, ls, draw, bs, es, lid, I, LX, f5, BX, hlid, EX, xlow, hdr, hbl, hxn⟩ hi next
      have c1 := ofNat_lt hi
      have w1 := wrap_succ (i := i) (by omega)
      obtain ⟨⟨kd, to, fr⟩, hd⟩ : ∃ x, ds[i]? = some x := ⟨_, List.getElem?_eq_getElem hi⟩
      obtain ⟨did, doff, db, di, hdid, hdb, _, hcell⟩ := A.elt i hi
      obtain ⟨n0, n1, n2⟩ := dcs_get ds i kd to fr hd
      have g0 := hcell 0 _ (by decide) n0
      have g1 := hcell 1 _ (by decide) n1
      have g2 := hcell 2 _ (by decide) n2
      rw [Nat.add_zero] at g0
      have hdX : X.blk did = some db := (EX.blk hdid).trans hdb
      obtain ⟨k, hk4, ek⟩ : ∃ k : Nat, k < 4 ∧ ∀ t xo yo, binT Try.prog .and t xo yo (.int .i64 to) (.int .i64 3) = some (.int .i64 (Int.ofNat k)) := by
        obtain ⟨k, h1, h2⟩ := and3 0 (.tmp 0) (.tmp 0) to
        exact ⟨k, h1, fun _ _ _ => h2⟩
      obtain ⟨k', hk4', ek'⟩ : ∃ k : Nat, k < 4 ∧ ∀ t xo yo, binT Try.prog .and t xo yo (.int .i64 fr) (.int .i64 3) = some (.int .i64 (Int.ofNat k)) := by
        obtain ⟨k, h1, h2⟩ := and3 0 (.tmp 0) (.tmp 0) fr
        exact ⟨k, h1, fun _ _ _ => h2⟩
      simp only [go_sem, f0, f3, f5, f7, c1, Alen, di, hdX, g0, g1, g2, ek, ek']
      refine cnd_go (Q := Q) (by kernel_rfl) ?_
      simp only [go_sem, f0, f3, f5, f7, c1, Alen, di, hdX, g0, g1, g2, ek, ek']
      obtain ⟨l, hl⟩ : ∃ l, ls[k]? = some l := ⟨_, List.getElem?_eq_getElem (by rw [I.len]; exact hk4)⟩
      obtain ⟨l', hl'⟩ : ∃ l, ls[k']? = some l := ⟨_, List.getElem?_eq_getElem (by rw [I.len]; exact hk4')⟩
      obtain ⟨b, hb, hr, hn, hg⟩ := LX.blk
      obtain ⟨q1, q2, q3, q4⟩ := hg k l hl
      obtain ⟨r1, r2, r3, r4⟩ := hg k' l' hl'
      have m0 : k * 4 < 16 := by omega
      have m1 : k * 4 + 1 < 16 := by omega
      have m2 : k * 4 + 1 + 1 < 16 := by omega
      have m3 : k * 4 + 1 + 1 + 1 < 16 := by omega
      have bl : (lim Try.prog σ).call 17 [.agg [u64 l.c, u64 l.b, u64 l.h0, u64 l.h1]] X = some (.bool (decide (l.c = 0)), none) := blank_run hσ X l
      by_cases k1 : kd = 1
      · have d1 : decide (kd = 1) = true := decide_eq_true k1
        by_cases z : l.c = 0
        · have dz : decide (l.c = 0) = true := decide_eq_true z
          simp only [go_sem, f0, f3, f5, f7, c1, Alen, di, hdX, g0, g1, g2, ek, ek', d1, hk4, hb, q1, q2, q3, q4, bl, dz, w1]
          refine next _ _ ⟨by simp only [go_sem, f0], by simp only [go_sem, f3], by simp only [go_sem, w1], ls, draw, bs, es, lid, I, LX, by simp only [go_sem, f5], by simp only [go_sem]; exact BX, hlid, EX, xlow, by omega, by omega, hxn⟩
        have dz : decide (l.c = 0) = false := decide_eq_false z
        have hmod : (draw + 1) % 18446744073709551616 = draw + 1 := by omega
        have l1 : CV.int .u64 1 = u64 1 := rfl
        have al : (lim Try.prog σ).call 18 [.agg [u64 l.c, u64 l.b, u64 l.h0, u64 l.h1], u64 (draw + 1)] X = some (.tup [(alone l (draw + 1)).cv, .bool (decide (l.b = 0))], none) := alone_run hσ X l (draw + 1)
        obtain ⟨nb, hnb⟩ : ∃ nb : Blk, nb = ((((newBlk [CV.int IntKind.u64 0, CV.int IntKind.u64 0, CV.int IntKind.u64 0, CV.int IntKind.u64 0]).st 0 (u64 (alone l (draw + 1)).c)).st 1 (u64 (alone l (draw + 1)).b)).st 2 (u64 (alone l (draw + 1)).h0)).st 3 (u64 (alone l (draw + 1)).h1) := ⟨_, rfl⟩
        have nb0 : nb.get 0 = some (u64 (alone l (draw + 1)).c) := by rw [hnb]; rfl
        have nb1 : nb.get 1 = some (u64 (alone l (draw + 1)).b) := by rw [hnb]; rfl
        have nb2 : nb.get 2 = some (u64 (alone l (draw + 1)).h0) := by rw [hnb]; rfl
        have nb3 : nb.get 3 = some (u64 (alone l (draw + 1)).h1) := by rw [hnb]; rfl
        obtain ⟨Y, hY⟩ : ∃ Y, Y = (X.alloc (.cells (newBlk [CV.int IntKind.u64 0, CV.int IntKind.u64 0, CV.int IntKind.u64 0, CV.int IntKind.u64 0]))).put X.nx (.cells nb) := ⟨_, rfl⟩
        have Ynx : Y.nx = X.nx + 1 := by rw [hY]; rfl
        have Ylow : Y.low = h.nx := by rw [hY]; simp only [go_sem]; omega
        have YE : Ext X Y := by rw [hY]; exact ((Ext.refl X).alloc' _).put _ (Nat.le_refl _)
        have Yb : Y.blk X.nx = some nb := by rw [hY]; exact put_blk_same _ _ _
        have hbY : Y.blk h.nx = some b := (YE.blk hxn).trans hb
        by_cases hb0 : l.b = 0
        · have db0 : decide (l.b = 0) = true := decide_eq_true hb0
          simp only [go_sem, f0, f3, f5, f7, c1, Alen, di, hdX, g0, g1, g2, ek, ek', d1, hk4, hb, q1, q2, q3, q4, bl, dz, l1, add64, hmod, al, Ln.cv_eq, db0, m0, m1, m2, m3, hr, hn, w1]
          simp only [go_sem, f0, f3, f5, f7, c1, Alen, di, hdX, g0, g1, g2, ek, ek', d1, hk4, hb, q1, q2, q3, q4, bl, dz, l1, add64, hmod, al, Ln.cv_eq, db0, m0, m1, m2, m3, hr, hn, w1, ← hnb, ← hY, Yb, nb0, nb1, nb2, nb3, hbY]
          have P4 := LB.put (LX.ext YE).lt hr hn hg hk4 (alone l (draw + 1))
          have hX' : Ext h (Y.put h.nx (.cells (set4 b k (alone l (draw + 1))))) := (EX.trans YE).put _ (Nat.le_refl _)
          obtain ⟨Z, hZ⟩ : ∃ Z, Z = Y.put h.nx (.cells (set4 b k (alone l (draw + 1)))) := ⟨_, rfl⟩
          have Znx : Z.nx = Y.nx := by rw [hZ]; rfl
          have Zlow : Z.low = h.nx := by rw [hZ]; show min Y.low h.nx = h.nx; omega
          have BZ : Lst Z 2 (evT env 6) lid bs.length (bcs bs) := by rw [hZ]; exact (BX.ext YE).mono (Nat.le_refl _) fun _ => put_blk_ne _ _ _ _ (by omega)
          rw [← hZ] at P4 hX'
          have hZ' : Z = Y.put h.nx (.cells ((((b.st (k * 4) (u64 (alone l (draw + 1)).c)).st (k * 4 + 1) (u64 (alone l (draw + 1)).b)).st (k * 4 + 1 + 1) (u64 (alone l (draw + 1)).h0)).st (k * 4 + 1 + 1 + 1) (u64 (alone l (draw + 1)).h1))) := hZ
          rw [← hZ']
          refine app_step (Q := Q) (by_ := 16) (m := 1) (BZ.ext (Ext.alloc _ _)) (by decide) rfl rfl rfl (by decide) (by omega) (by omega) fun V LV vnx vgn vold vlow vlow2 => ?_
          simp only [go_sem] at vnx vgn vlow vold LV vlow2
          have hbc : bcs bs ++ [u64 l.c, u64 (draw + 1)] = bcs (bs ++ [(l.c, draw + 1)]) := by unfold bcs; simp
          rw [hbc] at LV
          simp only [go_sem, f0, f3, f7, w1]
          have V0 : ∀ id, id ≤ h.nx → V.t.get id = Z.t.get id := fun id hid => (vold id (by omega) (fun _ => by omega)).trans (alloc_get_ne _ _ _ (by omega))
          refine next _ _ ⟨by simp only [go_sem, f0], by simp only [go_sem, f3], by simp only [go_sem, w1], ls.set k (alone l (draw + 1)), draw + 1, bs ++ [(l.c, draw + 1)], es ++ [(draw + 1, l.c)], Z.nx + 1, I.born hl z hb0, ?_, by simp only [go_sem], ?_, by omega, ?_, ?_, by omega, by simp; omega, by omega⟩
          · exact P4.of_blk (by omega) (blk_eq (V0 _ (Nat.le_refl _)))
          · simp only [go_sem]
            rw [List.length_append]; exact LV
          · exact ⟨by omega, vgn.trans hX'.gn, fun id hid => (V0 id (by omega)).trans (hX'.old id hid)⟩
          · omega
        · have db0 : decide (l.b = 0) = false := decide_eq_false hb0
          simp only [go_sem, f0, f3, f5, f7, c1, Alen, di, hdX, g0, g1, g2, ek, ek', d1, hk4, hb, q1, q2, q3, q4, bl, dz, l1, add64, hmod, al, Ln.cv_eq, db0, m0, m1, m2, m3, hr, hn, w1]
          simp only [go_sem, f0, f3, f5, f7, c1, Alen, di, hdX, g0, g1, g2, ek, ek', d1, hk4, hb, q1, q2, q3, q4, bl, dz, l1, add64, hmod, al, Ln.cv_eq, db0, m0, m1, m2, m3, hr, hn, w1, ← hnb, ← hY, Yb, nb0, nb1, nb2, nb3, hbY]
          have ea : alone l (draw + 1) = l := by unfold alone; rw [if_neg hb0]
          have P4 := LB.put (LX.ext YE).lt hr hn hg hk4 (alone l (draw + 1))
          have hX' : Ext h (Y.put h.nx (.cells (set4 b k (alone l (draw + 1))))) := (EX.trans YE).put _ (Nat.le_refl _)
          refine next _ _ ⟨by simp only [go_sem, f0], by simp only [go_sem, f3], by simp only [go_sem, w1], ls.set k (alone l (draw + 1)), draw + 1, bs, es, lid, I.draw.set (by rw [ea]; exact I.fit l (List.mem_of_getElem? hl)) k, P4, by simp only [go_sem], ?_, hlid, hX', ?_, by omega, by omega, by show h.nx < Y.nx; omega⟩
          · simp only [go_sem]; exact (BX.ext YE).mono (Nat.le_refl _) fun _ => put_blk_ne _ _ _ _ (by omega)
          · show min Y.low h.nx = h.nx; omega
      have d1 : decide (kd = 1) = false := decide_eq_false k1
      by_cases k2 : kd = 2
      · have d2 : decide (kd = 2) = true := decide_eq_true k2
        have en : (lim Try.prog σ).call 19 [.agg [u64 l.c, u64 l.b, u64 l.h0, u64 l.h1]] X = some ((ended l).cv, none) := ended_run hσ X l
        simp only [go_sem, f0, f3, f5, f7, c1, Alen, di, hdX, g0, g1, g2, ek, ek', d1, d2, hk4, hb, q1, q2, q3, q4, en, Ln.cv_eq, m0, m1, m2, m3, hr, hn, w1]
        have P4 := LB.put LX.lt hr hn hg hk4 (ended l)
        have hX' : Ext h (X.put h.nx (.cells (set4 b k (ended l)))) := EX.put _ (Nat.le_refl _)
        refine next _ _ ⟨by simp only [go_sem, f0], by simp only [go_sem, f3], by simp only [go_sem, w1], ls.set k (ended l), draw, bs, es, lid, I.set (Fit.ended (I.fit l (List.mem_of_getElem? hl))) k, P4, by simp only [go_sem, f5], ?_, hlid, hX', ?_, by omega, by omega, hxn⟩
        · simp only [go_sem]; exact BX.mono (Nat.le_refl _) fun _ => put_blk_ne _ _ _ _ (by omega)
        · show min X.low h.nx = h.nx; omega
      have d2 : decide (kd = 2) = false := decide_eq_false k2
      by_cases k3 : kd = 3
      · have d3 : decide (kd = 3) = true := decide_eq_true k3
        simp only [go_sem, f0, f3, f5, f7, c1, Alen, di, hdX, g0, g1, g2, ek, ek', d1, d2, d3, hk4, hk4', hb, r1, r2, r3, r4, m0, m1, m2, m3, hr, hn, w1]
        have P4 := LB.put LX.lt hr hn hg hk4 (l')
        have hX' : Ext h (X.put h.nx (.cells (set4 b k (l')))) := EX.put _ (Nat.le_refl _)
        refine next _ _ ⟨by simp only [go_sem, f0], by simp only [go_sem, f3], by simp only [go_sem, w1], ls.set k (l'), draw, bs, es, lid, I.set (I.fit l' (List.mem_of_getElem? hl')) k, P4, by simp only [go_sem, f5], ?_, hlid, hX', ?_, by omega, by omega, hxn⟩
        · simp only [go_sem]; exact BX.mono (Nat.le_refl _) fun _ => put_blk_ne _ _ _ _ (by omega)
        · show min X.low h.nx = h.nx; omega
      have d3 : decide (kd = 3) = false := decide_eq_false k3
      by_cases k4 : kd = 4
      · have d4 : decide (kd = 4) = true := decide_eq_true k4
        simp only [go_sem, f0, f3, f5, f7, c1, Alen, di, hdX, g0, g1, g2, ek, ek', d1, d2, d3, d4, hk4, hb, m0, m1, m2, m3, hr, hn, w1]
        have P4 := LB.put LX.lt hr hn hg hk4 ((⟨0, 0, 0, 0⟩ : Ln))
        have hX' : Ext h (X.put h.nx (.cells (set4 b k ((⟨0, 0, 0, 0⟩ : Ln))))) := EX.put _ (Nat.le_refl _)
        refine next _ _ ⟨by simp only [go_sem, f0], by simp only [go_sem, f3], by simp only [go_sem, w1], ls.set k ((⟨0, 0, 0, 0⟩ : Ln)), draw, bs, es, lid, I.set (I.blank) k, P4, by simp only [go_sem, f5], ?_, hlid, hX', ?_, by omega, by omega, hxn⟩
        · simp only [go_sem]; exact BX.mono (Nat.le_refl _) fun _ => put_blk_ne _ _ _ _ (by omega)
        · show min X.low h.nx = h.nx; omega
      have d4 : decide (kd = 4) = false := decide_eq_false k4
      simp only [go_sem, f0, f3, f5, f7, c1, Alen, di, hdX, g0, g1, g2, ek, ek', d1, d2, d3, d4, w1]
      refine next _ _ ⟨by simp only [go_sem, f0], by simp only [go_sem, f3], by simp only [go_sem, w1], ls, draw, bs, es, lid, I, LX, by simp only [go_sem, f5], by simp only [go_sem]; exact BX, hlid, EX, xlow, by omega, by omega, hxn⟩
    · rintro env X ⟨f0, f3, f7, ls, draw, bs, es, lid, I, LX, f5, BX, hlid, EX, xlow, hdr, hbl, hxn⟩
      have c1 := ofNat_nlt (Nat.le_refl ds.length)
      have hof : ofN 1 bs = (0, es) := by unfold ofN; rw [if_neg (by decide)]; exact I.grown
      have Or := of_run hσ (first := 1) (RL.of_lst BX) (by omega) (by omega)
      rw [hof] at Or
      rcases Or with ⟨hne, _⟩ | ⟨_, t, Y, hr, T, YE, Ylow⟩
      · exact absurd rfl hne
      have hr : (lim Try.prog σ).call 10 [.int .u64 1, evT env 6] X = some (.tup [.ptr t 0, .int .i64 0], some Y) := hr
      have nr : (lim Try.prog σ).call 11 [.int .i64 0] Y = some (.int .i64 0, none) := num_run hσ Y _
      have LY := LX.ext YE
      obtain ⟨b, hb, hro, hn, hg⟩ := LY.blk
      have Ynx := YE.nx
      simp only [go_sem, f0, f3, f5, f7, c1, Alen, hr, nr]
      refine loop_ind (Q := Q) (fun i env X' => X' = Y ∧ evT env 3 = .ptr h.nx 0 ∧ evT env 13 = .ptr t 0 ∧ evT env 15 = .int .i64 (Int.ofNat i)) 4 0 ?_ (by decide) ?_ ?_
      · exact ⟨rfl, by simp only [go_sem, f3], by simp only [go_sem], by simp only [go_sem]; rfl⟩
      · rintro i env X' ⟨rfl, e3, e13, e15⟩ hi next
        have c2 : Int.ofNat i < 4 := by simp; omega
        have w1 := wrap_succ (i := i) (by omega)
        simp only [go_sem, e3, e13, e15, c2]
        refine loop_ind (Q := Q) (fun k env Z => Z = X' ∧ evT env 3 = .ptr h.nx 0 ∧ evT env 13 = .ptr t 0 ∧ evT env 15 = .int .i64 (Int.ofNat i) ∧ evT env 16 = .int .i64 (Int.ofNat k)) 4 0 ?_ (by decide) ?_ ?_
        · exact ⟨rfl, by simp only [go_sem, e3], by simp only [go_sem, e13], by simp only [go_sem, e15], by simp only [go_sem]; rfl⟩
        · rintro k env Z ⟨rfl, g3, g13, g15, g16⟩ hk' next2
          have c3 : Int.ofNat k < 4 := by simp; omega
          have w2 := wrap_succ (i := k) (by omega)
          obtain ⟨x, hx⟩ : ∃ l, ls[i]? = some l := ⟨_, List.getElem?_eq_getElem (by rw [I.len]; exact hi)⟩
          obtain ⟨y, hy⟩ : ∃ l, ls[k]? = some l := ⟨_, List.getElem?_eq_getElem (by rw [I.len]; exact hk')⟩
          obtain ⟨q1, q2, q3, q4⟩ := hg i x hx
          obtain ⟨r1, r2, r3, r4⟩ := hg k y hy
          obtain ⟨wx, Wx, fx⟩ := I.fit x (List.mem_of_getElem? hx)
          obtain ⟨wy, Wy, fy⟩ := I.fit y (List.mem_of_getElem? hy)
          have fr : (lim Try.prog σ).call 20 [.ptr t 0, .agg [u64 x.c, u64 x.b, u64 x.h0, u64 x.h1]] Z = some (.bool true, none) := fits_run hσ T x Wx (by omega) fx
          have sr := says_run hσ T x y Wx Wy (by omega)
          have hs : saysV x y (wx.take x.el.length) (wy.take y.el.length) = saysV x y x.el y.el := by
            unfold saysV
            by_cases z1 : x.c = 0
            · rw [if_pos z1, if_pos z1]
            · by_cases z2 : y.c = 0
              · rw [if_neg z1, if_neg z1, if_pos z2, if_pos z2]
              · rw [← (fx z1).2, ← (fy z2).2]
          rw [hs] at sr
          have sr : (lim Try.prog σ).call 21 [.ptr t 0, .agg [u64 x.c, u64 x.b, u64 x.h0, u64 x.h1], .agg [u64 y.c, u64 y.b, u64 y.h0, u64 y.h1]] Z = some (.int .i64 (Int.ofNat (saysV x y x.el y.el)), none) := sr
          have cr : (lim Try.prog σ).call 22 [.agg [u64 x.c, u64 x.b, u64 x.h0, u64 x.h1], .agg [u64 y.c, u64 y.b, u64 y.h0, u64 y.h1]] Z = some (.int .i64 (Int.ofNat (saysV x y x.el y.el)), none) := comp_run hσ Z x y
          simp only [go_sem, g3, g13, g15, g16, c3]
          refine cnd_go (Q := Q) (by kernel_rfl) ?_
          simp only [go_sem, g3, g13, g15, g16, c3, hi, hk', hb, q1, q2, q3, q4, r1, r2, r3, r4, fr, sr, cr, w2]
          exact next2 _ _ ⟨rfl, by simp only [go_sem, g3], by simp only [go_sem, g13], by simp only [go_sem, g15], by simp only [go_sem, w2]⟩
        · rintro env Z ⟨rfl, g3, g13, g15, g16⟩
          have c3 : ¬ Int.ofNat 4 < 4 := by decide
          simp only [go_sem, g3, g13, g15, g16, c3, w1]
          exact next _ _ ⟨rfl, by simp only [go_sem, g3], by simp only [go_sem, g13], by simp only [go_sem, w1]⟩
      · rintro env X' ⟨rfl, e3, e13, e15⟩
        have c2 : ¬ Int.ofNat 4 < 4 := by decide
        simp only [go_sem, e3, e13, e15, c2, hk]
        rw [hQ]; exact tru_fin _ _
end
end Go.Cl.U

namespace Go.Cl.U
set_option maxRecDepth 100000

theorem cellsOf_int : Try.prog.cellsOf 3 = 1 := by kernel_rfl
theorem szOf_deed : szOf Try.prog 45 = some 3 := by kernel_rfl
theorem deeds_of {h : H} {c : CV} (a : Arg Try.prog h 39 c) : ∃ l : List (Int × Int × Int), Sl Try.prog 39 h c 3 l.length (dcs l) := by
  have h1 : c.one = true := by rcases a.one with ⟨_, h⟩ | ⟨_, _, h⟩ | h; rw [Try.underlying39] at h; cases h; rw [Try.underlying39] at h; cases h; exact h
  have r := a.rd
  rw [cells_one h1] at r
  obtain ⟨n, xs, _, hx, hs⟩ := r.slice_inv Try.underlying39 szOf_deed
  obtain ⟨l, hl, hq⟩ := list_of (Q := fun i (p : Int × Int × Int) => xs i = [.int .i64 p.1, .int .i64 p.2.1, .int .i64 p.2.2]) n fun i hi => by
    obtain ⟨hlen, r⟩ := hx i hi
    obtain ⟨_, hf⟩ := r.struct_inv Try.underlying45
    have h0 := hf _ (List.mem_cons_self)
    have h1 := hf _ (List.mem_cons_of_mem _ List.mem_cons_self)
    have h2 := hf _ (List.mem_cons_of_mem _ (List.mem_cons_of_mem _ List.mem_cons_self))
    simp only [cellsOf_int] at h0 h1 h2
    obtain ⟨n0, e0, _⟩ := h0.int_inv Try.underlying3
    obtain ⟨n1, e1, _⟩ := h1.int_inv Try.underlying3
    obtain ⟨n2, e2, _⟩ := h2.int_inv Try.underlying3
    generalize xs i = ys at *
    match ys, hlen with
    | [y0, y1, y2], _ =>
      simp at e0 e1 e2
      subst e0 e1 e2
      exact ⟨(n0, n1, n2), rfl⟩
  subst hl
  refine ⟨l, hs _ fun i j x hi hj hn => ?_⟩
  obtain ⟨⟨p, c, d⟩, hg⟩ : ∃ g, l[i]? = some g := ⟨_, List.getElem?_eq_getElem hi⟩
  obtain ⟨g0, g1, g2⟩ := dcs_get l i p c d hg
  rw [hq i _ hg]
  match j, hj with
  | 0, _ => rw [g0] at hn; cases hn; rfl
  | 1, _ => rw [g1] at hn; cases hn; rfl
  | 2, _ => rw [g2] at hn; cases hn; rfl
theorem tell_none' {g : FuncId} {v : CV} : ∀ f a h, f ≠ g → tell g v f a h = none := tell_other
end Go.Cl.U
