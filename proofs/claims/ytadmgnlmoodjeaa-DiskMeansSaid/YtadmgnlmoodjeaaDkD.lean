/- The program's functions, run by the rewriting evaluator: what each answers and leaves (DkD). -/
import Derived.Test.YtadmgnlmoodjeaaDkC
set_option linter.all false
open Go Go.Cl Go.Proofs
namespace Go.Cl.Sh
noncomputable section
variable {σ : Sums}
set_option maxRecDepth 1000000

theorem LS.congr {h0 h : H} {d lid mid n mb : Nat} {last : List (List Nat)} {es : List En} {c : Nat} {R R' : Nat → List (List Nat)} {idf : Nat → Nat} (S : LS h0 h d lid mid n mb last es c R idf) (hR : ∀ j, j < n → R' j = R j) : LS h0 h d lid mid n mb last es c R' idf := by
  obtain ⟨b, hb, h1, h2, h3⟩ := S.may.blk
  exact ⟨S.ok, ⟨S.may.lt, ⟨b, hb, h1, h2, fun j hj => by rw [hR j hj]; exact h3 j hj⟩, S.may.inj, S.may.ne⟩, S.ap, S.ext, S.b1, S.b2⟩
def zs0 : List Nat := zs 256
theorem law_run (hσ : ∀ f a h, toldL f = false → σ f a h = none) (hK : ∀ h, (lim Try.prog σ).call 5 [] h = some (.bool true, none)) (hO : OpenTold σ) {h : H} {N : Int} {lv pv : CV} {l : List St} {ps : List Int}
    (PL : Sl Try.prog 22 h lv 4 l.length (scs l)) (hl : ∀ s ∈ l, LenIs s.pv s.pn ∧ s.pv.one = true) (PP : Sl Try.prog 23 h pv 1 ps.length (ps.map (CV.int .i64))) (blv : beqC lv lv = true) :
    Tru ((lim Try.prog σ).call 3 [.int .i64 N, lv, pv] h) := by
  have hσ1 : ∀ f a h, dkf f = true → σ f a h = none := fun f a h q => hσ f a h (dkf_told q)
  rw [call_eq (hσ _ _ _ rfl) fn_3 rfl rfl, Try.ntmps3, Try.results3]
  obtain ⟨mb, hm, hm2⟩ := much_run (σ := σ) (fun a h => hσ _ a h rfl) (h := h.lo) (v := lv) (l := l) ⟨PL.len, PL.elt⟩ hl
  have hn : ∀ h z, (lim Try.prog σ).call 10 [.int .i64 z] h = some (.int .i64 z, none) := fun h z => num_run (fun a h => hσ _ a h rfl) _
  by_cases c1 : N < 1
  · simp only [go_sem, hK, c1]; exact tru_fin _ _
  by_cases c2 : N > 20
  · simp only [go_sem, hK, c1, c2]; exact tru_fin _ _
  cases mb with
  | true => simp only [go_sem, hK, c1, c2, hm]; exact tru_fin _ _
  | false =>
  by_cases c3 : Int.ofNat ps.length > 1000
  · simp only [go_sem, hK, c1, c2, hm, PP.len, c3]; exact tru_fin _ _
  obtain ⟨n, rfl⟩ : ∃ n : Nat, N = Int.ofNat n := ⟨N.toNat, (Int.toNat_of_nonneg (by omega)).symm⟩
  have hn1 : 1 ≤ n := by have : ¬ (n : Int) < 1 := c1; omega
  have hn2 : n ≤ 20 := by have : ¬ (n : Int) > 20 := c2; omega
  have hll := hm2 rfl
  obtain ⟨X, d, lid, mid, e1, XE, Xl, x1, x2, x3, D⟩ := new_run hσ1 (h := h.lo) hn1 (by omega : n ≤ 1000)
  simp only [go_sem, hK, c1, c2, hm, PP.len, c3, e1]
  obtain ⟨SZ, hSZ, hbz, hrz⟩ := bs1_blk (x := zs0) rfl
  have eb : buildT Try.prog 33 [] = some (.agg (bc zs0)) := by kernel_rfl
  have hX0 : h.nx ≤ X.nx := XE.nx
  refine loop_ind (Q := Tru) (fun i env h' => evT env 0 = .int .i64 (Int.ofNat n) ∧ evT env 1 = lv ∧ evT env 2 = pv ∧ evT env 7 = .ptr d 0 ∧ evT env 9 = .ptr X.nx 0 ∧ evT env 10 = .int .i64 (Int.ofNat i) ∧
    DkOk h' d lid mid n (List.replicate n (zs 256)) [] 0 ∧ Ext X h' ∧ ∃ idf, May h' X.nx i (fun _ => [zs0]) idf ∧ ∀ j, j < i → X.nx ≤ idf j) n 0 ?_ (Nat.zero_le _) ?_ ?_
  · refine ⟨by simp only [go_sem], by simp only [go_sem], by simp only [go_sem], by simp only [go_sem], by simp only [go_sem], by simp only [go_sem]; rfl, D.ext (Ext.alloc _ _), Ext.alloc _ _, fun _ => 0, ⟨by rw [alloc_nx]; omega, ⟨_, alloc_blk_same _ _ _ rfl, ?_, ?_, fun j hj => by omega⟩, fun i j hi => by omega, fun j hj => by omega⟩, fun j hj => by omega⟩
    · rw [allocB_n]; rfl
    · rw [aB_r]
  · rintro i env h' ⟨a0, a1, a2, a7, a9, a10, D', E', idf, M, hid⟩ hi next
    have hi2 := ofNat_lt hi
    have hi20 : i < 20 := by omega
    have hw := wrap_succ (i := i) (by omega)
    obtain ⟨b, hb, hbn, hbr, hbg⟩ := M.blk
    have hb2 : (h'.alloc (.cells SZ)).blk X.nx = some b := by rw [alloc_blk_ne _ _ _ (by have := M.lt; omega)]; exact hb
    have hbz' := hbz h'
    simp only [go_sem, a0, a1, a2, a7, a9, a10, hi2, eb, hbz', hi20, hb2, hbn, hbr, hw, Nat.zero_add, Nat.mul_one]
    have E2 : Ext h' (h'.alloc (.cells SZ)) := Ext.alloc _ _
    have hzl : ∀ x ∈ [zs0], x.length = 256 := fun x hx => by simp at hx; subst hx; rfl
    have mr : MR (h'.alloc (.cells SZ)) (.sl h'.nx 0 1 (.exact 1)) h'.nx [zs0] := ⟨0, .exact 1, SZ, rfl, by decide, by rw [alloc_nx]; omega, alloc_blk_same _ _ _ rfl, hrz, by simpa using hSZ, hzl, .inl rfl⟩
    have hml : ∀ j, j < i → idf j < h'.nx := fun j hj => by
      obtain ⟨_, _, m⟩ := hbg j hj
      exact m.lt
    have M2 := M.more (h2 := h'.alloc (.cells SZ)) hi20 hb2 hbn hbr hbg mr (by rw [alloc_nx]; omega) (Nat.le_refl _) fun k hk => alloc_get_ne _ _ _ (by omega)
    refine next _ _ ⟨by simp only [go_sem, a0], by simp only [go_sem, a1], by simp only [go_sem, a2], by simp only [go_sem, a7], by simp only [go_sem, a9], by simp only [go_sem], (D'.ext E2).keep (Nat.le_refl _) fun k hk => ?_, (E'.trans E2).put _ (Nat.le_refl _), _, M2, fun j hj => ?_⟩
    · refine put_get_ne _ _ _ _ ?_
      rcases hk with q | q | q | ⟨e, he, _⟩
      · have := D.dlt; omega
      · have := D.llt; omega
      · have := D.mlt; omega
      · exact absurd he (by simp)
    · by_cases q : j = i
      · rw [if_pos q]; have := M.lt; omega
      · rw [if_neg q]; exact hid j (by omega)
  · rintro env h' ⟨a0, a1, a2, a7, a9, a10, D', E', idf, M, hid⟩
    have hi2 := ofNat_nlt (Nat.le_refl n)
    simp only [go_sem, a0, a1, a2, a7, a9, a10, hi2]
    have LS0 : LS h.lo h' d lid mid n X.nx (List.replicate n (zs 256)) [] 0 (fun _ => [zs0]) idf := by
      refine ⟨D', M, fun k hk hd => ?_, XE.trans E', ⟨x1, x2, x3, hX0⟩, ⟨fun e he => absurd he (by simp), fun j hj => by have := hid j hj; exact Nat.le_trans hX0 this⟩⟩
      have hk2 : X.nx ≤ k := by
        rcases hk with q | ⟨j, hj, q⟩
        · omega
        · have := hid j hj; omega
      rcases hd with q | q | q | ⟨e, he, _⟩
      · have := D.dlt; omega
      · have := D.llt; omega
      · have := D.mlt; omega
      · exact absurd he (by simp)
    have LS1 : LS h.lo h' d lid mid n X.nx (List.replicate n (zs 256)) [] 0 (mayR (List.replicate n (zs 256)) []) idf := LS0.congr fun j hj => by
      unfold mayR; rw [List.getElem?_replicate, if_pos hj]; rfl
    obtain ⟨last0, hlast0⟩ : ∃ last0, last0 = List.replicate n (zs 256) := ⟨_, rfl⟩
    rw [← hlast0] at LS1
    refine loop_ind (Q := Tru) (fun i env h' => evT env 0 = .int .i64 (Int.ofNat n) ∧ evT env 1 = lv ∧ evT env 2 = pv ∧ evT env 7 = .ptr d 0 ∧ evT env 9 = .ptr X.nx 0 ∧ evT env 11 = .int .i64 (Int.ofNat i) ∧
      ∃ last es c idf, LS h.lo h' d lid mid n X.nx last es c (mayR last es) idf ∧ ∀ y, (vsOf es y).length ≤ i) l.length 0 ?_ (Nat.zero_le _) ?_ ?_
    · exact ⟨by simp only [go_sem, a0], by simp only [go_sem, a1], by simp only [go_sem, a2], by simp only [go_sem, a7], by simp only [go_sem, a9], by simp only [go_sem]; rfl, _, _, _, _, LS1, fun y => Nat.le_refl _⟩
    · clear LS1 LS0 M hid D' E' a0 a1 a2 a7 a9 a10 hi2 hlast0 last0
      rintro i env h1 ⟨a0, a1, a2, a7, a9, a11, last, es, c, idf, S, hvs⟩ hi next
      have hi2 := ofNat_lt hi
      have hw := wrap_succ (i := i) (by omega)
      obtain ⟨s, hs⟩ : ∃ s, l[i]? = some s := ⟨_, List.getElem?_eq_getElem hi⟩
      obtain ⟨id, off, b, p1, p2, p3, p4, p5⟩ := PL.elt i hi
      have g0 : b.get off = some (.int .i64 s.k) := p5 0 _ (by decide) (scs_get l i s hs 0 _ (by decide) rfl)
      have g1 : b.get (off + 1) = some (.int .i64 s.n) := p5 1 _ (by decide) (scs_get l i s hs 1 _ (by decide) rfl)
      have g2 : b.get (off + 2) = some (u8 s.f) := p5 2 _ (by decide) (scs_get l i s hs 2 _ (by decide) rfl)
      have g3 : b.get (off + 3) = some s.pv := p5 3 _ (by decide) (scs_get l i s hs 3 _ (by decide) rfl)
      have hld : b.loadN off 4 = some s.cs := loadN_of _ _ _ rfl fun j v hv => by
        have hj := nlt hv
        have hj : j < 4 := hj
        exact p5 j v hj (scs_get l i s hs j v hj hv)
      have hb1 : h1.blk id = some b := (S.ext.blk (by exact p2)).trans p3
      have hone := (hl s (List.mem_of_getElem? hs)).2
      by_cases k1 : s.k = 1
      · have g0' : b.get off = some (.int .i64 1) := by rw [g0, k1]
        have hdo := do1_run hσ S.ok k1 hone fun y => by have := hvs y; omega
        unfold DoW at hdo
        by_cases hr : 0 ≤ s.n ∧ s.n < Int.ofNat n
        · rw [if_pos hr] at hdo
          obtain ⟨h2, es2, c2, e2, T, lw, hv2⟩ := hdo
          have S2 := S.disk T
          have hb2 : h2.blk id = some b := (S2.ext.blk (by exact p2)).trans p3
          obtain ⟨k, hk⟩ := Int.eq_ofNat_of_zero_le hr.1
          have hk' : s.n = Int.ofNat k := hk
          have hkn : k < n := by have := hr.2; rw [hk'] at this; simpa using this
          rw [hk'] at g1
          obtain ⟨bm, hbm, bmn, bmr, bmg⟩ := S2.may.blk
          obtain ⟨v, hv, m⟩ := bmg k hkn
          have hk20 : k < 20 := by omega
          have hrl : (List.replicate 256 s.f).length = 256 := List.length_replicate
          obtain ⟨SB, hSB, hbs, hrs⟩ := bs1_blk hrl
          have hbs2 := hbs h2
          have E3 : Ext h2 (h2.alloc (.cells SB)) := Ext.alloc _ _
          have hfc : firstC (h2.alloc (.cells SB)) 256 1 (.sl h2.nx 0 1 (.exact 1)) = some (bc (List.replicate 256 s.f)) := by
            rw [firstC_sl, alloc_blk_same _ _ _ rfl, bind_some']; exact hSB
          have m3 : MR (h2.alloc (.cells SB)) v (idf k) (mayR last es k) := m.frame E3.nx (E3.old _ m.lt)
          have hRl : (mayR last es k).length < 1000 := by
            have := hvs k; unfold mayR; rw [List.length_cons]; omega
          obtain ⟨h4, ea, m4, n4, gn4, old4, _⟩ := m3.app hrl hRl
          have hmlt := S2.may.lt
          have hidlt : id < h2.nx := Nat.lt_of_lt_of_le p2 S2.ext.nx
          have hmk : idf k ≠ X.nx := S2.may.ne k hkn
          have hbid : id ≠ idf k := by have q1 : h.nx ≤ idf k := S2.b2.2 k hkn; have q2 : id < h.nx := p2; omega
          have hb3 : (h2.alloc (.cells SB)).blk id = some b := (E3.blk hidlt).trans hb2
          have hb4 : h4.blk id = some b := by
            unfold H.blk; rw [old4 id (by rw [alloc_nx]; omega) hbid]; exact hb3
          have hm3 : (h2.alloc (.cells SB)).blk X.nx = some bm := (E3.blk hmlt).trans hbm
          have hm4 : h4.blk X.nx = some bm := by
            unfold H.blk; rw [old4 X.nx (by rw [alloc_nx]; omega) hmk.symm]; exact hm3
          have ef : ∀ h, (lim Try.prog σ).call 9 [u8 s.f] h = some (.agg (bc (List.replicate 256 s.f)), none) := fun h => fill_run (fun a h => hσ _ a h rfl) _
          simp only [go_sem, a0, a1, a2, a7, a9, a11, hi2, PL.len, p1, hb1, g0', hld, e2, hb2, g1, g2, hbm, hv, hk20, ef, hbs2, hfc, ea, Nat.mul_one, Nat.zero_add]
          refine cnd_go (Q := Tru) (by kernel_rfl) ?_
          simp only [go_sem, a0, a1, a2, a7, a9, a11, hi2, PL.len, p1, hb1, g0', hld, e2, hb2, g1, g2, hbm, hv, hk20, ef, hbs2, hfc, ea, hb3, hb4, hm3, hm4, bmn, bmr, Nat.mul_one, Nat.zero_add]
          refine cnd_go (Q := Tru) (by kernel_rfl) ?_
          have hne : id ≠ X.nx := by have q2 : id < h.nx := p2; omega
          have bi : ∀ k z, beqC (.int k z) (.int k z) = true := fun k z => by simp [beqC]
          have bp : ∀ a b, beqC (.ptr a b) (.ptr a b) = true := fun a b => by simp [beqC]
          have bv := m.one.2.2
          simp only [go_sem, a0, a1, a2, a7, a9, a11, hi2, PL.len, p1, hb1, g0', hld, e2, hb2, g1, g2, hbm, hv, hk20, ef, hbs2, hfc, ea, hb3, hb4, hm3, hm4, bmn, bmr, Nat.mul_one, Nat.zero_add, bi, bp, bv, beqC_bc, hne, blv]
          rw [cond_al (i := 11) (d := [18, 19, 21])]
          rotate_left
          · kernel_rfl
          simp only [go_sem, a0, a1, a2, a7, a9, a11, hw]
          have hkeep : ∀ i, i < h2.nx → i ≠ idf k → h4.t.get i = h2.t.get i := fun i hi hne => by
            rw [old4 i (by rw [alloc_nx]; omega) hne, E3.old i hi]
          have M5 := S2.may.put (h2 := h4) hn2 hkn hm4 bmn bmr (fun j hj _ => bmg j hj) m4 (by rw [n4, alloc_nx]; omega) (.inr (by rw [alloc_nx]; omega)) (by rw [alloc_nx]; omega) hkeep
          have S5 := S2.rows M5 (by show h2.nx ≤ h4.nx; rw [n4, alloc_nx]; omega) (by show h4.gn = h2.gn; exact gn4) (fun j hj => by
            by_cases q : j = k
            · exact .inr (by rw [if_pos q, alloc_nx]; omega)
            · exact .inl ⟨j, hj, by rw [if_neg q]⟩) (fun i hi h1' h2' => by rw [put_get_ne _ _ _ _ h1', hkeep i hi (h2' k hkn)])
          have S6 := S5.congr (R' := mayR last es2) fun j hj => by
            unfold mayR
            rw [hv2 j, hk']
            by_cases q : j = k
            · subst q; simp
            · rw [if_neg q, if_neg (by simpa using q)]
          refine next _ _ ⟨by simp only [go_sem, a0], by simp only [go_sem, a1], by simp only [go_sem, a2], by simp only [go_sem, a7], by simp only [go_sem, a9], by simp only [go_sem], last, es2, c2, _, S6, fun y => ?_⟩
          rw [hv2 y]
          have := hvs y
          by_cases q : y = s.n.toNat
          · rw [if_pos q]; simp; omega
          · rw [if_neg q]; omega
        · rw [if_neg hr] at hdo
          simp only [go_sem, a0, a1, a2, a7, a9, a11, hi2, PL.len, p1, hb1, g0', hld, hdo, hw]
          exact next _ _ ⟨by simp only [go_sem, a0], by simp only [go_sem, a1], by simp only [go_sem, a2], by simp only [go_sem, a7], by simp only [go_sem, a9], by simp only [go_sem], last, es, c, idf, S, fun y => Nat.le_succ_of_le (hvs y)⟩
      · by_cases k2 : s.k = 2
        · have g0' : b.get off = some (.int .i64 2) := by rw [g0, k2]
          obtain ⟨x, last2, es2, c2, e2, T, hv2, hx2, _⟩ := do2_run hσ hO S.ok k2 hone
          simp only [go_sem, a0, a1, a2, a7, a9, a11, hi2, PL.len, p1, hb1, g0', hld, e2]
          obtain ⟨h2, hh2⟩ : ∃ h2, h2 = x.getD h1 := ⟨_, rfl⟩
          rw [← hh2] at T ⊢
          have S2 := S.disk T
          have hb2 : h2.blk id = some b := (S2.ext.blk (by exact p2)).trans p3
          simp only [go_sem, a0, a1, a2, a7, a9, a11, PL.len, p1, hb2, g0']
          refine loop_ind (Q := Tru) (fun k env h' => evT env 0 = .int .i64 (Int.ofNat n) ∧ evT env 1 = lv ∧ evT env 2 = pv ∧ evT env 7 = .ptr d 0 ∧ evT env 9 = .ptr X.nx 0 ∧ evT env 11 = .int .i64 (Int.ofNat i) ∧ evT env 12 = .int .i64 (Int.ofNat k) ∧
            ∃ idf, LS h.lo h' d lid mid n X.nx last2 es2 c2 (fun j => if j < k then [seenL last es j] else mayR last es j) idf) n 0 ?_ (Nat.zero_le _) ?_ ?_
          · exact ⟨by simp only [go_sem, a0], by simp only [go_sem, a1], by simp only [go_sem, a2], by simp only [go_sem, a7], by simp only [go_sem, a9], by simp only [go_sem, a11], by simp only [go_sem]; rfl, idf, S2.congr fun j hj => by rw [if_neg (by omega)]⟩
          · clear a0 a1 a2 a7 a9 a11
            rintro k env h3 ⟨a0, a1, a2, a7, a9, a11, a12, idf3, S3⟩ hkn next2
            have hk2 := ofNat_lt hkn
            have hwk := wrap_succ (i := k) (by omega)
            obtain ⟨bm, hbm, bmn, bmr, bmg⟩ := S3.may.blk
            obtain ⟨v, hv, m⟩ := bmg k hkn
            rw [if_neg (Nat.lt_irrefl _)] at m
            have hk20 : k < 20 := by omega
            have hlast : (mayR last es k).getLast? = some (seenL last es k) := by
              unfold mayR seenL; rw [List.getLast?_cons]
            obtain ⟨v', hcut, m'⟩ := m.cut hlast
            have hRl : (mayR last es k).length ≤ 1000 := by
              have := hvs k; unfold mayR; rw [List.length_cons]; omega
            have hRp : 1 ≤ (mayR last es k).length := by unfold mayR; rw [List.length_cons]; omega
            have hwl : IntKind.wrap .i64 (Int.ofNat (mayR last es k).length - 1) = Int.ofNat ((mayR last es k).length - 1) := wrap_n (by simp; omega) (by omega)
            have mlen := m.len
            have vone := m'.one
            simp only [go_sem, a0, a1, a2, a7, a9, a11, a12, hk2, hbm, hv, hk20, mlen, hwl, hcut, bmn, bmr, vone.1, vone.2.1, Nat.mul_one, Nat.zero_add]
            refine cnd_go (Q := Tru) (by kernel_rfl) ?_
            simp only [go_sem, a0, a1, a2, a7, a9, a11, a12, hk2, hbm, hv, hk20, mlen, hwl, hcut, bmn, bmr, vone.1, vone.2.1, Nat.mul_one, Nat.zero_add]
            refine cnd_go (Q := Tru) (by kernel_rfl) ?_
            simp only [go_sem, a0, a1, a2, a7, a9, a11, a12, hk2, hbm, hv, hk20, mlen, hwl, hcut, bmn, bmr, vone.1, vone.2.1, Nat.mul_one, Nat.zero_add]
            rw [cond_al (i := 3) (d := [11])]
            rotate_left
            · kernel_rfl
            rw [cond_al (i := 6) (d := [11])]
            rotate_left
            · kernel_rfl
            simp only [go_sem, a0, a1, a2, a7, a9, a11, a12, hk2, hbm, hv, hk20, mlen, hwl, hcut, bmn, bmr, vone.1, vone.2.1, Nat.mul_one, Nat.zero_add, hwk]
            rw [cond_al (i := 9) (d := [11])]
            rotate_left
            · kernel_rfl
            simp only [go_sem, a0, a1, a2, a7, a9, a11, a12, hwk]
            have M5 := S3.may.put (h2 := h3) hn2 hkn hbm bmn bmr (fun j hj _ => bmg j hj) m' (Nat.le_refl _) (.inl rfl) (S3.may.ne k hkn) (fun i _ _ => rfl)
            have S5 := S3.rows M5 (Nat.le_refl _) rfl (fun j hj => by
              by_cases q : j = k
              · exact .inl ⟨k, hkn, by rw [if_pos q]⟩
              · exact .inl ⟨j, hj, by rw [if_neg q]⟩) (fun i hi h1' h2' => put_get_ne _ _ _ _ h1')
            refine next2 _ _ ⟨by simp only [go_sem, a0], by simp only [go_sem, a1], by simp only [go_sem, a2], by simp only [go_sem, a7], by simp only [go_sem, a9], by simp only [go_sem, a11], by simp only [go_sem], _, S5.congr fun j hj => ?_⟩
            by_cases q : j = k
            · subst q; rw [if_pos (by omega), if_pos rfl]
            · rw [if_neg q]
              by_cases q2 : j < k
              · rw [if_pos (by omega), if_pos q2]
              · rw [if_neg (by omega), if_neg q2]
          · clear a0 a1 a2 a7 a9 a11
            rintro env h3 ⟨a0, a1, a2, a7, a9, a11, a12, idf3, S3⟩
            have hk2 := ofNat_nlt (Nat.le_refl n)
            simp only [go_sem, a0, a1, a2, a7, a9, a11, a12, hk2, hw]
            refine next _ _ ⟨by simp only [go_sem, a0], by simp only [go_sem, a1], by simp only [go_sem, a2], by simp only [go_sem, a7], by simp only [go_sem, a9], by simp only [go_sem], last2, es2, c2, idf3, S3.congr fun j hj => ?_, fun y => by rw [(hv2 y).1]; exact Nat.zero_le _⟩
            rw [if_pos hj]
            unfold mayR
            rw [(hv2 j).1, (hv2 j).2 hj]; rfl
        · simp only [go_sem, a0, a1, a2, a7, a9, a11, hi2, PL.len, p1, hb1, g0, hld, k1, k2, hw]
          exact next _ _ ⟨by simp only [go_sem, a0], by simp only [go_sem, a1], by simp only [go_sem, a2], by simp only [go_sem, a7], by simp only [go_sem, a9], by simp only [go_sem], last, es, c, idf, S, fun y => Nat.le_succ_of_le (hvs y)⟩
    · clear LS1 LS0 M hid D' E' a0 a1 a2 a7 a9 a10 hi2 hlast0 last0
      rintro env h1 ⟨a0, a1, a2, a7, a9, a11, last, es, c, idf, S, hvs⟩
      have hi2 := ofNat_nlt (Nat.le_refl l.length)
      have E1 : Ext h h1 := (Ext.lo h).trans S.ext
      obtain ⟨h2, last2, c2, e2, D2, F2, _, _, hpk⟩ := crash_run (fun f a h q => hσ f a h (dkc_told q)) hO S.ok (Sl.ext PP E1)
      have M2 : May h2 X.nx n (mayR last es) idf := S.may.keep F2.nx fun k hk => F2.old k (by
        rcases hk with rfl | ⟨j, hj, rfl⟩
        · exact S.may.lt
        · obtain ⟨_, _, _, _, h3⟩ := S.may.blk
          obtain ⟨_, _, m⟩ := h3 j hj
          exact m.lt) (S.ap k hk)
      have eo : (lim Try.prog σ).call 12 [.ptr d 0] h2 = some (.nils, none) := by
        obtain ⟨S0, hS0, ⟨_, e⟩ | ⟨q, _⟩⟩ := open_run hO D2
        · exact e
        · exact absurd hS0.eq_nil q
      obtain ⟨b2, hb2, B2⟩ := D2.db
      have ed : (lim Try.prog σ).call 13 [.ptr d 0] h2 = some (.bool false, none) := dead_run (fun f a h q => hσ f a h (dkc_told q)) hb2 B2 D2.npos
      simp only [go_sem, a0, a1, a2, a7, a9, a11, hi2, PL.len, e2, hn, eo, ed]
      refine loop_ind (Q := Tru) (fun i env h' => evT env 0 = .int .i64 (Int.ofNat n) ∧ evT env 7 = .ptr d 0 ∧ evT env 9 = .ptr X.nx 0 ∧ evT env 13 = .int .i64 (Int.ofNat i) ∧ DkOk h' d lid mid n last2 [] c2 ∧ May h' X.nx n (mayR last es) idf) n 0 ?_ (Nat.zero_le _) ?_ ?_
      · exact ⟨by simp only [go_sem, a0], by simp only [go_sem, a7], by simp only [go_sem, a9], by simp only [go_sem]; rfl, D2, M2⟩
      · clear a0 a1 a2 a7 a9 a11 hi2 e2 eo ed hb2 B2 D2 M2
        rintro i env h3 ⟨a0, a7, a9, a13, D3, M3⟩ hi next
        have hi2 := ofNat_lt hi
        have hw := wrap_succ (i := i) (by omega)
        obtain ⟨x, hx, hor⟩ := hpk i hi
        have hxl := D3.l256 x (List.mem_of_getElem? hx)
        have er := read_run hσ1 D3 (Int.ofNat i)
        rw [if_pos ⟨Int.natCast_nonneg _, hi2⟩] at er
        have hsx : seenL last2 [] (Int.ofNat i).toNat = x := by
          show seenL last2 [] i = x
          unfold seenL
          rw [hx]; rfl
        rw [hsx] at er
        obtain ⟨nb, hnb⟩ : ∃ nb, nb = allocB 33 (bc (zs 256)) := ⟨_, rfl⟩
        have nbn : nb.n = 256 := by rw [hnb, allocB_n, bc_len]; rfl
        have nbr : nb.ro = false := by rw [hnb, aB_r]
        simp only [go_sem, a0, a7, a9, a13, hi2, er, ze_blk, ← hnb, bc_one, bc_len, hxl, nbr]
        refine store_step (Q := Tru) (by rw [bc_len, hxl, nbn]) (bc_one _) fun b' hb1 hb2 hb3 hb4 => ?_
        rw [nbn] at hb3
        obtain ⟨Z, hZ⟩ : ∃ Z : H, Z = (h3.alloc (.cells nb)).put h3.nx (.cells b') := ⟨_, rfl⟩
        have EZ : Ext h3 Z := by rw [hZ]; exact (Ext.alloc _ _).put _ (Nat.le_refl _)
        have Zb : Z.blk h3.nx = some b' := by rw [hZ]; exact put_blk_same _ _ _
        rw [← hZ]
        obtain ⟨bm, hbm, bmn, bmr, bmg⟩ := M3.blk
        obtain ⟨v, hv, m⟩ := bmg i hi
        have Zm : Z.blk X.nx = some bm := (EZ.blk M3.lt).trans hbm
        have mZ := m.frame EZ.nx (EZ.old _ m.lt)
        have hi20 : i < 20 := by omega
        simp only [go_sem, a0, a7, a9, a13, hn]
        have any0 : (mayR last es i).any (fun r => decide (r = x)) = true := by
          rw [List.any_eq_true]
          unfold mayR
          rcases hor with r | r
          · exact ⟨x, by rw [r]; simp, by simp⟩
          · exact ⟨x, List.mem_cons_of_mem _ r, by simp⟩
        have hRl : (mayR last es i).length ≤ 1000 := by
          have := hvs i; unfold mayR; rw [List.length_cons]; omega
        refine loop_ind (Q := Tru) (fun k env h' => evT env 0 = .int .i64 (Int.ofNat n) ∧ evT env 7 = .ptr d 0 ∧ evT env 9 = .ptr X.nx 0 ∧ evT env 13 = .int .i64 (Int.ofNat i) ∧ evT env 14 = .ptr h3.nx 0 ∧ evT env 16 = .bool true ∧
          evT env 17 = .bool (((mayR last es i).take k).any (fun r => decide (r = x))) ∧ evT env 18 = .int .i64 (Int.ofNat k) ∧ h' = Z) (mayR last es i).length 0 ?_ (Nat.zero_le _) ?_ ?_
        · exact ⟨by simp only [go_sem, a0], by simp only [go_sem, a7], by simp only [go_sem, a9], by simp only [go_sem, a13], by simp only [go_sem], by simp only [go_sem] <;> rfl, by simp only [go_sem] <;> rfl, by simp only [go_sem] <;> rfl, rfl⟩
        · clear a0 a7 a9 a13
          rintro k env h' ⟨a0, a7, a9, a13, a14, a16, a17, a18, rfl⟩ hk next2
          have hk2 := ofNat_lt hk
          have hwk := wrap_succ (i := k) (by omega)
          obtain ⟨r, hr⟩ : ∃ r, (mayR last es i)[k]? = some r := ⟨_, List.getElem?_eq_getElem hk⟩
          obtain ⟨ro, rb, q1, q2, q3⟩ := mZ.get hr
          have mlen := mZ.len
          have hrl : r.length = 256 := by
            obtain ⟨_, _, _, _, _, _, _, _, _, h256, _⟩ := m
            exact h256 r (List.mem_of_getElem? hr)
          have heq := fun xo yo => eq256 xo yo r x hrl hxl
          have htake : ((mayR last es i).take (k + 1)).any (fun r => decide (r = x)) = (((mayR last es i).take k).any (fun r => decide (r = x)) || decide (r = x)) := by
            rw [List.take_add_one, hr, List.any_append]; simp
          cases hany : ((mayR last es i).take k).any (fun r => decide (r = x)) with
          | true =>
            rw [hany] at a17 htake
            simp only [go_sem, a0, a7, a9, a13, a14, a16, a17, a18, hk2, Zm, hv, hi20, mlen, q1, q2, q3, Zb, hb3, heq, hwk, Nat.mul_one, Nat.zero_add]
            refine cnd_go (Q := Tru) (by kernel_rfl) ?_
            simp only [go_sem, a0, a7, a9, a13, a14, a16, a17, a18, hk2, Zm, hv, hi20, mlen, q1, q2, q3, Zb, hb3, heq, hwk, Nat.mul_one, Nat.zero_add]
            exact next2 _ _ ⟨by simp only [go_sem, a0], by simp only [go_sem, a7], by simp only [go_sem, a9], by simp only [go_sem, a13], by simp only [go_sem, a14], by simp only [go_sem, a16], by rw [htake]; simp only [go_sem] <;> rfl, by simp only [go_sem], rfl⟩
          | false =>
            rw [hany] at a17 htake
            simp only [go_sem, a0, a7, a9, a13, a14, a16, a17, a18, hk2, Zm, hv, hi20, mlen, q1, q2, q3, Zb, hb3, heq, hwk, Nat.mul_one, Nat.zero_add]
            refine cnd_go (Q := Tru) (by kernel_rfl) ?_
            simp only [go_sem, a0, a7, a9, a13, a14, a16, a17, a18, hk2, Zm, hv, hi20, mlen, q1, q2, q3, Zb, hb3, heq, hwk, Nat.mul_one, Nat.zero_add]
            exact next2 _ _ ⟨by simp only [go_sem, a0], by simp only [go_sem, a7], by simp only [go_sem, a9], by simp only [go_sem, a13], by simp only [go_sem, a14], by simp only [go_sem, a16], by rw [htake]; simp only [go_sem] <;> rfl, by simp only [go_sem], rfl⟩
        · clear a0 a7 a9 a13
          rintro env h' ⟨a0, a7, a9, a13, a14, a16, a17, a18, rfl⟩
          have hk2 := ofNat_nlt (Nat.le_refl (mayR last es i).length)
          have mlen := mZ.len
          rw [List.take_length, any0] at a17
          simp only [go_sem, a0, a7, a9, a13, a14, a16, a17, a18, hk2, Zm, hv, hi20, mlen, hw, Nat.mul_one, Nat.zero_add]
          refine next _ _ ⟨by simp only [go_sem, a0], by simp only [go_sem, a7], by simp only [go_sem, a9], by simp only [go_sem], D3.ext EZ, M3.keep EZ.nx fun k hk => EZ.old k ?_⟩
          rcases hk with rfl | ⟨j, hj, rfl⟩
          · exact M3.lt
          · obtain ⟨_, _, m⟩ := bmg j hj
            exact m.lt
      · clear a0 a1 a2 a7 a9 a11 hi2 e2 eo ed hb2 B2 D2 M2
        rintro env h3 ⟨a0, a7, a9, a13, D3, M3⟩
        have hi2 := ofNat_nlt (Nat.le_refl n)
        have eb : buildT Try.prog 33 [] = some (.agg (bc (zs 256))) := by kernel_rfl
        obtain ⟨h4, es4, c4, e4, T4, _, _⟩ := write_run hσ1 D3 (k := 0) (by omega) (x := zs 256) rfl (by show 0 < 1000000; decide)
        obtain ⟨x5, l5, es5, c5, e5, _⟩ := flush_run hσ1 hO T4.ok
        have e4' : (lim Try.prog σ).call 15 [.ptr d 0, .int .i64 0, .agg (bc (zs 256))] h3 = some (.int .i64 0, some h4) := e4
        simp only [go_sem, a0, a7, a9, a13, hi2, eb, e4', e5, hn]
        exact tru_fin _ _
end
end Go.Cl.Sh
