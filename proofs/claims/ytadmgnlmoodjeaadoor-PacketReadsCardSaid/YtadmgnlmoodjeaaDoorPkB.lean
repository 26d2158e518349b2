/- The program's functions, run by the rewriting evaluator: what each answers and leaves (PkB). -/
import Derived.Test.YtadmgnlmoodjeaaDoorPkA
set_option linter.all false
open Go Go.Cl Go.Proofs
namespace Go.Cl.Sh.W
open Go Go.Cl
def told (_ : FuncId) : Bool := false
end Go.Cl.Sh.W

namespace Go.Cl.Sh.W
variable {σ : Sums}

def bc (l : List Nat) : List CV := l.map fun b => .int .u8 (Int.ofNat b)
theorem bc_len (l : List Nat) : (bc l).length = l.length := by simp [bc]
theorem bc_app (a b : List Nat) : bc (a ++ b) = bc a ++ bc b := by simp [bc]
theorem bc_one (l : List Nat) : (bc l).all CV.one = true := List.all_eq_true.2 fun x hx => by
  obtain ⟨b, _, rfl⟩ := List.mem_map.1 hx; rfl

structure WrAt (h : H) (w lid : Nat) (failed : Bool) (bs : List Nat) : Prop where
  lt : w < h.nx
  ne : bs.length ≠ 0 → w ≠ lid
  blk : ∃ b v, h.blk w = some b ∧ b.ro = false ∧ b.n = 2 ∧ b.get 0 = some v ∧ b.get 1 = some (.bool failed) ∧ Lst h 1 v lid bs.length (bc bs)

structure WFr (h h' : H) (w lid : Nat) : Prop where
  nx : h.nx ≤ h'.nx
  gn : h'.gn = h.gn
  old : ∀ id, id < h.nx → id ≠ w → id ≠ lid → h'.t.get id = h.t.get id
theorem WrAt.ext' {h h' : H} {w lid : Nat} {fl : Bool} {bs : List Nat} (A : WrAt h w lid fl bs) (e : Ext h h') : WrAt h' w lid fl bs := by
  obtain ⟨b, v, hb, hro, hbn, h0, h1, hl⟩ := A.blk
  exact ⟨Nat.lt_of_lt_of_le A.lt e.nx, A.ne, b, v, (e.blk A.lt).trans hb, hro, hbn, h0, h1, hl.ext e⟩
theorem WrAt.unlo {h : H} {w lid : Nat} {fl : Bool} {bs : List Nat} (A : WrAt h.lo w lid fl bs) : WrAt h w lid fl bs := by
  obtain ⟨b, v, hb, hro, hbn, h0, h1, hl⟩ := A.blk
  exact ⟨A.lt, A.ne, b, v, hb, hro, hbn, h0, h1, hl.mono (Nat.le_refl _) fun _ => rfl⟩
theorem WFr.refl (h : H) (w lid : Nat) : WFr h h w lid := ⟨Nat.le_refl _, rfl, fun _ _ _ _ => rfl⟩

theorem wsize_run (hσ : ∀ f a h, told f = false → σ f a h = none) (h : H) (n : Int) : (lim Tryd.prog σ).call 65 [.int .i64 n] h = some (.bool (decide (n = 1 ∨ n = 2 ∨ n = 4 ∨ n = 8)), none) := by
  rw [call_eq (hσ _ _ _ (by decide)) fn_65 rfl rfl, Tryd.ntmps65, Tryd.results65]
  by_cases h1 : n = 1
  · subst h1; simp only [go_sem, true_or]; rw [fin_q _ _ _ rfl rfl]
  by_cases h2 : n = 2
  · subst h2; simp only [go_sem, true_or, or_true]; rw [fin_q _ _ _ rfl rfl]
  by_cases h4 : n = 4
  · subst h4; simp only [go_sem, true_or, or_true]; rw [fin_q _ _ _ rfl rfl]
  by_cases h8 : n = 8
  · subst h8; simp only [go_sem, true_or, or_true]; rw [fin_q _ _ _ rfl rfl]
  simp only [go_sem, h1, h2, h4, h8, or_self]
  rw [fin_q _ _ _ rfl rfl]

/-- a digit, from the highest one -/
def dig (n k j : Nat) : Nat := n / 2 ^ (8 * (k - 1 - j)) % 256
def be (n k : Nat) : List Nat := (List.range k).map (dig n k)

/-! ### slices of bytes, whosesoever -/
def BSl (h : H) (v : CV) (cs : List CV) : Prop := (cs = [] ∧ v = .nils) ∨ (cs = [] ∧ ∃ id a b c, v = .sl0 id a b c) ∨ ∃ id off c b, v = .sl id off cs.length c ∧ id < h.nx ∧ h.blk id = some b ∧ b.loadN off cs.length = some cs
theorem BSl.ext {h h' : H} {v : CV} {cs : List CV} (B : BSl h v cs) (e : Ext h h') : BSl h' v cs := by
  rcases B with h1 | h1 | ⟨id, off, c, b, h1, h2, h3, h4⟩
  · exact .inl h1
  · exact .inr (.inl h1)
  · exact .inr (.inr ⟨id, off, c, b, h1, Nat.lt_of_lt_of_le h2 e.nx, (e.blk h2).trans h3, h4⟩)
theorem BSl.len {h : H} {v : CV} {cs : List CV} (B : BSl h v cs) (h' : H) : builtinT Tryd.prog h' .len [24] [v] = some (.val (.int .i64 (Int.ofNat cs.length))) := by
  rcases B with ⟨rfl, rfl⟩ | ⟨rfl, id, x1, x2, x3, rfl⟩ | ⟨id, off, c, b, rfl, _⟩ <;> simp [builtinT, Tryd.underlying24, lenC]
theorem BSl.one {h : H} {v : CV} {cs : List CV} (B : BSl h v cs) : v.one = true ∧ v.cells = [v] := by
  rcases B with ⟨rfl, rfl⟩ | ⟨rfl, id, x1, x2, x3, rfl⟩ | ⟨id, off, c, b, rfl, _⟩ <;> exact ⟨rfl, rfl⟩
theorem lst_bsl {h : H} {v : CV} {id n : Nat} {cs : List CV} (l : Lst h 1 v id n cs) : BSl h v cs := by
  have hl := l.len
  rcases l.val with ⟨h0, rfl⟩ | ⟨h0, rfl, h1, b, h2, h3, h4, h5⟩
  · subst h0; left; exact ⟨List.length_eq_zero_iff.1 (by simpa using hl), rfl⟩
  · right; right; refine ⟨id, 0, _, b, by rw [hl, Nat.mul_one], h1, h2, loadN_of _ _ _ rfl fun i v hv => by rw [Nat.zero_add, h5, hv]⟩
theorem app_24_sl0 (h : H) (s : CV) (a b c d : Nat) : builtinT Tryd.prog h .append [24, 24] [s, .sl0 a b c d] = uv (appS h 1 1 1 s 0 (some [])) := by kernel_rfl
theorem BSl.app {h : H} {v : CV} {cs : List CV} (B : BSl h v cs) (s : CV) : builtinT Tryd.prog h .append [24, 24] [s, v] = uv (appS h 1 1 1 s cs.length (some cs)) := by
  rcases B with ⟨rfl, rfl⟩ | ⟨rfl, id, x1, x2, x3, rfl⟩ | ⟨id, off, c, b, rfl, h1, h2, h3⟩
  · rw [app_24_n, ap_24_n]; rfl
  · exact app_24_sl0 _ _ _ _ _ _
  · rw [app_24, ap_24, firstC_sl, h2, bind_some', Nat.mul_one, h3]
theorem bytesOf_bc : ∀ bs : List Nat, (∀ b ∈ bs, b < 256) → bytesOf (bc bs) = some bs
  | [], _ => rfl
  | b :: bs, h => by
    have := bytesOf_bc bs fun x hx => h x (List.mem_cons_of_mem _ hx)
    rw [bc] at this
    simp only [bc, bytesOf, List.map_cons, Int.ofNat_eq_natCast, Int.toNat_natCast] at this ⊢
    rw [this]; simp [blt_eq', h b List.mem_cons_self]
theorem BSl.str {h : H} {v : CV} {bs : List Nat} (B : BSl h v (bc bs)) (hb : ∀ b ∈ bs, b < 256) : convT Tryd.prog h 24 9 v = some (.val (.str bs)) := by
  rcases B with ⟨e, rfl⟩ | ⟨e, id, x1, x2, x3, rfl⟩ | ⟨id, off, c, b, rfl, h1, h2, h3⟩
  · have : bs = [] := by simpa [bc] using e
    subst this; rw [cv_24_9_n]
  · have : bs = [] := by simpa [bc] using e
    subst this; rw [cv_24_9_z]
  · rw [cv_24_9, h2]
    show (b.loadN _ _).bind _ = _
    rw [h3]
    simp [bytesOf_bc _ hb]

/-- what a growing leaves -/
structure AppFr (h h' : H) (lid n lid' m : Nat) : Prop where
  nx : h.nx ≤ h'.nx
  gn : h'.gn = h.gn
  old : ∀ k, k < h.nx → (n ≠ 0 → k ≠ lid) → h'.t.get k = h.t.get k
  id : (lid' = lid ∧ m = 0) ∨ h.nx ≤ lid'

theorem app_any {h : H} {v : CV} {id n : Nat} {cs : List CV} (l : Lst h 1 v id n cs) {new : List CV} (ho : new.all CV.one = true) (hr : n + new.length ≤ 70368744177664) :
    ∃ v' id' h', appS h 1 1 1 v new.length (some new) = some (v', h') ∧ Lst h' 1 v' id' (n + new.length) (cs ++ new) ∧ AppFr h h' id n id' new.length ∧ h'.low ≤ h.low := by
  by_cases h0 : new = []
  · subst h0
    have hg : (Nat.blt 0 1 && Nat.ble ((n + 0) * 1) 70368744177664 && Nat.ble (n + 0) 70368744177664 && Nat.beq 1 1 && Nat.beq ([] : List CV).length (0 * 1) && ([] : List CV).all CV.one) = true := by
      simp only [blt_eq', ble_eq', beq_eq', Bool.and_eq_true, decide_eq_true_eq]
      simp at hr
      simp; omega
    rcases l.val with ⟨rfl, rfl⟩ | ⟨hn, rfl, hid, b, hb, hro, hbn, hbg⟩
    · refine ⟨.nils, id, h, ?_, by simpa using l, ⟨Nat.le_refl _, rfl, fun _ _ _ => rfl, .inl ⟨rfl, rfl⟩⟩, Nat.le_refl _⟩
      unfold appS
      rw [lenC_nils, bind_some', bind_some']
      rfl
    · refine ⟨.sl id 0 n (.opn 1), id, h.put id (.cells b), ?_, ?_, ⟨Nat.le_refl _, rfl, fun k _ hk => put_get_ne _ _ _ _ (hk (by omega)), .inl ⟨rfl, rfl⟩⟩, Nat.min_le_left _ _⟩
      · unfold appS
        rw [lenC_sl, bind_some', bind_some']
        show cond (Nat.blt 0 1 && Nat.ble ((n + 0) * 1) 70368744177664 && Nat.ble (n + 0) 70368744177664 && Nat.beq 1 1 && Nat.beq ([] : List CV).length (0 * 1) && ([] : List CV).all CV.one) _ _ = _
        rw [hg, cond_true]
        dsimp only [List.length_nil]
        rw [beq_eq', decide_eq_true rfl, cond_true, hb, bind_some', hro, cond_false, ble_eq', decide_eq_true (by omega), cond_true, storeN_nil]
        rfl
      · simp only [List.length_nil, Nat.add_zero, List.append_nil]
        exact ⟨l.len, .inr ⟨hn, rfl, hid, b, put_blk_same _ _ _, hro, hbn, hbg⟩⟩
  · have hm : 0 < new.length := List.length_pos_iff.2 h0
    obtain ⟨h', e, l', h1, h2, h3, h4, _⟩ := app_Lst (by_ := 1) (zl := 1) l hm (new := new) (by simp) ho rfl (by decide) (by omega) hr
    exact ⟨_, _, h', e, l', ⟨by omega, h2, h3, .inr (Nat.le_refl _)⟩, h4⟩

theorem appb_step {β : Type} {Q : Option β → Prop} {X : H} {s v : CV} {lid n : Nat} {old cs : List CV} {K : Out → Option β} (l : Lst X 1 s lid n old) (B : BSl X v cs) (ho : cs.all CV.one = true) (hr : n + cs.length ≤ 70368744177664)
    (k : ∀ s' lid' h', Lst h' 1 s' lid' (n + cs.length) (old ++ cs) → AppFr X h' lid n lid' cs.length → h'.low ≤ X.low → Q (K (.upd s' h'))) : Q (@thn _ β (builtinT Tryd.prog X .append [24, 24] [s, v]) ⟨K⟩) := by
  obtain ⟨v', id', h', e, l', f, hlow⟩ := app_any l ho hr
  rw [B.app, e]
  exact k _ _ _ l' f hlow

theorem lst_beq {h : H} {size : Nat} {v : CV} {id n : Nat} {cs : List CV} (l : Lst h size v id n cs) : beqC v v = true := by
  rcases l.val with ⟨_, rfl⟩ | ⟨_, rfl, _⟩
  · rfl
  · exact beqC_sl _ _ _ _
/-! ### the writer's methods -/
theorem WFr.up {a b : H} {w l : Nat} (x : WFr a b w l) (m : Nat) : WFr a (b.up m) w l := ⟨x.nx, x.gn, x.old⟩
theorem WrAt.up {h : H} {w lid : Nat} {fl : Bool} {bs : List Nat} (A : WrAt h w lid fl bs) (m : Nat) : WrAt (h.up m) w lid fl bs := A.ext' (Ext.up h m)
theorem WFr.trans {a b c : H} {w l l' : Nat} (x : WFr a b w l) (y : WFr b c w l') (hl : l' = l ∨ a.nx ≤ l') : WFr a c w l :=
  ⟨Nat.le_trans x.nx y.nx, y.gn.trans x.gn, fun k h1 h2 h3 => by
    rw [y.old k (Nat.lt_of_lt_of_le h1 x.nx) h2 (by omega)]; exact x.old k h1 h2 h3⟩

/-- a writer's state behind so much -/
def wput (s : Bool × List Nat) (p : Option (List Nat)) : Bool × List Nat := if s.1 then s else match p with | none => (true, s.2) | some l => (false, s.2 ++ l)

/-- what is handed on was changed below -/
def Lw (h : H) (w : Nat) (x : Option H) : Prop := ∀ h1, x = some h1 → h1.low ≤ w ∧ h1.low ≤ h.low
theorem Lw.none (h : H) (w : Nat) : Lw h w none := fun _ e => by cases e
theorem Lw.fin (h s : H) {w : Nat} (e : s.low ≤ w) : Lw h w (some (s.up (min h.low s.low))) := fun h1 q => by
  cases q; rw [up_low]; omega
def WOk (h : H) (w lid : Nat) (s : Bool × List Nat) (r : Option (CV × Option H)) : Prop :=
  ∃ x lid', r = some (.ptr w 0, x) ∧ WrAt (x.getD h) w lid' s.1 s.2 ∧ WFr h (x.getD h) w lid ∧ (lid' = lid ∨ h.nx ≤ lid') ∧ Lw h w x ∧ (x = none → s.1 = true)

def sizeOk (n : Int) : Bool := decide (n = 1 ∨ n = 2 ∨ n = 4 ∨ n = 8)
def numB (n : Nat) (k : Int) : Option (List Nat) := if sizeOk k then (if n / 256 ^ k.toNat = 0 then some (be n k.toNat) else none) else none

set_option maxRecDepth 100000 in
theorem number_run (hσ : ∀ f a h, told f = false → σ f a h = none) {h : H} {w lid : Nat} {fl : Bool} {bs : List Nat} (A : WrAt h w lid fl bs) (n : Nat) (hn : n < 2 ^ 64) (k : Int) (room : bs.length ≤ 1000000) :
    WOk h w lid (wput (fl, bs) (numB n k)) ((lim Tryd.prog σ).call 36 [.ptr w 0, .int .u64 (Int.ofNat n), .int .i64 k] h) := by
  obtain ⟨b, v, hb, hro, hbn, h0, h1, hl⟩ := A.blk
  have hw := wsize_run hσ h.lo k
  rw [call_eq (hσ _ _ _ (by decide)) fn_36 rfl rfl, Tryd.ntmps36, Tryd.results36]
  have hlt := A.lt
  cases fl
  · by_cases hs : k = 1 ∨ k = 2 ∨ k = 4 ∨ k = 8
    · rw [decide_eq_true hs] at hw
      obtain ⟨K, rfl, hK, hK8⟩ : ∃ K : Nat, k = Int.ofNat K ∧ 1 ≤ K ∧ K ≤ 8 := by
        rcases hs with rfl | rfl | rfl | rfl
        · exact ⟨1, rfl, by decide, by decide⟩
        · exact ⟨2, rfl, by decide, by decide⟩
        · exact ⟨4, rfl, by decide, by decide⟩
        · exact ⟨8, rfl, by decide, by decide⟩
      have e1 : IntKind.wrap .i64 (8 * Int.ofNat K) = Int.ofNat (8 * K) := by
        rw [wrap_i64 (by simp; omega) (by simp; omega)]; simp
      have e2 : IntKind.wrap .i64 (Int.ofNat K - 1) = Int.ofNat K - 1 := by
        rw [wrap_i64 (by simp; omega) (by simp; omega)]
      have e3 : 2 ^ (8 * K) = 256 ^ K := by rw [Nat.pow_mul]
      have hmin : min (8 * K) 64 = 8 * K := by omega
      have hn0 : numB n (Int.ofNat K) = if n / 256 ^ K = 0 then some (be n K) else none := by
        unfold numB
        rw [show sizeOk (Int.ofNat K) = true from decide_eq_true hs]
        rfl
      by_cases hz : n / 256 ^ K = 0
      · have hput : wput (false, bs) (numB n (Int.ofNat K)) = (false, bs ++ be n K) := by rw [hn0, if_pos hz]; rfl
        rw [hput]
        have hfit : Int.ofNat K < 8 ∨ ¬ Int.ofNat K < 8 := Classical.em _
        have hz' : Int.ofNat (n / 2 ^ (8 * K)) = 0 := by rw [e3, hz]; rfl
        rcases hfit with h8 | h8
        case' inl => simp only [go_sem, hw, hb, h0, h1, hbn, hro, bin_shr, fdiv_nat, e1, e2, isW_und, h8, IntKind.bits, hmin, hz']
        case' inr => simp only [go_sem, hw, hb, h0, h1, hbn, hro, bin_shr, fdiv_nat, e1, e2, isW_und, h8]
        all_goals
          refine loop_ind (Q := WOk h w lid (false, bs ++ be n K)) (fun i env h' => evT env 0 = .ptr w 0 ∧ evT env 1 = .int .u64 (Int.ofNat n) ∧ evT env 7 = .int .i64 (Int.ofNat K - 1 - Int.ofNat i) ∧ ∃ lid', WrAt h' w lid' false (bs ++ (be n K).take i) ∧ WFr h h' w lid ∧ (lid' = lid ∨ h.nx ≤ lid') ∧ (0 < i → h'.low ≤ w)) K 0 ?_ (Nat.zero_le _) ?_ ?_
          · refine ⟨by simp only [go_sem], by simp only [go_sem], ?_, lid, ?_, ⟨Nat.le_refl _, rfl, fun _ _ _ _ => rfl⟩, .inl rfl, fun h => absurd h (by decide)⟩
            · simp only [go_sem]; congr 1; simp
            · simp only [List.take_zero, List.append_nil]; exact A.ext' (Ext.lo h)
          · rintro i env h' ⟨q0, q1, q7, lid', A', F', hl', _⟩ hi next
            obtain ⟨b', v', hb', hro', hbn', h0', h1', hls⟩ := A'.blk
            obtain ⟨j, hj⟩ : ∃ j, K - 1 - i = j := ⟨_, rfl⟩
            have q7' : evT env 7 = .int .i64 (Int.ofNat j) := by rw [q7]; congr 1; simp; omega
            have c1 : Int.ofNat j ≥ 0 := Int.natCast_nonneg _
            have c2 : IntKind.wrap .i64 (8 * Int.ofNat j) = Int.ofNat (8 * j) := by
              rw [wrap_i64 (by simp; omega) (by simp; omega)]; simp
            simp only [go_sem, q0, q1, q7', c1, c2, hb', h0', h1', hro', hbn', bin_shr, fdiv_nat, wrap_u8]
            rw [cnd_closed]
            rotate_left
            · kernel_rfl
            simp only [go_sem, q0, q1, q7', c1, c2, hb', h0', h1', hro', hbn', bin_shr, fdiv_nat, wrap_u8]
            have hlen : (bs ++ (be n K).take i).length ≤ 1000008 := by simp [be]; omega
            have hlt' := A'.lt
            have hnw := A'.ne
            refine app_step (Q := WOk h w lid (false, bs ++ be n K)) (m := 1) (by_ := 1) (hls.ext (Ext.alloc _ _)) (by decide) rfl rfl rfl (by decide) (by omega) (by omega) ?_
            intro h2 l2 hnx2 hgn2 hold2 hlow2 _
            have hb2 := blk_eq (hold2 w (by simp only [go_sem]; omega) fun q e => hnw (by omega) e)
            have hne1 : w ≠ h'.nx := by omega
            simp only [go_sem, hne1] at l2 hnx2 hgn2 hold2 hlow2 hb2
            rw [hb'] at hb2
            have c3 : IntKind.wrap .i64 (Int.ofNat j - 1) = Int.ofNat K - 1 - Int.ofNat (i + 1) := by
              rw [wrap_i64 (by simp; omega) (by simp; omega)]; simp; omega
            simp only [go_sem, q0, q1, q7', c1, c2, c3, hb', hb2, h0', h1', hro', hbn', l2.one, hne1, bin_shr, fdiv_nat, wrap_u8, lst_beq hls]
            rw [cnd_closed]
            rotate_left
            · kernel_rfl
            simp only [go_sem, q0, q1, q7', c1, c2, c3, hb', hb2, h0', h1', hro', hbn', l2.one, hne1, bin_shr, fdiv_nat, wrap_u8, lst_beq hls]
            rw [cond_al (i := 4) (d := [10, 11, 14])]
            rotate_left
            · kernel_rfl
            simp only [go_sem, q0, q1, q7', c1, c2, c3, hb', hb2, h0', h1', hro', hbn', l2.one, hne1, bin_shr, fdiv_nat, wrap_u8, lst_beq hls]
            refine next _ _ ⟨by simp only [go_sem, q0], by simp only [go_sem, q1], by simp only [go_sem], h'.nx + 1, ?_, ?_, .inr (by have := F'.nx; omega), fun _ => ?_⟩
            · simp only [go_sem]
              have hdig : n / 2 ^ min (8 * j) 64 % 256 = dig n K i := by
                unfold dig; rw [hj, show min (8 * j) 64 = 8 * j by omega]
              have htk : bs ++ (be n K).take (i + 1) = (bs ++ (be n K).take i) ++ [dig n K i] := by
                rw [List.append_assoc]; congr 1
                rw [List.take_add_one]
                simp [be, hi]
              rw [hdig] at l2
              rw [htk]
              refine ⟨by first | (simp only [go_sem]; omega) | simp only [go_sem], fun _ => (by omega : w ≠ h'.nx + 1), _, _, put_blk_same _ _ _, by simp only [go_sem, hro'], by simp only [go_sem, hbn'], by simp only [go_sem, hbn']; rfl, by simp only [go_sem, h1'], ?_⟩
              rw [show (bs ++ List.take i (be n K) ++ [dig n K i]).length = (bs ++ List.take i (be n K)).length + 1 by rw [List.length_append (bs := [dig n K i])]; rfl, bc_app (bs ++ List.take i (be n K))]
              have hne2 : h'.nx + 1 ≠ w := by omega
              exact Lst.mono (h := h2) l2 (by first | (simp only [go_sem]; omega) | simp only [go_sem]) fun _ => by simp only [go_sem, hne2]
            · simp only [go_sem]
              refine ⟨by have := F'.nx; simp only [go_sem]; omega, by simp only [go_sem]; rw [hgn2]; exact F'.gn, fun k k1 k2 k3 => ?_⟩
              have := F'.nx
              rw [put_get_ne _ _ _ _ k2, hold2 k (by omega) (by omega), alloc_get_ne _ _ _ (by omega)]
              exact F'.old k k1 k2 k3
            · simp only [go_sem]
              omega
          · rintro env h' ⟨q0, q1, q7, lid', A', F', hl', hlow⟩
            have q7' : evT env 7 = .int .i64 (-1) := by rw [q7]; congr 1; simp; omega
            have htk : (be n K).take K = be n K := List.take_of_length_le (by simp [be])
            simp only [go_sem, q0, q1, q7']
            rw [fin_l _ _ _ (Nat.lt_of_le_of_lt (hlow (by omega)) hlt)]
            rw [htk] at A'; exact ⟨_, lid', rfl, A'.up _, F'.up _, hl', Lw.fin _ _ (hlow (by omega)), fun q => by cases q⟩
      · have hput : wput (false, bs) (numB n (Int.ofNat K)) = (true, bs) := by rw [hn0, if_neg hz]; rfl
        rw [hput]
        have h8 : Int.ofNat K < 8 := by
          by_cases q : K = 8
          · subst q; exact absurd (Nat.div_eq_of_lt (by simpa using hn)) hz
          · simp; omega
        have hz' : ¬ Int.ofNat (n / 2 ^ (8 * K)) = 0 := by rw [e3]; intro q; exact hz (Int.ofNat.inj q)
        simp only [go_sem, hw, hb, h0, h1, hbn, hro, bin_shr, fdiv_nat, e1, e2, isW_und, h8, IntKind.bits, hmin, hz']
        rw [fin_l _ _ _ (by simp only [go_sem]; omega)]
        exact ⟨_, lid, rfl, ⟨A.lt, A.ne, _, _, put_blk_same _ _ _, hro, hbn, by simp only [go_sem, h0], by simp only [go_sem, hbn], hl.mono (Nat.le_refl _) fun hne => by simp only [go_sem, (A.ne hne).symm]⟩, ⟨Nat.le_refl _, rfl, fun k h1 h2 h3 => put_get_ne _ _ _ _ h2⟩, .inl rfl, Lw.fin _ _ (by simp only [go_sem]; omega), fun q => by cases q⟩
    · have hput : wput (false, bs) (numB n k) = (true, bs) := by
        unfold numB
        rw [show sizeOk k = false from decide_eq_false hs]; rfl
      rw [decide_eq_false hs] at hw
      simp only [go_sem, hw, hb, h0, h1, hbn, hro, isW_und]
      rw [fin_l _ _ _ (by simp only [go_sem]; omega), hput]
      exact ⟨_, lid, rfl, ⟨A.lt, A.ne, _, _, put_blk_same _ _ _, hro, hbn, by simp only [go_sem, h0], by simp only [go_sem, hbn], hl.mono (Nat.le_refl _) fun hne => by simp only [go_sem, (A.ne hne).symm]⟩, ⟨Nat.le_refl _, rfl, fun k h1 h2 h3 => put_get_ne _ _ _ _ h2⟩, .inl rfl, Lw.fin _ _ (by simp only [go_sem]; omega), fun q => by cases q⟩
  · simp only [go_sem, hw, hb, h0, h1, hbn, hro]
    rw [fin_q _ _ _ rfl (by simp only [go_sem]; exact decide_eq_true A.lt)]
    exact ⟨_, lid, rfl, A, WFr.refl _ _ _, .inl rfl, Lw.none _ _, fun _ => rfl⟩

theorem be_len (n k : Nat) : (be n k).length = k := by simp [be]

/-- the end of a method that answers its writer, behind a call of another one -/
theorem wok_fin {h : H} {w lid lid' : Nat} {p : Bool × List Nat} {y : Option H} (A : WrAt (y.getD h.lo) w lid' p.1 p.2) (F : WFr h.lo (y.getD h.lo) w lid) (hl : lid' = lid ∨ h.nx ≤ lid') (hw : w < h.nx) (hy : Lw h.lo w y) (h2 : y = none → p.1 = true) :
    WOk h w lid p (some (fin h (y.getD h.lo) (.ptr w 0))) := by
  cases y with
  | none =>
    rw [fin_q h _ _ rfl (by simp only [go_sem]; exact decide_eq_true hw)]
    exact ⟨_, lid', rfl, A.unlo, WFr.refl _ _ _, hl, Lw.none _ _, fun _ => h2 rfl⟩
  | some h1 =>
    have q := hy h1 rfl
    rw [Option.getD_some]
    rw [fin_l h _ _ (Nat.lt_of_le_of_lt q.1 hw)]
    exact ⟨_, lid', rfl, A.up _, ⟨F.nx, F.gn, F.old⟩, hl, Lw.fin _ _ q.1, fun q => by cases q⟩

theorem wok_fin2 {h : H} {w lid lid' : Nat} {p : Bool × List Nat} {y z : Option H} (A : WrAt (z.getD (y.getD h.lo)) w lid' p.1 p.2) (F : WFr h.lo (z.getD (y.getD h.lo)) w lid) (hl : lid' = lid ∨ h.nx ≤ lid') (hw : w < h.nx) (hy : Lw h.lo w y) (hz : Lw (y.getD h.lo) w z) (h2 : z = none → p.1 = true) :
    WOk h w lid p (some (fin h (z.getD (y.getD h.lo)) (.ptr w 0))) := by
  cases z with
  | none => exact wok_fin A F hl hw hy fun _ => h2 rfl
  | some b =>
    refine wok_fin (y := some b) A F hl hw (fun h1 e => ?_) fun q => by cases q
    cases e
    have t := hz _ rfl
    cases y with
    | none => exact t
    | some a =>
      have q := hy _ rfl
      rw [Option.getD_some] at t
      exact ⟨by omega, by omega⟩

theorem bytes_run (hσ : ∀ f a h, told f = false → σ f a h = none) {h : H} {w lid : Nat} {fl : Bool} {bs : List Nat} (A : WrAt h w lid fl bs) {v : CV} {xs : List Nat} (B : BSl h v (bc xs)) (room : bs.length + xs.length ≤ 1000000) :
    WOk h w lid (wput (fl, bs) (some xs)) ((lim Tryd.prog σ).call 35 [.ptr w 0, v] h) := by
  obtain ⟨b, s, hb, hro, hbn, h0, h1, hl⟩ := A.blk
  have hlt := A.lt
  rw [call_eq (hσ _ _ _ (by decide)) fn_35 rfl rfl, Tryd.ntmps35, Tryd.results35]
  cases fl
  · simp only [go_sem, hb, h0, h1, hbn, hro]
    refine appb_step (Q := WOk h w lid _) (hl.ext (Ext.lo _)) (B.ext (Ext.lo _)) (bc_one _) (by rw [bc_len]; omega) ?_
    intro s' lid' h' l' f hlow
    have hb2 := blk_eq (f.old w hlt fun q e => A.ne q e)
    simp only [go_sem] at hb2 hlow
    simp only [go_sem, hb, hb2, h0, h1, hbn, hro, l'.one]
    have hnx := f.nx
    have hid := f.id
    rw [bc_len] at hid
    simp only [go_sem] at hnx hid
    have hne : (bs ++ xs).length ≠ 0 → w ≠ lid' := fun q => by
      rcases hid with ⟨r1, r2⟩ | r
      · rw [r1]; exact A.ne (by rw [List.length_append] at q; omega)
      · omega
    rw [fin_l _ _ _ (by simp only [go_sem]; omega)]
    refine ⟨_, lid', rfl, WrAt.up ⟨by simp only [go_sem]; omega, hne, _, _, put_blk_same _ _ _, by simp only [go_sem, hro], by simp only [go_sem, hbn], by simp only [go_sem, hbn]; rfl, by simp only [go_sem, h1]; rfl, ?_⟩ _, WFr.up ⟨by simp only [go_sem]; omega, by simp only [go_sem]; exact f.gn, fun k k1 k2 k3 => ?_⟩ _, by omega, Lw.fin _ _ (by simp only [go_sem]; omega), fun q => by cases q⟩
    · show Lst _ 1 s' lid' (bs ++ xs).length (bc (bs ++ xs))
      rw [List.length_append, bc_app]
      rw [bc_len] at l'
      refine l'.mono (by rw [put_nx]; exact Nat.le_refl _) fun q => ?_
      have : lid' ≠ w := fun e => hne (by rw [List.length_append]; exact q) e.symm
      simp only [go_sem, this]
    · rw [put_get_ne _ _ _ _ k2]
      exact f.old k k1 fun _ => k3
  · simp only [go_sem, hb, h0, h1, hbn, hro]
    rw [fin_q _ _ _ rfl (by simp only [go_sem]; exact decide_eq_true A.lt)]
    exact ⟨_, lid, rfl, A, WFr.refl _ _ _, .inl rfl, Lw.none _ _, fun _ => rfl⟩

theorem nat_wrap {n : Nat} (h : n < 1000000000000) : IntKind.wrap .u64 (Int.ofNat n) = Int.ofNat n := by
  unfold IntKind.wrap
  simp only [IntKind.bits, IntKind.signed, Bool.false_and, show (2 ^ 64 : Int) = 18446744073709551616 from rfl]
  simp; omega

theorem WFr.ext {h0 h h' : H} {w lid : Nat} (F : WFr h h' w lid) (E : Ext h0 h) (hw : h0.nx ≤ w) (hl : h0.nx ≤ lid) : Ext h0 h' :=
  ⟨Nat.le_trans E.nx F.nx, F.gn.trans E.gn, fun k hk => (F.old k (Nat.lt_of_lt_of_le hk E.nx) (by omega) (by omega)).trans (E.old k hk)⟩

theorem blob_run (hσ : ∀ f a h, told f = false → σ f a h = none) {h0' h : H} {w lid : Nat} {fl : Bool} {bs : List Nat} (A : WrAt h w lid fl bs) {v : CV} {xs : List Nat} (B : BSl h0' v (bc xs)) (E : Ext h0' h) (hw' : h0'.nx ≤ w) (hl' : h0'.nx ≤ lid) (room : bs.length + xs.length ≤ 900000) (h2 : xs.length ≤ 65535) :
    WOk h w lid (wput (fl, bs) (some (be xs.length 2 ++ xs))) ((lim Tryd.prog σ).call 37 [.ptr w 0, v] h) := by
  obtain ⟨b, s, hb, hro, hbn, h0, h1, hl⟩ := A.blk
  have hlt := A.lt
  rw [call_eq (hσ _ _ _ (by decide)) fn_37 rfl rfl, Tryd.ntmps37, Tryd.results37]
  cases fl
  · have q1 : ¬ Int.ofNat (bc xs).length > 65535 := by rw [bc_len]; simp; omega
    have q2 : IntKind.wrap .u64 (Int.ofNat (bc xs).length) = Int.ofNat xs.length := by rw [bc_len]; exact nat_wrap (by omega)
    have e2 : numB xs.length 2 = some (be xs.length 2) := by
      unfold numB
      rw [show sizeOk 2 = true from rfl, if_pos rfl, if_pos]
      · rfl
      · exact Nat.div_eq_of_lt (show xs.length < 65536 by omega)
    obtain ⟨y, lid2, e, A2, F2, hl2, hy, hy2⟩ := number_run hσ (A.ext' (Ext.lo h)) xs.length (Nat.lt_of_le_of_lt h2 (by decide)) 2 (by omega)
    rw [e2] at A2
    have B2 : BSl (y.getD h.lo) v (bc xs) := B.ext (F2.ext E.lo' hw' hl')
    obtain ⟨z, lid3, e3, A3, F3, hl3, hz, hz2⟩ := bytes_run hσ A2 B2 (by simp [wput, be_len]; omega)
    have e' : (lim Tryd.prog σ).call 36 [.ptr w 0, .int .u64 (Int.ofNat xs.length), .int .i64 2] h.lo = some (.ptr w 0, y) := e
    simp only [go_sem, hb, h0, h1, hbn, hro, B.len, q1, q2, e', e3]
    have hap : wput (wput (false, bs) (some (be xs.length 2))) (some xs) = wput (false, bs) (some (be xs.length 2 ++ xs)) := by simp [wput]
    have hn := F2.nx
    rw [lo_nx] at hn
    have r := wok_fin2 A3 (F2.trans F3 hl2) (by rw [lo_nx] at hl2; omega) A.lt hy hz hz2
    rw [hap] at r
    exact r
  · simp only [go_sem, hb, h0, h1, hbn, hro]
    rw [fin_q _ _ _ rfl (by simp only [go_sem]; exact decide_eq_true A.lt)]
    exact ⟨_, lid, rfl, A, WFr.refl _ _ _, .inl rfl, Lw.none _ _, fun _ => rfl⟩

theorem copy_of {h : H} {v : CV} {cs : List CV} (B : BSl h v cs) (ho : cs.all CV.one = true) (hr : cs.length ≤ 70368744177664) {β : Type} {Q : Option β → Prop} {K : Out → Option β}
    (k : ∀ s' h', Ext h h' → BSl h' s' cs → (cs ≠ [] → ∃ lid', s' = .sl lid' 0 cs.length (.opn 1) ∧ h.nx ≤ lid' ∧ Lst h' 1 s' lid' cs.length cs) → (cs = [] → s' = .nils ∧ h' = h) → h'.low ≤ h.low → Q (K (.upd s' h'))) : Q (@thn _ β (builtinT Tryd.prog h .append [24, 24] [.nils, v]) ⟨K⟩) := by
  rw [B.app]
  by_cases h0 : cs = []
  · subst h0
    rw [show ([] : List CV).length = 0 from rfl, appS_nils0 rfl (by decide)]
    exact k _ _ (Ext.refl _) (.inl ⟨rfl, rfl⟩) (fun q => absurd rfl q) (fun _ => ⟨rfl, rfl⟩) (Nat.le_refl _)
  · have hm : 0 < cs.length := List.length_pos_iff.2 h0
    obtain ⟨h', e, l', h1, h2, h3, h4, _⟩ := app_Lst (by_ := 1) (zl := 1) (Lst.nil h 1 0) hm (new := cs) (by simp) ho rfl (by decide) (by omega) (by omega)
    rw [e]
    have l2 : Lst h' 1 (.sl h.nx 0 cs.length (.opn 1)) h.nx cs.length cs := by simpa using l'
    refine k _ _ ⟨by rw [h1]; omega, h2, fun k hk => h3 k hk fun q => absurd rfl q⟩ ?_ (fun _ => ⟨_, by rw [Nat.zero_add], Nat.le_refl _, ?_⟩) (fun q => absurd q h0) h4
    · rw [Nat.zero_add]; exact lst_bsl l2
    · rw [Nat.zero_add]; exact l2

def EndOk (h : H) (fl : Bool) (bs : List Nat) (r : Option (CV × Option H)) : Prop :=
  ∃ v x, r = some (.tup [v, .int .i64 (if fl then 2 else 0)], x) ∧ Ext h (x.getD h) ∧ BSl (x.getD h) v (if fl then [] else bc bs) ∧ (fl = false → bs ≠ [] → ∃ id, v = .sl id 0 bs.length (.opn 1) ∧ h.nx ≤ id ∧ Lst (x.getD h) 1 v id bs.length (bc bs))
theorem end_run (hσ : ∀ f a h, told f = false → σ f a h = none) {h : H} {w lid : Nat} {fl : Bool} {bs : List Nat} (A : WrAt h w lid fl bs) (room : bs.length ≤ 900000) :
    EndOk h fl bs ((lim Tryd.prog σ).call 38 [.ptr w 0] h) := by
  obtain ⟨b, s, hb, hro, hbn, h0, h1, hl⟩ := A.blk
  rw [call_eq (hσ _ _ _ (by decide)) fn_38 rfl rfl, Tryd.ntmps38, Tryd.results38]
  cases fl
  · simp only [go_sem, hb, h0, h1, hbn, hro]
    refine copy_of (Q := EndOk h false bs) (cs := bc bs) (lst_bsl (hl.ext (Ext.lo h))) (bc_one _) (by rw [bc_len]; omega) ?_
    intro s' h' E B hne hnil _
    simp only [go_sem, hb, h0, h1, hbn, hro]
    by_cases q : bs = []
    · subst q
      obtain ⟨rfl, rfl⟩ := hnil rfl
      rw [fin_q _ _ _ rfl rfl]
      exact ⟨_, _, rfl, Ext.refl _, .inl ⟨rfl, rfl⟩, fun _ q => absurd rfl q⟩
    · obtain ⟨lid', hs, hl', L⟩ := hne (by intro e; apply q; simpa [bc] using e)
      subst hs
      rw [lo_nx] at hl'
      rw [fin_new _ _ _ (by simp only [go_sem, blt_eq']; exact decide_eq_false (by omega))]
      exact ⟨_, _, rfl, ⟨E.nx, E.gn, E.old⟩, B.ext (Ext.up _ _), fun _ _ => ⟨lid', by rw [bc_len], hl', by rw [bc_len] at L ⊢; exact L.ext (Ext.up _ _)⟩⟩
  · simp only [go_sem, hb, h0, h1, hbn, hro]
    rw [fin_q _ _ _ rfl rfl]
    exact ⟨_, _, rfl, Ext.refl _, .inl ⟨rfl, rfl⟩, fun q => by cases q⟩
end Go.Cl.Sh.W

namespace Go.Cl.Sh.W
variable {σ : Sums}
set_option maxRecDepth 1000000

def Ret (v : CV) (r : Option (CV × Option H)) : Prop := r = some (v, none)
def isK (k : Int) : Bool := decide (k = 1 ∨ k = 2 ∨ k = 3 ∨ k = 4)
def ackK (k : Int) : Bool := decide (k = 2 ∨ k = 3)
def dataK (k : Int) : Bool := decide (k = 2)
theorem names_run (hσ : ∀ f a h, told f = false → σ f a h = none) (h : H) (k : Int) : Ret (.tup [.bool (isK k), .bool (ackK k), .bool (dataK k)]) ((lim Tryd.prog σ).call 34 [.int .i64 k] h) := by
  rw [call_eq (hσ _ _ _ (by decide)) fn_34 rfl rfl, Tryd.ntmps34, Tryd.results34]
  by_cases k2 : k = 2
  · subst k2
    simp only [go_sem]
    exact congrArg some (fin_q _ _ _ rfl rfl)
  by_cases k3 : k = 3
  · subst k3
    simp only [go_sem]
    exact congrArg some (fin_q _ _ _ rfl rfl)
  by_cases k1 : k = 1
  · subst k1
    simp only [go_sem]
    exact congrArg some (fin_q _ _ _ rfl rfl)
  by_cases k4 : k = 4
  · subst k4
    simp only [go_sem]
    exact congrArg some (fin_q _ _ _ rfl rfl)
  simp only [go_sem, k1, k2, k3, k4]
  have e1 : isK k = false := by unfold isK; simp [k1, k2, k3, k4]
  have e2 : ackK k = false := by unfold ackK; simp [k1, k2, k3, k4]
  have e3 : dataK k = false := by unfold dataK; simp [k1, k2, k3, k4]
  rw [e1, e2, e3]
  exact congrArg some (fin_q _ _ _ rfl rfl)

structure Pk where
  (kind : Int) (mine theirs ack seq : Nat) (v : CV) (xs : List Nat)
def Pk.cs (p : Pk) : List CV := [.int .i64 p.kind, u64 p.mine, u64 p.theirs, u64 p.ack, u64 p.seq, p.v]
def mayV (p : Pk) : Bool :=
  if isK p.kind = false ∨ p.mine = 0 ∨ (p.theirs = 0 ∧ p.kind ≠ 1) then false
  else if ackK p.kind = false ∧ p.ack ≠ 0 then false
  else if dataK p.kind = false then decide (p.seq = 0 ∧ p.xs.length = 0)
  else decide (p.seq ≠ 0 ∧ 0 < p.xs.length ∧ p.xs.length ≤ 4000)
theorem gt0 (n : Nat) : (Int.ofNat n > 0) = (0 < n) := by simp
theorem le4000 (n : Nat) : (Int.ofNat n ≤ 4000) = (n ≤ 4000) := by
  refine propext ?_
  show (n : Int) ≤ 4000 ↔ _
  omega
theorem eqz (n : Nat) : (Int.ofNat n = 0) = (n = 0) := by simp
theorem may_run (hσ : ∀ f a h, told f = false → σ f a h = none) {h : H} (p : Pk) (B : BSl h p.v (bc p.xs)) : Ret (.bool (mayV p)) ((lim Tryd.prog σ).call 33 [.agg p.cs] h) := by
  obtain ⟨Q, hQ⟩ : ∃ Q, Q = Ret (.bool (mayV p)) := ⟨_, rfl⟩
  rw [← hQ]
  rw [call_eq (hσ _ _ _ (by decide)) fn_33 rfl rfl, Tryd.ntmps33, Tryd.results33]
  have nm : ∀ Y, (lim Tryd.prog σ).call 34 [.int .i64 p.kind] Y = some (.tup [.bool (isK p.kind), .bool (ackK p.kind), .bool (dataK p.kind)], none) := fun Y => names_run hσ Y p.kind
  have ov := B.one.1
  have oc := B.one.2
  have bl := B.len
  rw [bc_len] at bl
  have l0 : CV.int .u64 0 = u64 0 := rfl
  unfold Pk.cs
  have fin : ∀ (Y : H) (v : Bool), Y.low = h.nx → v = mayV p → Q (some (fin h Y (.bool v))) := fun Y v hl hv => by
    rw [hQ, fin_q _ _ _ hl rfl, hv]; rfl
  simp only [go_sem, nm, ov, oc, bl, l0, eq64, ne64]
  cases e1 : isK p.kind
  · simp only [go_sem, nm, ov, oc, bl, l0, eq64, ne64, gt0, le4000, eqz, e1]
    exact fin _ _ rfl (by unfold mayV; simp [e1])
  by_cases q1 : p.mine = 0
  · simp only [go_sem, nm, ov, oc, bl, l0, eq64, ne64, gt0, le4000, eqz, e1, q1]
    exact fin _ _ rfl (by unfold mayV; simp [e1, q1])
  by_cases q2 : p.theirs = 0
  · by_cases q3 : p.kind = 1
    · have e1' := e1
      rw [q3] at e1'
      cases e2 : ackK p.kind
      · by_cases q4 : p.ack = 0
        · cases e3 : dataK p.kind
          · by_cases q5 : p.seq = 0
            · by_cases q6 : p.xs.length = 0
              · simp only [go_sem, nm, ov, oc, bl, l0, eq64, ne64, gt0, le4000, eqz, e1, q1, q2, q3, e1', e2, (q3 ▸ e2 : ackK 1 = _), q4, e3, (q3 ▸ e3 : dataK 1 = _), q5, q6]
                exact fin _ _ rfl (by unfold mayV; simp [e1, q1, q2, q3, e1', e2, (q3 ▸ e2 : ackK 1 = _), q4, e3, (q3 ▸ e3 : dataK 1 = _), q5, q6])
              · simp only [go_sem, nm, ov, oc, bl, l0, eq64, ne64, gt0, le4000, eqz, e1, q1, q2, q3, e1', e2, (q3 ▸ e2 : ackK 1 = _), q4, e3, (q3 ▸ e3 : dataK 1 = _), q5, q6]
                exact fin _ _ rfl (by unfold mayV; simp [e1, q1, q2, q3, e1', e2, (q3 ▸ e2 : ackK 1 = _), q4, e3, (q3 ▸ e3 : dataK 1 = _), q5, q6])
            · simp only [go_sem, nm, ov, oc, bl, l0, eq64, ne64, gt0, le4000, eqz, e1, q1, q2, q3, e1', e2, (q3 ▸ e2 : ackK 1 = _), q4, e3, (q3 ▸ e3 : dataK 1 = _), q5]
              exact fin _ _ rfl (by unfold mayV; simp [e1, q1, q2, q3, e1', e2, (q3 ▸ e2 : ackK 1 = _), q4, e3, (q3 ▸ e3 : dataK 1 = _), q5])
          · by_cases q5 : p.seq = 0
            · simp only [go_sem, nm, ov, oc, bl, l0, eq64, ne64, gt0, le4000, eqz, e1, q1, q2, q3, e1', e2, (q3 ▸ e2 : ackK 1 = _), q4, e3, (q3 ▸ e3 : dataK 1 = _), q5]
              exact fin _ _ rfl (by unfold mayV; simp [e1, q1, q2, q3, e1', e2, (q3 ▸ e2 : ackK 1 = _), q4, e3, (q3 ▸ e3 : dataK 1 = _), q5])
            · by_cases q6 : 0 < p.xs.length
              · by_cases q7 : p.xs.length ≤ 4000
                · simp only [go_sem, nm, ov, oc, bl, l0, eq64, ne64, gt0, le4000, eqz, e1, q1, q2, q3, e1', e2, (q3 ▸ e2 : ackK 1 = _), q4, e3, (q3 ▸ e3 : dataK 1 = _), q5, q6, q7]
                  exact fin _ _ rfl (by unfold mayV; simp [e1, q1, q2, q3, e1', e2, (q3 ▸ e2 : ackK 1 = _), q4, e3, (q3 ▸ e3 : dataK 1 = _), q5, q6, q7])
                · simp only [go_sem, nm, ov, oc, bl, l0, eq64, ne64, gt0, le4000, eqz, e1, q1, q2, q3, e1', e2, (q3 ▸ e2 : ackK 1 = _), q4, e3, (q3 ▸ e3 : dataK 1 = _), q5, q6, q7]
                  exact fin _ _ rfl (by unfold mayV; simp [e1, q1, q2, q3, e1', e2, (q3 ▸ e2 : ackK 1 = _), q4, e3, (q3 ▸ e3 : dataK 1 = _), q5, q6, q7])
              · simp only [go_sem, nm, ov, oc, bl, l0, eq64, ne64, gt0, le4000, eqz, e1, q1, q2, q3, e1', e2, (q3 ▸ e2 : ackK 1 = _), q4, e3, (q3 ▸ e3 : dataK 1 = _), q5, q6]
                exact fin _ _ rfl (by unfold mayV; simp [e1, q1, q2, q3, e1', e2, (q3 ▸ e2 : ackK 1 = _), q4, e3, (q3 ▸ e3 : dataK 1 = _), q5, q6])
        · simp only [go_sem, nm, ov, oc, bl, l0, eq64, ne64, gt0, le4000, eqz, e1, q1, q2, q3, e1', e2, (q3 ▸ e2 : ackK 1 = _), q4]
          exact fin _ _ rfl (by unfold mayV; simp [e1, q1, q2, q3, e1', e2, (q3 ▸ e2 : ackK 1 = _), q4])
      · cases e3 : dataK p.kind
        · by_cases q5 : p.seq = 0
          · by_cases q6 : p.xs.length = 0
            · simp only [go_sem, nm, ov, oc, bl, l0, eq64, ne64, gt0, le4000, eqz, e1, q1, q2, q3, e1', e2, (q3 ▸ e2 : ackK 1 = _), e3, (q3 ▸ e3 : dataK 1 = _), q5, q6]
              exact fin _ _ rfl (by unfold mayV; simp [e1, q1, q2, q3, e1', e2, (q3 ▸ e2 : ackK 1 = _), e3, (q3 ▸ e3 : dataK 1 = _), q5, q6])
            · simp only [go_sem, nm, ov, oc, bl, l0, eq64, ne64, gt0, le4000, eqz, e1, q1, q2, q3, e1', e2, (q3 ▸ e2 : ackK 1 = _), e3, (q3 ▸ e3 : dataK 1 = _), q5, q6]
              exact fin _ _ rfl (by unfold mayV; simp [e1, q1, q2, q3, e1', e2, (q3 ▸ e2 : ackK 1 = _), e3, (q3 ▸ e3 : dataK 1 = _), q5, q6])
          · simp only [go_sem, nm, ov, oc, bl, l0, eq64, ne64, gt0, le4000, eqz, e1, q1, q2, q3, e1', e2, (q3 ▸ e2 : ackK 1 = _), e3, (q3 ▸ e3 : dataK 1 = _), q5]
            exact fin _ _ rfl (by unfold mayV; simp [e1, q1, q2, q3, e1', e2, (q3 ▸ e2 : ackK 1 = _), e3, (q3 ▸ e3 : dataK 1 = _), q5])
        · by_cases q5 : p.seq = 0
          · simp only [go_sem, nm, ov, oc, bl, l0, eq64, ne64, gt0, le4000, eqz, e1, q1, q2, q3, e1', e2, (q3 ▸ e2 : ackK 1 = _), e3, (q3 ▸ e3 : dataK 1 = _), q5]
            exact fin _ _ rfl (by unfold mayV; simp [e1, q1, q2, q3, e1', e2, (q3 ▸ e2 : ackK 1 = _), e3, (q3 ▸ e3 : dataK 1 = _), q5])
          · by_cases q6 : 0 < p.xs.length
            · by_cases q7 : p.xs.length ≤ 4000
              · simp only [go_sem, nm, ov, oc, bl, l0, eq64, ne64, gt0, le4000, eqz, e1, q1, q2, q3, e1', e2, (q3 ▸ e2 : ackK 1 = _), e3, (q3 ▸ e3 : dataK 1 = _), q5, q6, q7]
                exact fin _ _ rfl (by unfold mayV; simp [e1, q1, q2, q3, e1', e2, (q3 ▸ e2 : ackK 1 = _), e3, (q3 ▸ e3 : dataK 1 = _), q5, q6, q7])
              · simp only [go_sem, nm, ov, oc, bl, l0, eq64, ne64, gt0, le4000, eqz, e1, q1, q2, q3, e1', e2, (q3 ▸ e2 : ackK 1 = _), e3, (q3 ▸ e3 : dataK 1 = _), q5, q6, q7]
                exact fin _ _ rfl (by unfold mayV; simp [e1, q1, q2, q3, e1', e2, (q3 ▸ e2 : ackK 1 = _), e3, (q3 ▸ e3 : dataK 1 = _), q5, q6, q7])
            · simp only [go_sem, nm, ov, oc, bl, l0, eq64, ne64, gt0, le4000, eqz, e1, q1, q2, q3, e1', e2, (q3 ▸ e2 : ackK 1 = _), e3, (q3 ▸ e3 : dataK 1 = _), q5, q6]
              exact fin _ _ rfl (by unfold mayV; simp [e1, q1, q2, q3, e1', e2, (q3 ▸ e2 : ackK 1 = _), e3, (q3 ▸ e3 : dataK 1 = _), q5, q6])
    · simp only [go_sem, nm, ov, oc, bl, l0, eq64, ne64, gt0, le4000, eqz, e1, q1, q2, q3]
      exact fin _ _ rfl (by unfold mayV; simp [e1, q1, q2, q3])
  · cases e2 : ackK p.kind
    · by_cases q4 : p.ack = 0
      · cases e3 : dataK p.kind
        · by_cases q5 : p.seq = 0
          · by_cases q6 : p.xs.length = 0
            · simp only [go_sem, nm, ov, oc, bl, l0, eq64, ne64, gt0, le4000, eqz, e1, q1, q2, e2, q4, e3, q5, q6]
              exact fin _ _ rfl (by unfold mayV; simp [e1, q1, q2, e2, q4, e3, q5, q6])
            · simp only [go_sem, nm, ov, oc, bl, l0, eq64, ne64, gt0, le4000, eqz, e1, q1, q2, e2, q4, e3, q5, q6]
              exact fin _ _ rfl (by unfold mayV; simp [e1, q1, q2, e2, q4, e3, q5, q6])
          · simp only [go_sem, nm, ov, oc, bl, l0, eq64, ne64, gt0, le4000, eqz, e1, q1, q2, e2, q4, e3, q5]
            exact fin _ _ rfl (by unfold mayV; simp [e1, q1, q2, e2, q4, e3, q5])
        · by_cases q5 : p.seq = 0
          · simp only [go_sem, nm, ov, oc, bl, l0, eq64, ne64, gt0, le4000, eqz, e1, q1, q2, e2, q4, e3, q5]
            exact fin _ _ rfl (by unfold mayV; simp [e1, q1, q2, e2, q4, e3, q5])
          · by_cases q6 : 0 < p.xs.length
            · by_cases q7 : p.xs.length ≤ 4000
              · simp only [go_sem, nm, ov, oc, bl, l0, eq64, ne64, gt0, le4000, eqz, e1, q1, q2, e2, q4, e3, q5, q6, q7]
                exact fin _ _ rfl (by unfold mayV; simp [e1, q1, q2, e2, q4, e3, q5, q6, q7])
              · simp only [go_sem, nm, ov, oc, bl, l0, eq64, ne64, gt0, le4000, eqz, e1, q1, q2, e2, q4, e3, q5, q6, q7]
                exact fin _ _ rfl (by unfold mayV; simp [e1, q1, q2, e2, q4, e3, q5, q6, q7])
            · simp only [go_sem, nm, ov, oc, bl, l0, eq64, ne64, gt0, le4000, eqz, e1, q1, q2, e2, q4, e3, q5, q6]
              exact fin _ _ rfl (by unfold mayV; simp [e1, q1, q2, e2, q4, e3, q5, q6])
      · simp only [go_sem, nm, ov, oc, bl, l0, eq64, ne64, gt0, le4000, eqz, e1, q1, q2, e2, q4]
        exact fin _ _ rfl (by unfold mayV; simp [e1, q1, q2, e2, q4])
    · cases e3 : dataK p.kind
      · by_cases q5 : p.seq = 0
        · by_cases q6 : p.xs.length = 0
          · simp only [go_sem, nm, ov, oc, bl, l0, eq64, ne64, gt0, le4000, eqz, e1, q1, q2, e2, e3, q5, q6]
            exact fin _ _ rfl (by unfold mayV; simp [e1, q1, q2, e2, e3, q5, q6])
          · simp only [go_sem, nm, ov, oc, bl, l0, eq64, ne64, gt0, le4000, eqz, e1, q1, q2, e2, e3, q5, q6]
            exact fin _ _ rfl (by unfold mayV; simp [e1, q1, q2, e2, e3, q5, q6])
        · simp only [go_sem, nm, ov, oc, bl, l0, eq64, ne64, gt0, le4000, eqz, e1, q1, q2, e2, e3, q5]
          exact fin _ _ rfl (by unfold mayV; simp [e1, q1, q2, e2, e3, q5])
      · by_cases q5 : p.seq = 0
        · simp only [go_sem, nm, ov, oc, bl, l0, eq64, ne64, gt0, le4000, eqz, e1, q1, q2, e2, e3, q5]
          exact fin _ _ rfl (by unfold mayV; simp [e1, q1, q2, e2, e3, q5])
        · by_cases q6 : 0 < p.xs.length
          · by_cases q7 : p.xs.length ≤ 4000
            · simp only [go_sem, nm, ov, oc, bl, l0, eq64, ne64, gt0, le4000, eqz, e1, q1, q2, e2, e3, q5, q6, q7]
              exact fin _ _ rfl (by unfold mayV; simp [e1, q1, q2, e2, e3, q5, q6, q7])
            · simp only [go_sem, nm, ov, oc, bl, l0, eq64, ne64, gt0, le4000, eqz, e1, q1, q2, e2, e3, q5, q6, q7]
              exact fin _ _ rfl (by unfold mayV; simp [e1, q1, q2, e2, e3, q5, q6, q7])
          · simp only [go_sem, nm, ov, oc, bl, l0, eq64, ne64, gt0, le4000, eqz, e1, q1, q2, e2, e3, q5, q6]
            exact fin _ _ rfl (by unfold mayV; simp [e1, q1, q2, e2, e3, q5, q6])
end Go.Cl.Sh.W

namespace Go.Cl.Sh.W
variable {σ : Sums}
set_option maxRecDepth 1000000

theorem wok_some {X : H} {w lid : Nat} {s : Bool × List Nat} {r : Option (CV × Option H)} (W : WOk X w lid s r) (hs : s.1 = false) :
    ∃ Y lid', r = some (.ptr w 0, some Y) ∧ WrAt Y w lid' false s.2 ∧ WFr X Y w lid ∧ (lid' = lid ∨ X.nx ≤ lid') ∧ Y.low ≤ w := by
  obtain ⟨x, lid', rfl, A, F, hl, hw, hx⟩ := W
  cases x with
  | none => rw [hx rfl] at hs; cases hs
  | some Y => exact ⟨Y, lid', rfl, by rw [← hs]; exact A, F, hl, (hw Y rfl).1⟩
def hdr (p : Pk) : List Nat := [71, 80] ++ be p.kind.toNat 1 ++ be p.mine 8 ++ be p.theirs 8 ++ (if ackK p.kind then be p.ack 8 else []) ++ (if dataK p.kind then be p.seq 8 ++ (be p.xs.length 2 ++ p.xs) else [])
def pack (p : Pk) : List Nat := hdr p ++ (digest (hdr p)).take 4
theorem hdr_len {p : Pk} (h : mayV p = true) : (hdr p).length ≤ 5000 := by
  have hx : dataK p.kind = true → p.xs.length ≤ 4000 := fun e => by
    unfold mayV at h
    rw [e] at h
    split at h
    · cases h
    · split at h
      · cases h
      · simp at h; exact h.2.2
  unfold hdr
  simp only [List.length_append, be_len]
  have e1 : (if ackK p.kind = true then be p.ack 8 else []).length ≤ 8 := by split <;> simp [be_len]
  have e2 : (if dataK p.kind = true then be p.seq 8 ++ (be p.xs.length 2 ++ p.xs) else []).length ≤ 4010 := by
    split
    · rename_i e; have := hx e; simp [be_len]; omega
    · simp
  simp
  omega
structure PkOk (p : Pk) : Prop where
  m : p.mine < 2 ^ 64
  t : p.theirs < 2 ^ 64
  a : p.ack < 2 ^ 64
  s : p.seq < 2 ^ 64
theorem sl_d (h : H) (id : Nat) : sliceT Tryd.prog h 77 (.ptr id 0) none (some (.int .i64 4)) none = some (.sl id 0 4 (.exact 32)) := by kernel_rfl
theorem four_of (l : List Nat) (h : 4 ≤ l.length) : ∃ a b c d r, l = a :: b :: c :: d :: r := by
  match l, h with
  | a :: b :: c :: d :: r, _ => exact ⟨a, b, c, d, r, rfl⟩
theorem bsl_beq {h : H} {v : CV} {cs : List CV} (B : BSl h v cs) : beqC v v = true := by
  rcases B with ⟨_, rfl⟩ | ⟨_, _, _, _, _, rfl⟩ | ⟨_, _, _, _, rfl, _⟩
  · exact beqC_nils
  · simp [beqC]
  · exact beqC_sl _ _ _ _
theorem numB8 {n : Nat} (h : n < 2 ^ 64) : numB n 8 = some (be n 8) := by
  unfold numB
  rw [if_pos (by decide), if_pos (Nat.div_eq_of_lt (by show n < 256 ^ 8; omega))]
  rfl
theorem numB1 {n : Nat} (h : n < 256) : numB n 1 = some (be n 1) := by
  unfold numB
  rw [if_pos (by decide), if_pos (Nat.div_eq_of_lt (by show n < 256 ^ 1; omega))]
  rfl
theorem ne_succ' (n : Nat) : n ≠ n + 1 := by omega
theorem u64_eq' (n : Nat) : CV.int .u64 (Int.ofNat n) = u64 n := rfl
theorem cvk {k : Int} (h1 : 0 ≤ k) (h2 : k < 1000) (X : H) : convT Tryd.prog X 22 23 (.int .i64 k) = some (.val (u64 k.toNat)) := by
  have e := cv_22_23 X .i64 k
  obtain ⟨n, rfl⟩ : ∃ n : Nat, k = Int.ofNat n := ⟨k.toNat, by simp; omega⟩
  rw [wrap_u64 (by simp at h2; omega)] at e
  exact e
def PBok (h : H) (p : Pk) (r : Option (CV × Option H)) : Prop :=
  (mayV p = false ∧ r = some (.tup [.nils, .int .i64 2], none)) ∨ (mayV p = true ∧ ∃ v x, r = some (.tup [v, .int .i64 0], x) ∧ Ext h (x.getD h) ∧ BSl (x.getD h) v (bc (pack p)))
theorem bytes_pk (hσ : ∀ f a h, σ f a h = none) {h : H} (g : HG h) (p : Pk) (ok : PkOk p) (B : BSl h p.v (bc p.xs)) : PBok h p ((lim Tryd.prog σ).call 7 [.agg p.cs] h) := by
  have hσ' : ∀ f a h, told f = false → σ f a h = none := fun f a h _ => hσ f a h
  obtain ⟨Q, hQ⟩ : ∃ Q, Q = PBok h p := ⟨_, rfl⟩
  rw [← hQ]
  rw [call_eq (hσ' _ _ _ (by decide)) fn_7 rfl rfl, Tryd.ntmps7, Tryd.results7]
  obtain ⟨pb, hpb⟩ : ∃ pb, pb = newBlk p.cs := ⟨_, rfl⟩
  have pb' : newBlk [.int .i64 p.kind, u64 p.mine, u64 p.theirs, u64 p.ack, u64 p.seq, p.v] = pb := hpb.symm
  obtain ⟨X, hX⟩ : ∃ X, X = h.lo.alloc (.cells pb) := ⟨_, rfl⟩
  have Xnx : X.nx = h.nx + 1 := by rw [hX]; rfl
  have XE : Ext h X := by rw [hX]; exact (Ext.lo h).alloc' _
  have Xlow : X.low = h.nx := by rw [hX]; rfl
  have Xp : X.blk h.nx = some pb := by rw [hX]; simp only [go_sem]
  have ov := B.one.1
  have oc := B.one.2
  have g0 : pb.get 0 = some (.int .i64 p.kind) := by rw [hpb]; simp only [go_sem, Pk.cs]
  have g1 : pb.get 1 = some (u64 p.mine) := by rw [hpb]; simp only [go_sem, Pk.cs]
  have g2 : pb.get 2 = some (u64 p.theirs) := by rw [hpb]; simp only [go_sem, Pk.cs]
  have g3 : pb.get 3 = some (u64 p.ack) := by rw [hpb]; simp only [go_sem, Pk.cs]
  have g4 : pb.get 4 = some (u64 p.seq) := by rw [hpb]; simp only [go_sem, Pk.cs]
  have g5 : pb.get 5 = some p.v := by rw [hpb]; simp only [go_sem, Pk.cs]
  have mr : (lim Tryd.prog σ).call 33 [.agg [.int .i64 p.kind, u64 p.mine, u64 p.theirs, u64 p.ack, u64 p.seq, p.v]] X = some (.bool (mayV p), none) := may_run hσ' p (B.ext XE)
  have nm : ∀ Y, (lim Tryd.prog σ).call 34 [.int .i64 p.kind] Y = some (.tup [.bool (isK p.kind), .bool (ackK p.kind), .bool (dataK p.kind)], none) := fun Y => names_run hσ' Y p.kind
  unfold Pk.cs
  simp only [go_sem, pb', ← hX, Xp, ov, oc, g0, g1, g2, g3, g4, g5, mr]
  cases e0 : mayV p
  · simp only [go_sem, pb', ← hX, Xp, ov, oc, g0, g1, g2, g3, g4, g5, mr, e0]
    rw [hQ]
    exact .inl ⟨e0, congrArg some (fin_q _ _ _ Xlow rfl)⟩
  have hk : 0 ≤ p.kind ∧ p.kind < 256 := by
    have : isK p.kind = true := by
      cases e1 : isK p.kind with
      | true => rfl
      | false => unfold mayV at e0; simp [e1] at e0
    unfold isK at this; simp at this; omega
  have ck := cvk hk.1 (by omega : p.kind < 1000)
  simp only [go_sem, pb', ← hX, Xp, ov, oc, g0, g1, g2, g3, g4, g5, mr, e0, nm]
  refine cnd_go (Q := Q) (by kernel_rfl) ?_
  obtain ⟨mb, hmb⟩ : ∃ mb, mb = ({ n := 2, d := [CV.int .u8 0], t := T.nil : Blk }.st 0 (CV.int .u8 71)).st 1 (CV.int .u8 80) := ⟨_, rfl⟩
  obtain ⟨X1, hX1⟩ : ∃ X1, X1 = X.alloc (.cells (newBlk [CV.nils, CV.bool false])) := ⟨_, rfl⟩
  have X1nx : X1.nx = X.nx + 1 := by rw [hX1]; rfl
  have X1p : X1.blk h.nx = some pb := by rw [hX1]; exact ((Ext.alloc X _).blk (by omega)).trans Xp
  obtain ⟨X2, hX2⟩ : ∃ X2, X2 = X1.alloc (.cells mb) := ⟨_, rfl⟩
  have XE2 : Ext X X2 := by rw [hX2, hX1]; exact ((Ext.refl X).alloc' _).alloc' _
  have X2nx : X2.nx = h.nx + 3 := by rw [hX2, hX1]; simp only [go_sem]; omega
  have X2low : X2.low = h.nx := by rw [hX2, hX1]; exact Xlow
  have X2m : X2.blk (X.nx + 1) = some mb := by rw [hX2, hX1]; simp only [go_sem]
  have X2p : X2.blk h.nx = some pb := (XE2.blk (by omega)).trans Xp
  have hro : mb.ro = false := by rw [hmb]; rfl
  have hcv : ∀ Y, Y.blk (X.nx + 1) = some mb → convT Tryd.prog Y 24 24 (.sl (X.nx + 1) 0 2 (.exact 2)) = some (.val (.sl (X.nx + 1) 0 2 (.exact 2))) := fun Y hY => by
    simp [convT, Tryd.underlying24, Tryd.underlying5, hY, hro]
  have A0 : WrAt X2 X.nx X.nx false [] := by
    refine ⟨by omega, fun q => absurd rfl q, newBlk [CV.nils, CV.bool false], .nils, ?_, rfl, rfl, rfl, rfl, Lst.nil _ _ _⟩
    rw [hX2, hX1]; simp only [go_sem, ne_succ']
  have Bm : BSl X2 (.sl (X.nx + 1) 0 2 (.exact 2)) (bc [71, 80]) := .inr (.inr ⟨_, 0, _, mb, rfl, by omega, X2m, by rw [hmb]; rfl⟩)
  obtain ⟨Y1, l1, q1, A1, F1, L1, w1⟩ := wok_some (bytes_run hσ' A0 Bm (by decide)) rfl
  have y1n := F1.nx
  have Y1m : Y1.blk (X.nx + 1) = some mb := (blk_eq (F1.old (X.nx + 1) (by omega) (by omega) (by omega))).trans X2m
  have Y1p : Y1.blk h.nx = some pb := (blk_eq (F1.old h.nx (by omega) (by omega) (by omega))).trans X2p
  obtain ⟨Y2, l2, q2, A2, F2, L2, w2⟩ := wok_some (number_run hσ' A1 p.kind.toNat (by omega) 1 (by decide)) (by rw [numB1 (by omega)]; rfl)
  have y2n := F2.nx
  have Y2m : Y2.blk (X.nx + 1) = some mb := (blk_eq (F2.old (X.nx + 1) (by omega) (by omega) (by omega))).trans Y1m
  have Y2p : Y2.blk h.nx = some pb := (blk_eq (F2.old h.nx (by omega) (by omega) (by omega))).trans Y1p
  rw [numB1 (by omega)] at A2
  obtain ⟨Y3, l3, q3, A3, F3, L3, w3⟩ := wok_some (number_run hσ' A2 p.mine ok.m 8 (by simp [wput, be_len])) (by rw [numB8 ok.m]; rfl)
  have y3n := F3.nx
  have Y3m : Y3.blk (X.nx + 1) = some mb := (blk_eq (F3.old (X.nx + 1) (by omega) (by omega) (by omega))).trans Y2m
  have Y3p : Y3.blk h.nx = some pb := (blk_eq (F3.old h.nx (by omega) (by omega) (by omega))).trans Y2p
  rw [numB8 ok.m] at A3
  obtain ⟨Y4, l4, q4, A4, F4, L4, w4⟩ := wok_some (number_run hσ' A3 p.theirs ok.t 8 (by simp [wput, be_len])) (by rw [numB8 ok.t]; rfl)
  have y4n := F4.nx
  have Y4m : Y4.blk (X.nx + 1) = some mb := (blk_eq (F4.old (X.nx + 1) (by omega) (by omega) (by omega))).trans Y3m
  have Y4p : Y4.blk h.nx = some pb := (blk_eq (F4.old h.nx (by omega) (by omega) (by omega))).trans Y3p
  rw [numB8 ok.t] at A4
  have hw1 : X.nx < X2.nx := by omega
  have EY1 : Ext h Y1 := F1.ext (XE.trans XE2) (by omega) (by omega)
  have EY2 : Ext h Y2 := F2.ext EY1 (by omega) (by omega)
  have EY3 : Ext h Y3 := F3.ext EY2 (by omega) (by omega)
  have EY4 : Ext h Y4 := F4.ext EY3 (by omega) (by omega)
  have q2' : (lim Tryd.prog σ).call 36 [.ptr X.nx 0, u64 p.kind.toNat, .int .i64 1] Y1 = some (.ptr X.nx 0, some Y2) := q2
  have q3' : (lim Tryd.prog σ).call 36 [.ptr X.nx 0, u64 p.mine, .int .i64 8] Y2 = some (.ptr X.nx 0, some Y3) := q3
  have q4' : (lim Tryd.prog σ).call 36 [.ptr X.nx 0, u64 p.theirs, .int .i64 8] Y3 = some (.ptr X.nx 0, some Y4) := q4
  simp only [go_sem, pb', ← hX, ← hmb, ← hX1, ← hX2, X1nx, X1p, X2m, Y1m, Y2m, Y3m, Y4m, Xp, X2p, Y1p, Y2p, Y3p, Y4p, hcv, q1, q2', q3', q4', ov, oc, g0, g1, g2, g3, g4, g5, mr, e0, nm, ck]
  refine cnd_go (Q := Q) (by kernel_rfl) ?_
  simp only [go_sem, pb', ← hX, ← hmb, ← hX1, ← hX2, X1nx, X1p, X2m, Y1m, Y2m, Y3m, Y4m, Xp, X2p, Y1p, Y2p, Y3p, Y4p, hcv, q1, q2', q3', q4', ov, oc, g0, g1, g2, g3, g4, g5, mr, e0, nm, ck]
  rw [cond_al (i := 1) (d := [])]
  rotate_left
  · kernel_rfl
  simp only [go_sem, pb', ← hX, ← hmb, ← hX1, ← hX2, X1nx, X1p, X2m, Y1m, Y2m, Y3m, Y4m, Xp, X2p, Y1p, Y2p, Y3p, Y4p, hcv, q1, q2', q3', q4', ov, oc, g0, g1, g2, g3, g4, g5, mr, e0, nm, ck]
  cases ea : ackK p.kind
  · have ed : dataK p.kind = false := by unfold dataK; unfold ackK at ea; simp at ea ⊢; exact ea.1
    simp only [go_sem, pb', ← hX, ← hmb, ← hX1, ← hX2, X1nx, X1p, X2m, Y1m, Y2m, Y3m, Y4m, Xp, X2p, Y1p, Y2p, Y3p, Y4p, hcv, q1, q2', q3', q4', ov, oc, g0, g1, g2, g3, g4, g5, mr, e0, nm, ck, ea, ed]
    have hL : ((([] ++ [71, 80]) ++ be p.kind.toNat 1) ++ be p.mine 8) ++ be p.theirs 8 = hdr p := by unfold hdr; simp [ea, ed]
    have A9 : WrAt Y4 X.nx l4 false (hdr p) := by rw [← hL]; exact A4
    have hlen : (hdr p).length ≤ 5000 := hdr_len e0
    have hne : hdr p ≠ [] := by unfold hdr; simp
    obtain ⟨v, x, qe, Ee, Be, Le⟩ := end_run hσ' A9 (by omega)
    obtain ⟨id, hv, hid, Lst1⟩ := Le rfl hne
    obtain ⟨Z, hZ⟩ : ∃ Z, Z = x.getD Y4 := ⟨_, rfl⟩
    rw [← hZ] at Ee Be Lst1
    have B1 : BV Z v (hdr p) := lst_bv Lst1
    have EZ : Ext h Z := EY4.trans Ee
    have qs : (lim Tryd.prog σ).call 39 [v] Z = some (.agg (Go.Cl.Sh.bc (digest (hdr p))), none) := sum_run hσ B1 (g.ext EZ) (by omega)
    have qe' : (lim Tryd.prog σ).call 38 [.ptr X.nx 0] Y4 = some (.tup [v, .int .i64 0], x) := qe
    have hd32 : (Go.Cl.Sh.bc (digest (hdr p))).length = 32 := by rw [Go.Cl.Sh.bc_len]; exact digest_len _
    simp only [go_sem, qe', ← hZ, qs, hd32]
    refine store_step (Q := Q) (L := Go.Cl.Sh.bc (digest (hdr p))) ?_ (Go.Cl.Sh.bc_one _) fun b9 hn9 hr9 hl9 hg9 => ?_
    · rw [hd32]; rfl
    obtain ⟨Z1, hZ1⟩ : ∃ Z1, Z1 = (Z.alloc (.cells (newBlk (List.replicate 32 (CV.int .u8 0))))).put Z.nx (.cells b9) := ⟨_, rfl⟩
    have hZ1' := hZ1
    simp only [List.replicate] at hZ1'
    have EZ1 : Ext Z Z1 := by rw [hZ1]; exact ((Ext.refl Z).alloc' _).put _ (Nat.le_refl _)
    have Z1nx : Z1.nx = Z.nx + 1 := by rw [hZ1]; rfl
    have Z1b : Z1.blk Z.nx = some b9 := by rw [hZ1]; exact put_blk_same _ _ _
    obtain ⟨d0, d1, d2, d3, dr, hd⟩ := four_of (digest (hdr p)) (by rw [digest_len]; omega)
    have hq0 := hg9 0
    have hq1 := hg9 1
    have hq2 := hg9 2
    have hq3 := hg9 3
    rw [hd] at hq0 hq1 hq2 hq3
    simp only [Go.Cl.Sh.bc, List.map_cons, nth] at hq0 hq1 hq2 hq3
    simp only [go_sem, ← hZ, ← hZ1', sl_d, Z1b, hq0, hq1, hq2, hq3]
    refine app_step (Q := Q) (by_ := 1) (m := 4) (Lst1.ext EZ1) (by decide) rfl rfl rfl (by decide) (by omega) (by omega) fun W9 L9 hnx hgn hold hlow hlow2 => ?_
    simp only [go_sem, ← hZ]
    rw [hQ]
    have znx := EZ.nx
    refine .inr ⟨e0, _, _, congrArg some (fin_new _ _ _ ?_), ?_, ?_⟩
    · show (_ && _) = false
      rw [okB_sl, blt_eq', decide_eq_false (by omega)]; rfl
    · exact (⟨by omega, hgn.trans (EZ1.gn.trans EZ.gn), fun i hi => (hold i (by omega) fun _ => by omega).trans ((EZ1.old i (by omega)).trans (EZ.old i hi))⟩ : Ext h W9).up' _
    · have e4 : (digest (hdr p)).take 4 = [d0, d1, d2, d3] := by rw [hd]; rfl
      have L10 : Lst W9 1 (.sl Z1.nx 0 ((hdr p).length + 4) (.opn 1)) Z1.nx ((hdr p).length + 4) (bc (pack p)) := by
        have : bc (pack p) = bc (hdr p) ++ [u8 d0, u8 d1, u8 d2, u8 d3] := by unfold pack; rw [bc_app, e4]; rfl
        rw [this]; exact L9
      exact (lst_bsl L10).ext (Ext.up _ _)
  obtain ⟨Y5, l5, q5, A5, F5, L5, w5⟩ := wok_some (number_run hσ' A4 p.ack ok.a 8 (by simp [wput, be_len])) (by rw [numB8 ok.a]; rfl)
  have y5n := F5.nx
  have Y5p : Y5.blk h.nx = some pb := (blk_eq (F5.old h.nx (by omega) (by omega) (by omega))).trans Y4p
  rw [numB8 ok.a] at A5
  have EY5 : Ext h Y5 := F5.ext EY4 (by omega) (by omega)
  have q5' : (lim Tryd.prog σ).call 36 [.ptr X.nx 0, u64 p.ack, .int .i64 8] Y4 = some (.ptr X.nx 0, some Y5) := q5
  cases ed : dataK p.kind
  · simp only [go_sem, pb', ← hX, ← hmb, ← hX1, ← hX2, X1nx, X1p, X2m, Y1m, Y2m, Y3m, Y4m, Xp, X2p, Y1p, Y2p, Y3p, Y4p, hcv, q1, q2', q3', q4', ov, oc, g0, g1, g2, g3, g4, g5, mr, e0, nm, ck, ea, ed, q5', Y5p]
    have hL : (((([] ++ [71, 80]) ++ be p.kind.toNat 1) ++ be p.mine 8) ++ be p.theirs 8) ++ be p.ack 8 = hdr p := by unfold hdr; simp [ea, ed]
    have A9 : WrAt Y5 X.nx l5 false (hdr p) := by rw [← hL]; exact A5
    have hlen : (hdr p).length ≤ 5000 := hdr_len e0
    have hne : hdr p ≠ [] := by unfold hdr; simp
    obtain ⟨v, x, qe, Ee, Be, Le⟩ := end_run hσ' A9 (by omega)
    obtain ⟨id, hv, hid, Lst1⟩ := Le rfl hne
    obtain ⟨Z, hZ⟩ : ∃ Z, Z = x.getD Y5 := ⟨_, rfl⟩
    rw [← hZ] at Ee Be Lst1
    have B1 : BV Z v (hdr p) := lst_bv Lst1
    have EZ : Ext h Z := EY5.trans Ee
    have qs : (lim Tryd.prog σ).call 39 [v] Z = some (.agg (Go.Cl.Sh.bc (digest (hdr p))), none) := sum_run hσ B1 (g.ext EZ) (by omega)
    have qe' : (lim Tryd.prog σ).call 38 [.ptr X.nx 0] Y5 = some (.tup [v, .int .i64 0], x) := qe
    have hd32 : (Go.Cl.Sh.bc (digest (hdr p))).length = 32 := by rw [Go.Cl.Sh.bc_len]; exact digest_len _
    simp only [go_sem, qe', ← hZ, qs, hd32]
    refine store_step (Q := Q) (L := Go.Cl.Sh.bc (digest (hdr p))) ?_ (Go.Cl.Sh.bc_one _) fun b9 hn9 hr9 hl9 hg9 => ?_
    · rw [hd32]; rfl
    obtain ⟨Z1, hZ1⟩ : ∃ Z1, Z1 = (Z.alloc (.cells (newBlk (List.replicate 32 (CV.int .u8 0))))).put Z.nx (.cells b9) := ⟨_, rfl⟩
    have hZ1' := hZ1
    simp only [List.replicate] at hZ1'
    have EZ1 : Ext Z Z1 := by rw [hZ1]; exact ((Ext.refl Z).alloc' _).put _ (Nat.le_refl _)
    have Z1nx : Z1.nx = Z.nx + 1 := by rw [hZ1]; rfl
    have Z1b : Z1.blk Z.nx = some b9 := by rw [hZ1]; exact put_blk_same _ _ _
    obtain ⟨d0, d1, d2, d3, dr, hd⟩ := four_of (digest (hdr p)) (by rw [digest_len]; omega)
    have hq0 := hg9 0
    have hq1 := hg9 1
    have hq2 := hg9 2
    have hq3 := hg9 3
    rw [hd] at hq0 hq1 hq2 hq3
    simp only [Go.Cl.Sh.bc, List.map_cons, nth] at hq0 hq1 hq2 hq3
    simp only [go_sem, ← hZ, ← hZ1', sl_d, Z1b, hq0, hq1, hq2, hq3]
    refine app_step (Q := Q) (by_ := 1) (m := 4) (Lst1.ext EZ1) (by decide) rfl rfl rfl (by decide) (by omega) (by omega) fun W9 L9 hnx hgn hold hlow hlow2 => ?_
    simp only [go_sem, ← hZ]
    rw [hQ]
    have znx := EZ.nx
    refine .inr ⟨e0, _, _, congrArg some (fin_new _ _ _ ?_), ?_, ?_⟩
    · show (_ && _) = false
      rw [okB_sl, blt_eq', decide_eq_false (by omega)]; rfl
    · exact (⟨by omega, hgn.trans (EZ1.gn.trans EZ.gn), fun i hi => (hold i (by omega) fun _ => by omega).trans ((EZ1.old i (by omega)).trans (EZ.old i hi))⟩ : Ext h W9).up' _
    · have e4 : (digest (hdr p)).take 4 = [d0, d1, d2, d3] := by rw [hd]; rfl
      have L10 : Lst W9 1 (.sl Z1.nx 0 ((hdr p).length + 4) (.opn 1)) Z1.nx ((hdr p).length + 4) (bc (pack p)) := by
        have : bc (pack p) = bc (hdr p) ++ [u8 d0, u8 d1, u8 d2, u8 d3] := by unfold pack; rw [bc_app, e4]; rfl
        rw [this]; exact L9
      exact (lst_bsl L10).ext (Ext.up _ _)
  obtain ⟨Y6, l6, q6, A6, F6, L6, w6⟩ := wok_some (number_run hσ' A5 p.seq ok.s 8 (by simp [wput, be_len])) (by rw [numB8 ok.s]; rfl)
  have y6n := F6.nx
  have Y6p : Y6.blk h.nx = some pb := (blk_eq (F6.old h.nx (by omega) (by omega) (by omega))).trans Y5p
  rw [numB8 ok.s] at A6
  have EY6 : Ext h Y6 := F6.ext EY5 (by omega) (by omega)
  have q6' : (lim Tryd.prog σ).call 36 [.ptr X.nx 0, u64 p.seq, .int .i64 8] Y5 = some (.ptr X.nx 0, some Y6) := q6
  have hx4 : p.xs.length ≤ 4000 := by
    have e := e0
    unfold mayV at e
    rw [ed] at e
    split at e
    · cases e
    · split at e
      · cases e
      · simp at e; exact e.2.2
  have hbv : beqC p.v p.v = true := bsl_beq B
  obtain ⟨Y7, l7, q7, A7, F7, L7, w7⟩ := wok_some (blob_run hσ' A6 B EY6 (by omega) (by omega) (by simp [wput, be_len]; omega) (by omega)) rfl
  have y7n := F7.nx
  have Y7p : Y7.blk h.nx = some pb := (blk_eq (F7.old h.nx (by omega) (by omega) (by omega))).trans Y6p
  have EY7 : Ext h Y7 := F7.ext EY6 (by omega) (by omega)
  simp only [go_sem, pb', ← hX, ← hmb, ← hX1, ← hX2, X1nx, X1p, X2m, Y1m, Y2m, Y3m, Y4m, Xp, X2p, Y1p, Y2p, Y3p, Y4p, hcv, q1, q2', q3', q4', ov, oc, g0, g1, g2, g3, g4, g5, mr, e0, nm, ck, ea, ed, q5', q6', q7, Y5p, Y6p, Y7p, hbv]
  refine cnd_go (Q := Q) (by kernel_rfl) ?_
  simp only [go_sem, pb', ← hX, ← hmb, ← hX1, ← hX2, X1nx, X1p, X2m, Y1m, Y2m, Y3m, Y4m, Xp, X2p, Y1p, Y2p, Y3p, Y4p, hcv, q1, q2', q3', q4', ov, oc, g0, g1, g2, g3, g4, g5, mr, e0, nm, ck, ea, ed, q5', q6', q7, Y5p, Y6p, Y7p, hbv]
  refine cnd_go (Q := Q) (by kernel_rfl) ?_
  simp only [go_sem, pb', ← hX, ← hmb, ← hX1, ← hX2, X1nx, X1p, X2m, Y1m, Y2m, Y3m, Y4m, Xp, X2p, Y1p, Y2p, Y3p, Y4p, hcv, q1, q2', q3', q4', ov, oc, g0, g1, g2, g3, g4, g5, mr, e0, nm, ck, ea, ed, q5', q6', q7, Y5p, Y6p, Y7p, hbv]
  have hL : ((((([] ++ [71, 80]) ++ be p.kind.toNat 1) ++ be p.mine 8) ++ be p.theirs 8) ++ be p.ack 8) ++ be p.seq 8 ++ (be p.xs.length 2 ++ p.xs) = hdr p := by unfold hdr; simp [ea, ed]
  have A9 : WrAt Y7 X.nx l7 false (hdr p) := by rw [← hL]; exact A7
  have hlen : (hdr p).length ≤ 5000 := hdr_len e0
  have hne : hdr p ≠ [] := by unfold hdr; simp
  obtain ⟨v, x, qe, Ee, Be, Le⟩ := end_run hσ' A9 (by omega)
  obtain ⟨id, hv, hid, Lst1⟩ := Le rfl hne
  obtain ⟨Z, hZ⟩ : ∃ Z, Z = x.getD Y7 := ⟨_, rfl⟩
  rw [← hZ] at Ee Be Lst1
  have B1 : BV Z v (hdr p) := lst_bv Lst1
  have EZ : Ext h Z := EY7.trans Ee
  have qs : (lim Tryd.prog σ).call 39 [v] Z = some (.agg (Go.Cl.Sh.bc (digest (hdr p))), none) := sum_run hσ B1 (g.ext EZ) (by omega)
  have qe' : (lim Tryd.prog σ).call 38 [.ptr X.nx 0] Y7 = some (.tup [v, .int .i64 0], x) := qe
  have hd32 : (Go.Cl.Sh.bc (digest (hdr p))).length = 32 := by rw [Go.Cl.Sh.bc_len]; exact digest_len _
  simp only [go_sem, qe', ← hZ, qs, hd32]
  refine store_step (Q := Q) (L := Go.Cl.Sh.bc (digest (hdr p))) ?_ (Go.Cl.Sh.bc_one _) fun b9 hn9 hr9 hl9 hg9 => ?_
  · rw [hd32]; rfl
  obtain ⟨Z1, hZ1⟩ : ∃ Z1, Z1 = (Z.alloc (.cells (newBlk (List.replicate 32 (CV.int .u8 0))))).put Z.nx (.cells b9) := ⟨_, rfl⟩
  have hZ1' := hZ1
  simp only [List.replicate] at hZ1'
  have EZ1 : Ext Z Z1 := by rw [hZ1]; exact ((Ext.refl Z).alloc' _).put _ (Nat.le_refl _)
  have Z1nx : Z1.nx = Z.nx + 1 := by rw [hZ1]; rfl
  have Z1b : Z1.blk Z.nx = some b9 := by rw [hZ1]; exact put_blk_same _ _ _
  obtain ⟨d0, d1, d2, d3, dr, hd⟩ := four_of (digest (hdr p)) (by rw [digest_len]; omega)
  have hq0 := hg9 0
  have hq1 := hg9 1
  have hq2 := hg9 2
  have hq3 := hg9 3
  rw [hd] at hq0 hq1 hq2 hq3
  simp only [Go.Cl.Sh.bc, List.map_cons, nth] at hq0 hq1 hq2 hq3
  simp only [go_sem, ← hZ, ← hZ1', sl_d, Z1b, hq0, hq1, hq2, hq3]
  refine app_step (Q := Q) (by_ := 1) (m := 4) (Lst1.ext EZ1) (by decide) rfl rfl rfl (by decide) (by omega) (by omega) fun W9 L9 hnx hgn hold hlow hlow2 => ?_
  simp only [go_sem, ← hZ]
  rw [hQ]
  have znx := EZ.nx
  refine .inr ⟨e0, _, _, congrArg some (fin_new _ _ _ ?_), ?_, ?_⟩
  · show (_ && _) = false
    rw [okB_sl, blt_eq', decide_eq_false (by omega)]; rfl
  · exact (⟨by omega, hgn.trans (EZ1.gn.trans EZ.gn), fun i hi => (hold i (by omega) fun _ => by omega).trans ((EZ1.old i (by omega)).trans (EZ.old i hi))⟩ : Ext h W9).up' _
  · have e4 : (digest (hdr p)).take 4 = [d0, d1, d2, d3] := by rw [hd]; rfl
    have L10 : Lst W9 1 (.sl Z1.nx 0 ((hdr p).length + 4) (.opn 1)) Z1.nx ((hdr p).length + 4) (bc (pack p)) := by
      have : bc (pack p) = bc (hdr p) ++ [u8 d0, u8 d1, u8 d2, u8 d3] := by unfold pack; rw [bc_app, e4]; rfl
      rw [this]; exact L9
    exact (lst_bsl L10).ext (Ext.up _ _)
end Go.Cl.Sh.W

namespace Go.Cl.Sh.W
variable {σ : Sums}
set_option maxRecDepth 1000000

theorem bsl_at {h : H} {v : CV} {cs : List CV} (B : BSl h v cs) {i : Nat} {c : CV} (hi : nth cs i = some c) :
    ∃ id off b, (∀ kd, indexAddrT Tryd.prog 24 v (.int kd (Int.ofNat i)) = some (.ptr id (off + i))) ∧ h.blk id = some b ∧ b.get (off + i) = some c := by
  have hl : i < cs.length := by rw [nth_eq] at hi; exact (List.getElem?_eq_some_iff.1 hi).1
  rcases B with ⟨rfl, _⟩ | ⟨rfl, _⟩ | ⟨id, off, c', b, rfl, h2, h3, h4⟩
  · simp at hl
  · simp at hl
  · refine ⟨id, off, b, fun kd => by rw [ia_24, blt_eq', decide_eq_true hl, cond_true, Nat.mul_one], h3, ?_⟩
    have := (loadN_spec h4).2 i hl
    rw [this, ← nth_eq]; exact hi
theorem num_run (hσ : ∀ f a h, σ f a h = none) (h : H) (n : Int) (h1 : 0 ≤ n) (h2 : n < 1000) : Ret (.int .i64 n) ((lim Tryd.prog σ).call 8 [.int .i64 n] h) := by
  rw [call_eq (hσ _ _ _) fn_8 rfl rfl, Tryd.ntmps8, Tryd.results8]
  simp only [go_sem]
  exact congrArg some (fin_q _ _ _ rfl rfl)
theorem pack_len (p : Pk) : (pack p).length = 23 + (if ackK p.kind then 8 else 0) + (if dataK p.kind then 10 + p.xs.length else 0) := by
  unfold pack hdr
  have : ((digest (hdr p)).take 4).length = 4 := by rw [List.length_take, digest_len]; rfl
  unfold hdr at this
  simp only [List.length_append, be_len, this]
  cases ackK p.kind <;> cases dataK p.kind <;> simp [be_len] <;> omega
theorem known_run (hσ : ∀ f a h, σ f a h = none) {h : H} (g : HG h) : ∃ x, ((lim Tryd.prog σ).call 9 [] h) = some (.bool true, x) ∧ Ext h (x.getD h) := by
  obtain ⟨Q, hQ⟩ : ∃ Q : Option (CV × Option H) → Prop, Q = fun r => ∃ x, r = some (.bool true, x) ∧ Ext h (x.getD h) := ⟨_, rfl⟩
  have goal : Q ((lim Tryd.prog σ).call 9 [] h) := ?_
  · rw [hQ] at goal; exact goal
  rw [call_eq (hσ _ _ _) fn_9 rfl rfl, Tryd.ntmps9, Tryd.results9]
  have bp := bytes_pk hσ (g.ext (Ext.lo h)) ⟨1, 1, 0, 0, 0, .nils, []⟩ ⟨by decide, by decide, by decide, by decide⟩ (.inl ⟨rfl, rfl⟩)
  rcases bp with ⟨e, _⟩ | ⟨_, v, x, e1, E1, B1⟩
  · exact absurd e (by decide)
  have e1' : (lim Tryd.prog σ).call 7 [.agg [.int .i64 1, .int .u64 1, .int .u64 0, .int .u64 0, .int .u64 0, .nils]] h.lo = some (.tup [v, .int .i64 0], x) := e1
  have nr := fun Y => num_run hσ Y 0 (by decide) (by decide)
  have nr' : ∀ Y, (lim Tryd.prog σ).call 8 [.int .i64 0] Y = some (.int .i64 0, none) := nr
  have bl := B1.len
  rw [bc_len, pack_len] at bl
  have hn : (23 + (if ackK (1 : Int) then 8 else 0) + (if dataK (1 : Int) then 10 + ([] : List Nat).length else 0)) = 23 := by decide
  have bl' : ∀ h', builtinT Tryd.prog h' .len [24] [v] = some (.val (.int .i64 23)) := fun h' => by
    rw [bl h', hn]; rfl
  simp only [go_sem, e1', nr', bl']
  rw [hQ]
  obtain ⟨y, hy, Ey⟩ := fin_ext (s := x.getD h.lo) ((Ext.lo h).trans E1) (.bool true)
  exact ⟨y, congrArg some hy, Ey⟩

end Go.Cl.Sh.W

namespace Go.Cl.Sh.W
variable {σ : Sums}
set_option maxRecDepth 1000000

theorem ze_40 : zeroT Tryd.prog 40 = some (.agg (List.replicate 256 (.int .u8 0))) := by kernel_rfl
theorem rep_one : (List.replicate 256 (CV.int .u8 0)).all CV.one = true := by kernel_rfl
theorem okBL_bc (n : Nat) : ∀ xs : List Nat, okBL n (bc xs) = true
  | [] => rfl
  | x :: xs => by rw [show bc (x :: xs) = .int .u8 (Int.ofNat x) :: bc xs from rfl, okBL_cons, okBL_bc n xs]; rfl
/-- what a reader has left -/
def RL (h : H) (v : CV) (rest : List Nat) : Prop :=
  (v = .nils ∧ rest = []) ∨ (∃ a b c, v = .slend a b c 1 ∧ rest = []) ∨
  ∃ id off b, v = .sl id off rest.length (.opn 1) ∧ rest ≠ [] ∧ id < h.nx ∧ h.blk id = some b ∧ b.n = off + rest.length ∧ b.loadN off rest.length = some (bc rest)
structure RdAt (h : H) (r lid : Nat) (rest : List Nat) : Prop where
  lt : r < h.nx
  blk : ∃ b v, h.blk r = some b ∧ b.ro = false ∧ b.n = 3 ∧ b.get 0 = some v ∧ b.get 1 = some (.bool true) ∧ b.get 2 = some (.bool false) ∧ RL h v rest ∧ ∀ id off l c, v = .sl id off l c → id = lid ∧ id ≠ r
theorem RL.len {h : H} {v : CV} {rest : List Nat} (R : RL h v rest) (h' : H) : builtinT Tryd.prog h' .len [24] [v] = some (.val (.int .i64 (Int.ofNat rest.length))) := by
  rcases R with ⟨rfl, rfl⟩ | ⟨a, b, c, rfl, rfl⟩ | ⟨id, off, b, rfl, _⟩
  · simp [builtinT, Tryd.underlying24, lenC]
  · simp [builtinT, Tryd.underlying24, lenC]
  · exact len_24 _ _ _ _ _ _ _
/-- the same but for one block -/
structure But (h h' : H) (r : Nat) : Prop where
  nx : h'.nx = h.nx
  gn : h'.gn = h.gn
  old : ∀ k, k ≠ r → h'.t.get k = h.t.get k
theorem RL.one {h : H} {v : CV} {rest : List Nat} (R : RL h v rest) : v.one = true ∧ v.cells = [v] := by
  rcases R with ⟨rfl, rfl⟩ | ⟨a, b, c, rfl, rfl⟩ | ⟨id, off, b, rfl, _⟩ <;> exact ⟨rfl, rfl⟩
theorem drop_load {b : Blk} {off : Nat} {xs : List Nat} (h : b.loadN off xs.length = some (bc xs)) {n : Nat} (hn : n ≤ xs.length) :
    b.loadN off n = some (bc (xs.take n)) ∧ b.loadN (off + n) (xs.length - n) = some (bc (xs.drop n)) := by
  obtain ⟨hl, hg⟩ := loadN_spec h
  have hg' : ∀ j, j < xs.length → b.get (off + j) = some (.int .u8 (Int.ofNat (xs[j]?.getD 0))) := fun j hj => by
    rw [hg j hj]
    simp [bc, hj]
  constructor
  · refine loadN_of _ _ _ (by rw [bc_len, List.length_take]; omega) fun i v hv => ?_
    have hi := nlt hv
    rw [bc_len, List.length_take] at hi
    rw [hg' i (by omega), ← hv, nth_eq]
    have : i < n := by omega
    simp [bc, this, show i < xs.length by omega]
  · refine loadN_of _ _ _ (by rw [bc_len, List.length_drop]) fun i v hv => ?_
    have hi := nlt hv
    rw [bc_len, List.length_drop] at hi
    rw [Nat.add_assoc, hg' (n + i) (by omega), ← hv, nth_eq]
    simp [bc, show n + i < xs.length by omega]
/-- cutting it: the taken ones, the others -/
theorem RL.cut {h : H} {v : CV} {rest : List Nat} (R : RL h v rest) {n : Nat} (hn : n ≤ rest.length) :
    ∃ a b, sliceT Tryd.prog h 24 v none (some (.int .i64 (Int.ofNat n))) (some (.int .i64 (Int.ofNat n))) = some a ∧ sliceT Tryd.prog h 24 v (some (.int .i64 (Int.ofNat n))) none none = some b ∧ BSl h a (bc (rest.take n)) ∧ RL h b (rest.drop n) ∧
      (∀ id off l c, b = .sl id off l c ∨ a = .sl id off l c → ∃ off' l' c', v = .sl id off' l' c') := by
  rcases R with ⟨rfl, rfl⟩ | ⟨x1, x2, x3, rfl, rfl⟩ | ⟨id, off, b, rfl, hne, hid, hb, hbn, hld⟩
  · have : n = 0 := by simpa using hn
    subst this
    exact ⟨.nils, .nils, by kernel_rfl, by kernel_rfl, .inl ⟨by simp [bc], rfl⟩, .inl ⟨rfl, by simp⟩, fun _ _ _ _ e => by rcases e with e | e <;> cases e <;> exact ⟨_, _, _, rfl⟩⟩
  · have : n = 0 := by simpa using hn
    subst this
    exact ⟨.sl0 x1 x2 x3 1, .slend x1 x2 x3 1, by kernel_rfl, by kernel_rfl, .inr (.inl ⟨by simp [bc], _, _, _, _, rfl⟩), .inr (.inl ⟨_, _, _, rfl, by simp⟩), fun _ _ _ _ e => by rcases e with e | e <;> cases e <;> exact ⟨_, _, _, rfl⟩⟩
  · obtain ⟨d1, d2⟩ := drop_load hld hn
    have hbe : Nat.beq n 0 = decide (n = 0) := beq_eq' _ _
    have hlen : (rest.take n).length = n := by rw [List.length_take]; omega
    by_cases h0 : n = rest.length
    · refine ⟨.sl id off n (.exact n), .slend id off n 1, ?_, ?_, .inr (.inr ⟨id, off, _, b, by rw [bc_len, hlen], hid, hb, by rw [bc_len, hlen]; exact d1⟩), .inr (.inl ⟨_, _, _, rfl, by rw [h0]; simp⟩), fun _ _ _ _ e => by rcases e with e | e <;> cases e <;> exact ⟨_, _, _, rfl⟩⟩
      · simp [sliceT, Tryd.underlying24, sz_5, capK, hb, bnd, toN, hbn, ble_eq', beq_eq', blt_eq', hn]
      · have : ¬ n = 0 := by rw [h0]; intro q; exact hne (List.length_eq_zero_iff.1 q)
        simp [sliceT, Tryd.underlying24, sz_5, capK, hb, bnd, toN, hbn, ble_eq', beq_eq', blt_eq', hn, h0, hne]
    · have hlt : n < rest.length := by omega
      refine ⟨.sl id off n (.exact n), .sl id (off + n) (rest.length - n) (.opn 1), ?_, ?_, .inr (.inr ⟨id, off, _, b, by rw [bc_len, hlen], hid, hb, by rw [bc_len, hlen]; exact d1⟩),
        .inr (.inr ⟨id, off + n, b, by rw [List.length_drop], fun q => by have := congrArg List.length q; rw [List.length_drop] at this; simp at this; omega, hid, hb, by rw [List.length_drop]; omega, by rw [List.length_drop]; exact d2⟩), fun _ _ _ _ e => by rcases e with e | e <;> cases e <;> exact ⟨_, _, _, rfl⟩⟩
      · simp [sliceT, Tryd.underlying24, sz_5, capK, hb, bnd, toN, hbn, ble_eq', beq_eq', blt_eq', hn]
      · simp [sliceT, Tryd.underlying24, sz_5, capK, hb, bnd, toN, hbn, ble_eq', beq_eq', blt_eq', hn, hlt]
theorem BSl.but {h h' : H} {r : Nat} {v : CV} {cs : List CV} (B : BSl h v cs) (F : But h h' r) (hne : ∀ id off l c, v = .sl id off l c → id ≠ r) : BSl h' v cs := by
  rcases B with h1 | h1 | ⟨id, off, c, b, rfl, h2, h3, h4⟩
  · exact .inl h1
  · exact .inr (.inl h1)
  · exact .inr (.inr ⟨id, off, c, b, rfl, by rw [F.nx]; exact h2, (blk_eq (F.old id (hne _ _ _ _ rfl))).trans h3, h4⟩)
theorem RL.ext {h h' : H} {v : CV} {cs : List Nat} (B : RL h v cs) (F : Ext h h') : RL h' v cs := by
  rcases B with h1 | h1 | ⟨id, off, b, rfl, h2, h3, h4, h5⟩
  · exact .inl h1
  · exact .inr (.inl h1)
  · exact .inr (.inr ⟨id, off, b, rfl, h2, Nat.lt_of_lt_of_le h3 F.nx, (F.blk h3).trans h4, h5⟩)
theorem RL.but {h h' : H} {r : Nat} {v : CV} {cs : List Nat} (B : RL h v cs) (F : But h h' r) (hne : ∀ id off l c, v = .sl id off l c → id ≠ r) : RL h' v cs := by
  rcases B with h1 | h1 | ⟨id, off, b, rfl, h2, h3, h4, h5⟩
  · exact .inl h1
  · exact .inr (.inl h1)
  · exact .inr (.inr ⟨id, off, b, rfl, h2, by rw [F.nx]; exact h3, (blk_eq (F.old id (hne _ _ _ _ rfl))).trans h4, h5⟩)
def TakOk (h : H) (r lid : Nat) (rest : List Nat) (n : Nat) (o : Option (CV × Option H)) : Prop :=
  ∃ v h', o = some (.tup [v, .bool true], some h') ∧ BSl h' v (bc (rest.take n)) ∧ RdAt h' r lid (rest.drop n) ∧ But h h' r ∧ h'.low ≤ r ∧ h'.low ≤ h.low
set_option maxRecDepth 100000 in
theorem take_run (hσ : ∀ f a h, told f = false → σ f a h = none) {h : H} {r lid : Nat} {rest : List Nat} (R : RdAt h r lid rest) {n : Nat} (hn : n ≤ rest.length) :
    TakOk h r lid rest n ((lim Tryd.prog σ).call 70 [.ptr r 0, .int .i64 (Int.ofNat n)] h) := by
  obtain ⟨b, v, hb, hro, hbn, h0, h1, h2, RL, hne⟩ := R.blk
  have hlt := R.lt
  rw [call_eq (hσ _ _ _ (by decide)) fn_70 rfl rfl, Tryd.ntmps70, Tryd.results70]
  have c1 : ¬ Int.ofNat n < 0 := by simp
  have c2 : ¬ Int.ofNat n > Int.ofNat rest.length := by simp; omega
  obtain ⟨x, y, e1, e2, B, R2, hid⟩ := (RL.ext (Ext.lo h)).cut hn
  simp only [go_sem, hb, h0, h1, h2, hro, hbn, RL.len, c1, c2, e1, e2, R2.one]
  have F : But h.lo (h.lo.put r (.cells (b.st 0 y))) r := ⟨rfl, rfl, fun k hk => put_get_ne _ _ _ _ hk⟩
  rw [fin_l _ _ _ (by simp only [go_sem]; omega)]
  have hy : ∀ id off l c, y = .sl id off l c → id = lid ∧ id ≠ r := fun id off l c e => by
    obtain ⟨_, _, _, e'⟩ := hid _ _ _ _ (.inl e)
    exact hne _ _ _ _ e'
  have hx : ∀ id off l c, x = .sl id off l c → id ≠ r := fun id off l c e => by
    obtain ⟨_, _, _, e'⟩ := hid _ _ _ _ (.inr e)
    exact (hne _ _ _ _ e').2
  refine ⟨x, _, rfl, (B.but F hx).ext (Ext.up _ _), ⟨by simp only [go_sem]; exact hlt, _, y, put_blk_same _ _ _, by simp only [go_sem, hro], by simp only [go_sem, hbn], by simp only [go_sem, hbn], by simp only [go_sem, h1], by simp only [go_sem, h2], (R2.but F fun id off l c e => (hy id off l c e).2).ext (Ext.up _ _), hy⟩, ⟨rfl, rfl, fun k hk => put_get_ne _ _ _ _ hk⟩, by simp only [go_sem]; omega, by simp only [go_sem]; omega⟩
theorem BSl.at_ {h : H} {v : CV} {cs : List CV} (B : BSl h v cs) {i : Nat} {x : CV} (hx : nth cs i = some x) :
    ∃ id off b, (∀ kd, indexAddrT Tryd.prog 24 v (.int kd (Int.ofNat i)) = some (.ptr id off)) ∧ h.blk id = some b ∧ b.get off = some x ∧ id < h.nx := by
  have hi := nlt hx
  rcases B with ⟨rfl, _⟩ | ⟨rfl, _⟩ | ⟨id, off, c, b, rfl, h2, h3, h4⟩
  · simp at hi
  · simp at hi
  · refine ⟨id, off + i, b, fun kd => by rw [ia_24, blt_eq', decide_eq_true hi, cond_true, Nat.mul_one], h3, ?_, h2⟩
    rw [(loadN_spec h4).2 i hi, ← hx, nth_eq]
def valB (xs : List Nat) : Nat := xs.foldl (fun a b => a * 256 + b) 0
theorem valB_app (xs : List Nat) (b : Nat) : valB (xs ++ [b]) = valB xs * 256 + b := by simp [valB]
theorem valB_lt : ∀ (k : Nat) (xs : List Nat), xs.length = k → (∀ b ∈ xs, b < 256) → valB xs < 256 ^ k
  | 0, xs, hl, _ => by rw [List.length_eq_zero_iff.1 hl]; decide
  | k + 1, xs, hl, h => by
    have hne : xs ≠ [] := fun q => by rw [q] at hl; simp at hl
    have e := List.dropLast_concat_getLast hne
    have h1 := valB_lt k xs.dropLast (by simp [hl]) fun b hb => h b ((List.dropLast_sublist xs).subset hb)
    have h2 := h _ (List.getLast_mem hne)
    rw [← e, valB_app, Nat.pow_succ]
    omega
theorem bin_or {P : Program} {t xo yo} {a b : Nat} (ha : a < 18446744073709551616) (hb : b < 18446744073709551616) : binT P .or t xo yo (.int .u64 (Int.ofNat a)) (.int .u64 (Int.ofNat b)) = some (.int .u64 (Int.ofNat (a ||| b))) := by
  have : binT P .or t xo yo (.int .u64 (Int.ofNat a)) (.int .u64 (Int.ofNat b)) = some (.int .u64 (IntKind.wrap .u64 (BitVec.ofInt 64 (Int.ofNat a) ||| BitVec.ofInt 64 (Int.ofNat b)).toNat)) := rfl
  rw [this, show ((BitVec.ofInt 64 (Int.ofNat a) ||| BitVec.ofInt 64 (Int.ofNat b)).toNat : Int) = Int.ofNat (a ||| b) from ?_, wrap_u64 (Nat.or_lt_two_pow (n := 64) ha hb)]
  rw [BitVec.toNat_or]
  simp
  rw [Nat.mod_eq_of_lt ha, Nat.mod_eq_of_lt hb]
theorem bin_shl8 {P : Program} (t xo yo k a k') : binT P .shl t xo yo (.int k a) (.int k' 8) = some (.int k (k.wrap (a * 2 ^ (min 8 k.bits)))) := rfl
theorem or_add {a b : Nat} (hb : b < 256) : a * 256 ||| b = a * 256 + b := by
  have := Nat.two_pow_add_eq_or_of_lt (i := 8) (b := b) hb a
  rw [Nat.mul_comm a 256]; exact this.symm
def NumR (h : H) (r lid : Nat) (rest : List Nat) (n : Nat) (o : Option (CV × Option H)) : Prop :=
  ∃ h', o = some (.int .u64 (Int.ofNat (valB (rest.take n))), some h') ∧ RdAt h' r lid (rest.drop n) ∧ But h h' r ∧ h'.low ≤ r ∧ h'.low ≤ h.low
set_option maxRecDepth 100000 in
theorem rnumber_run (hσ : ∀ f a h, told f = false → σ f a h = none) {h : H} {r lid : Nat} {rest : List Nat} (R : RdAt h r lid rest) {n : Nat} (hn : n ≤ rest.length) (hs : sizeOk (Int.ofNat n) = true) (hby : ∀ b ∈ rest, b < 256) :
    NumR h r lid rest n ((lim Tryd.prog σ).call 42 [.ptr r 0, .int .i64 (Int.ofNat n)] h) := by
  have hw := wsize_run hσ h.lo (Int.ofNat n)
  have hw : (lim Tryd.prog σ).call 65 [.int .i64 (Int.ofNat n)] h.lo = some (.bool true, none) := hw.trans (by rw [show decide (Int.ofNat n = 1 ∨ Int.ofNat n = 2 ∨ Int.ofNat n = 4 ∨ Int.ofNat n = 8) = true from hs])
  have hn8 : n ≤ 8 := by
    have : Int.ofNat n = 1 ∨ Int.ofNat n = 2 ∨ Int.ofNat n = 4 ∨ Int.ofNat n = 8 := of_decide_eq_true hs
    simp at this; omega
  have R0 : RdAt h.lo r lid rest := by
    obtain ⟨b, v, hb, hro, hbn, h0, h1, h2, RL, hne⟩ := R.blk
    exact ⟨R.lt, b, v, hb, hro, hbn, h0, h1, h2, RL.ext (Ext.lo h), hne⟩
  obtain ⟨v, h1, e, B, R1, F, hlow, hlow2⟩ := take_run hσ R0 hn
  have hlt := R.lt
  have hlen : (rest.take n).length = n := by rw [List.length_take]; omega
  have hvl : ∀ h', builtinT Tryd.prog h' .len [24] [v] = some (.val (.int .i64 (Int.ofNat n))) := fun h' => by rw [B.len, bc_len, hlen]
  rw [call_eq (hσ _ _ _ (by decide)) fn_42 rfl rfl, Tryd.ntmps42, Tryd.results42]
  simp only [go_sem, hw, e, hvl]
  refine loop_ind (Q := NumR h r lid rest n) (fun i env h' => evT env 7 = .int .u64 (Int.ofNat (valB ((rest.take n).take i))) ∧ evT env 21 = v ∧ evT env 22 = .int .i64 (Int.ofNat n) ∧ evT env 23 = .int .i64 (Int.ofNat i) ∧ h' = h1) n 0 ?_ (Nat.zero_le _) ?_ ?_
  · refine ⟨by simp only [go_sem]; rfl, by simp only [go_sem], by simp only [go_sem], by simp only [go_sem]; rfl, by simp only [go_sem]⟩
  · rintro i env h' ⟨e7, e21, e22, e23, rfl⟩ hi next
    obtain ⟨x, hx⟩ : ∃ x, (rest.take n)[i]? = some x := ⟨_, List.getElem?_eq_getElem (by omega)⟩
    have hx' : nth (bc (rest.take n)) i = some (.int .u8 (Int.ofNat x)) := by rw [nth_eq]; unfold bc; rw [List.getElem?_map, hx]; rfl
    obtain ⟨id, off, b, hix, hb, hg, _⟩ := B.at_ hx'
    have hxm : x ∈ rest := List.mem_of_mem_take (List.mem_of_getElem? hx)
    have hx256 := hby x hxm
    have hlt2 := ofNat_lt hi
    have hw2 : IntKind.wrap .i64 (Int.ofNat i + 1) = Int.ofNat (i + 1) := wrap_succ (by omega)
    have hv0 : valB ((rest.take n).take i) < 256 ^ i := valB_lt i _ (by rw [List.length_take, hlen]; omega) fun b hb => hby b (List.mem_of_mem_take (List.mem_of_mem_take hb))
    have hv1 : 256 ^ i * 256 ≤ 18446744073709551616 := by
      rw [← Nat.pow_succ]
      exact Nat.pow_le_pow_right (by decide) (show i + 1 ≤ 8 by omega)
    have hs1 : IntKind.wrap .u64 (Int.ofNat (valB ((rest.take n).take i)) * 2 ^ min 8 64) = Int.ofNat (valB ((rest.take n).take i) * 256) := by
      have : (Int.ofNat (valB ((rest.take n).take i)) * 2 ^ min 8 64 : Int) = Int.ofNat (valB ((rest.take n).take i) * 256) := by
        show _ * (2 ^ 8 : Int) = _
        simp
      rw [this]
      exact wrap_u64 (by omega)
    have hs2 : IntKind.wrap .u64 (Int.ofNat x) = Int.ofNat x := wrap_u64 (by omega)
    have htk : (rest.take n).take (i + 1) = (rest.take n).take i ++ [x] := by rw [List.take_add_one, hx]; rfl
    have hor := fun t xo yo => bin_or (P := Tryd.prog) (t := t) (xo := xo) (yo := yo) (show valB ((rest.take n).take i) * 256 < 18446744073709551616 by omega) (show x < 18446744073709551616 by omega)
    simp only [go_sem, e7, e21, e22, e23, hlt2, hix, hb, hg, bin_shl8, hs1, hs2, hor, or_add hx256, hw2]
    exact next _ _ ⟨by simp only [go_sem, htk, valB_app], by simp only [go_sem, e21], by simp only [go_sem, e22], by simp only [go_sem], by simp only [go_sem]⟩
  · rintro env h' ⟨e7, e21, e22, e23, rfl⟩
    have hlt2 := ofNat_nlt (Nat.le_refl n)
    rw [show (rest.take n).take n = rest.take n by rw [List.take_take]; simp] at e7
    simp only [go_sem, e7, e21, e22, e23, hlt2]
    rw [fin_l _ _ _ (by omega)]
    exact ⟨_, rfl, ⟨R1.lt, R1.blk⟩, ⟨F.nx, F.gn, F.old⟩, by simp only [go_sem]; omega, by simp only [go_sem]; omega⟩
theorem RdAt.lo {h : H} {r lid : Nat} {rest : List Nat} (R : RdAt h r lid rest) : RdAt h.lo r lid rest := by
  obtain ⟨b, v, hb, hro, hbn, h0, h1, h2, RL, hne⟩ := R.blk
  exact ⟨R.lt, b, v, hb, hro, hbn, h0, h1, h2, RL.ext (Ext.lo h), hne⟩
theorem RdAt.ext {h h' : H} {r lid : Nat} {rest : List Nat} (R : RdAt h r lid rest) (E : Ext h h') : RdAt h' r lid rest := by
  obtain ⟨b, v, hb, hro, hbn, h0, h1, h2, RL, hne⟩ := R.blk
  exact ⟨Nat.lt_of_lt_of_le R.lt E.nx, b, v, (E.blk R.lt).trans hb, hro, hbn, h0, h1, h2, RL.ext E, hne⟩
theorem But.up {h h' : H} {r : Nat} (F : But h h' r) (m : Nat) : But h (h'.up m) r := ⟨F.nx, F.gn, F.old⟩
theorem But.unlo {h h' : H} {r : Nat} (F : But h.lo h' r) : But h h' r := ⟨F.nx, F.gn, F.old⟩
def EndR (o : Option (CV × Option H)) : Prop := o = some (.int .i64 0, none)
theorem rend_run (hσ : ∀ f a h, told f = false → σ f a h = none) {h : H} {r lid : Nat} (R : RdAt h r lid []) : EndR ((lim Tryd.prog σ).call 44 [.ptr r 0] h) := by
  obtain ⟨b, v, hb, hro, hbn, h0, h1, h2, RL, hne⟩ := R.blk
  have hl : ∀ h', builtinT Tryd.prog h' .len [24] [v] = some (.val (.int .i64 0)) := RL.len
  rw [call_eq (hσ _ _ _ (by decide)) fn_44 rfl rfl, Tryd.ntmps44, Tryd.results44]
  simp only [go_sem, hb, h0, h1, h2, hl]
  rw [fin_q _ _ _ rfl rfl]
  rfl
def ReadR (h : H) (xs : List Nat) (o : Option (CV × Option H)) : Prop :=
  ∃ r lid h', o = some (.ptr r 0, some h') ∧ h.nx ≤ r ∧ h.nx ≤ lid ∧ lid < h'.nx ∧ RdAt h' r lid xs ∧ Ext h h'
theorem read_run (hσ : ∀ f a h, told f = false → σ f a h = none) {h : H} {v : CV} {xs : List Nat} (B : BSl h v (bc xs)) (hx : xs.length ≤ 1000000) : ReadR h xs ((lim Tryd.prog σ).call 40 [v] h) := by
  rw [call_eq (hσ _ _ _ (by decide)) fn_40 rfl rfl, Tryd.ntmps40, Tryd.results40]
  simp only [go_sem]
  refine copy_of (Q := ReadR h xs) (B.ext (Ext.lo h)) (bc_one _) (by rw [bc_len]; omega) ?_
  intro s' h2 E B2 hne hnil hl2
  have s1 := B2.one
  have hE := E.nx
  rw [lo_nx] at hE
  simp only [go_sem, s1]
  rw [fin_new _ _ _ (by simp only [go_sem]; exact decide_eq_false (by omega))]
  have E2 : Ext h (h2.alloc (.cells (newBlk [s', .bool true, .bool false]))) := ((Ext.lo h).trans E).alloc' _
  by_cases q : xs = []
  · obtain ⟨q1, q2⟩ := hnil (by rw [q]; rfl)
    subst q1
    exact ⟨h2.nx, h2.nx, _, rfl, hE, hE, by simp only [go_sem], RdAt.ext (h := h2.alloc (.cells (newBlk [.nils, .bool true, .bool false]))) ⟨by simp only [go_sem], _, .nils, alloc_blk_same _ _ _ rfl, rfl, rfl, rfl, rfl, rfl, .inl ⟨rfl, q⟩, fun _ _ _ _ e => by cases e⟩ (Ext.up _ _), E2.up' _⟩
  · obtain ⟨k, q1, q2, q3⟩ := hne (by intro e; apply q; simpa [bc] using e)
    have hq : (bc xs).length ≠ 0 := by rw [bc_len]; intro e; exact q (List.length_eq_zero_iff.1 e)
    have hk := q3.lt hq
    rw [lo_nx] at q2
    rw [bc_len] at q1 q3
    subst q1
    rcases q3.val with ⟨r5, _⟩ | ⟨_, _, _, b, r5, r6, r7, r8⟩
    · rw [bc_len] at hq; exact absurd r5 hq
    · refine ⟨h2.nx, k, _, rfl, hE, q2, by simp only [go_sem]; omega, RdAt.ext (h := h2.alloc (.cells (newBlk [.sl k 0 xs.length (.opn 1), .bool true, .bool false]))) ⟨by simp only [go_sem], _, .sl k 0 xs.length (.opn 1), alloc_blk_same _ _ _ rfl, rfl, rfl, rfl, rfl, rfl, .inr (.inr ⟨k, 0, b, rfl, q, by simp only [go_sem]; omega, ?_, by omega, loadN_of _ _ _ (bc_len _) fun i v hv => by rw [Nat.zero_add, r8, hv]⟩), fun _ _ _ _ e => by cases e; exact ⟨rfl, by omega⟩⟩ (Ext.up _ _), E2.up' _⟩
      rw [alloc_blk_ne _ _ _ (by omega)]; exact r5
end Go.Cl.Sh.W

namespace Go.Cl.Sh.W
variable {σ : Sums}
set_option maxRecDepth 1000000

def BytR (h : H) (r lid : Nat) (rest : List Nat) (n : Nat) (o : Option (CV × Option H)) : Prop :=
  ∃ v h', o = some (v, some h') ∧ BSl h' v (bc (rest.take n)) ∧ RdAt h' r lid (rest.drop n) ∧ h.nx ≤ h'.nx ∧ h'.gn = h.gn ∧ (∀ k, k < h.nx → k ≠ r → h'.t.get k = h.t.get k) ∧ h'.low ≤ r ∧ h'.low ≤ h.low ∧ ∀ id off l c, v = .sl id off l c → h.nx ≤ id
theorem rbytes_run (hσ : ∀ f a h, told f = false → σ f a h = none) {h : H} {r lid : Nat} {rest : List Nat} (R : RdAt h r lid rest) {n : Nat} (hn : n ≤ rest.length) (room : n ≤ 1000000) :
    BytR h r lid rest n ((lim Tryd.prog σ).call 41 [.ptr r 0, .int .i64 (Int.ofNat n)] h) := by
  obtain ⟨v, h1, e, B, R1, F, hlow, hlow2⟩ := take_run hσ R.lo hn
  have hlt := R.lt
  have hlen : (rest.take n).length = n := by rw [List.length_take]; omega
  rw [call_eq (hσ _ _ _ (by decide)) fn_41 rfl rfl, Tryd.ntmps41, Tryd.results41]
  simp only [go_sem, e]
  refine copy_of (Q := BytR h r lid rest n) B (bc_one _) (by rw [bc_len]; omega) ?_
  intro s' h2 E B2 hne hnil hl2
  simp only [go_sem]
  have hE := E.nx
  have hF := F.nx
  rw [lo_nx] at hF
  rw [fin_l _ _ _ (by omega)]
  exact ⟨_, _, rfl, B2.ext (Ext.up _ _), (R1.ext E).ext (Ext.up _ _), by simp only [go_sem]; omega, by simp only [go_sem]; exact E.gn.trans F.gn, fun k k1 k2 => by
    show h2.t.get k = _
    rw [E.old k (by omega), F.old k k2]; rfl, by simp only [go_sem]; omega, by simp only [go_sem]; omega, fun id off l c e => by
    by_cases q : bc (rest.take n) = []
    · obtain ⟨q1, _⟩ := hnil q
      rw [q1] at e; cases e
    · obtain ⟨k, q1, q2, _⟩ := hne q
      rw [q1] at e; cases e
      omega⟩

theorem val_be2 {n : Nat} (h : n < 65536) : valB (be n 2) = n := by
  simp [valB, be, dig, List.range_succ]
  omega

end Go.Cl.Sh.W

namespace Go.Cl.Sh
variable {σ : Sums}
set_option maxRecDepth 1000000

def natV (D : List Nat) : Nat → Nat
  | 0 => 0
  | i + 1 => 256 * natV D i + D[i]?.getD 0
theorem getD_lt {D : List Nat} (h : ∀ b ∈ D, b < 256) (i : Nat) : D[i]?.getD 0 < 256 := by
  cases hd : D[i]? with
  | none => decide
  | some y => exact h y (List.mem_of_getElem? hd)
theorem natV_lt {D : List Nat} (h : ∀ b ∈ D, b < 256) : ∀ i, natV D i < 256 ^ i
  | 0 => Nat.zero_lt_one
  | i + 1 => by
    have h1 := natV_lt h i
    have h2 := getD_lt h i
    simp only [natV, Nat.pow_succ]
    omega
theorem rshV_nat {D : List Nat} (h : ∀ b ∈ D, b < 256) : ∀ i, i ≤ 8 → (rshV D i).toNat = natV D i
  | 0, _ => rfl
  | i + 1, hi => by
    have ih := rshV_nat h i (by omega)
    have h1 := natV_lt h (i + 1)
    have h3 : 256 ^ (i + 1) ≤ 256 ^ 8 := Nat.pow_le_pow_right (by decide) hi
    have h2 := getD_lt h i
    simp only [rshV, BitVec.toNat_add, BitVec.toNat_mul, ih, BitVec.toNat_ofNat]
    simp only [natV] at h1 ⊢
    have h4 : (256 : Nat) ^ 8 = 2 ^ 64 := by decide
    omega
theorem nth_lt {l : List Nat} {i : Nat} (h : i < l.length) : nth (bc l) i = some (u8 (l[i]?.getD 0)) := by
  rw [nth_eq]; unfold bc; rw [List.getElem?_map, List.getElem?_eq_getElem h]; rfl
theorem natV_app (D : List Nat) : ∀ i, i ≤ D.length → natV D i = W.valB (D.take i)
  | 0, _ => rfl
  | i + 1, h => by
    rw [natV, natV_app D i (by omega), List.take_add_one, List.getElem?_eq_getElem (by omega)]
    show _ = W.valB (D.take i ++ [D[i]])
    rw [W.valB_app, Option.getD_some]
    omega
end Go.Cl.Sh
