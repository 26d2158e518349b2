/- The program's functions, run by the rewriting evaluator: what each answers and leaves (ScB). -/
import Derived.Test.YtolenjlggpdigaaGreatDoorScA
set_option linter.all false
open Go Go.Cl Go.Proofs
namespace Go.Cl.Sh
noncomputable section
open Go.Cl.Jo
variable {σ : Sums}
set_option maxRecDepth 1000000

def toldG (f : Nat) : Bool := Nat.beq f 14 || Nat.beq f 51 || Nat.beq f 136 || Nat.beq f 120 || Nat.beq f 122 || Nat.beq f 53 || Nat.beq f 69 || Nat.beq f 88
structure Tg (σ : Sums) : Prop where
  no : ∀ f a h, toldG f = false → σ f a h = none
  len : ∀ h n, n < 18446744073709551616 → σ 136 [.int .u64 (Int.ofNat n)] h = some (.int .i64 (Int.ofNat (Lib.bitLen n)), none)
  small : ∀ h n, n < 100 → σ 120 [.int .i64 (Int.ofNat n)] h = some (.str (dec n), none)
  fmt : ∀ h id off len cap n b vs bs b', h.blk id = some b → b.ro = false → b.loadN off len = some vs → bytesOf vs = some bs → n < 10 ^ len → len < 1000000 → n < 18446744073709551616 → b.storeN off (u8s (digs len n)) = some b' →
    σ 122 [.sl id off len cap, .int .u64 (Int.ofNat n)] h = some (.tup [], some (h.put id (.cells b')))
  join : ∀ h v sep xs, cellsJ h v = some xs → (joinL sep xs).length ≤ 1000000 → xs.length ≤ 1000000 → σ 51 [v, .str sep] h = some (.str (joinL sep xs), none)
theorem told_call {P : Program} {f : FuncId} {a : List CV} {h : H} {r : CV × Option H} (e : σ f a h = some r) : (lim P σ).call f a h = some r := by
  rw [lim_call]; unfold callF; rw [e]

def Tb (h : H) : Prop := 0 < h.nx ∧ 0 < h.gn ∧ ∃ b, h.blk 0 = some b ∧ ∀ i, i < 20 → b.get i = some (.int .u64 (Int.ofNat (10 ^ i)))
theorem Tb.ext {h h' : H} (T : Tb h) (E : Ext h h') : Tb h' := by
  obtain ⟨h0, hg, b, h1, h2⟩ := T
  exact ⟨Nat.lt_of_lt_of_le h0 E.nx, by rw [E.gn]; exact hg, b, (E.blk h0).trans h1, h2⟩
theorem shr18 {P : Program} (t xo yo) (a : Nat) : binT P .shr t xo yo (.int .i64 (Int.ofNat a)) (.int .u64 18) = some (.int .i64 (Int.ofNat (a / 262144))) := by
  show some (CV.int .i64 ((Int.ofNat a).fdiv (2 ^ (min 18 64)))) = _
  rw [show (2 ^ (min 18 64) : Int) = Int.ofNat 262144 from rfl, Int.fdiv_eq_ediv_of_nonneg _ (by decide)]
  rfl
theorem log_run (S : Tg σ) (h : H) (n : Nat) (hn : n ≤ 64) : (lim Tryz.prog σ).call 135 [.int .i64 (Int.ofNat n)] h = some (.int .i64 (Int.ofNat (Lib.l10 n)), none) := by
  rw [call_eq (S.no _ _ _ rfl) fn_135 rfl rfl, Tryz.ntmps135, Tryz.results135]
  have w1 : IntKind.wrap .i64 (Int.ofNat n * 78913) = Int.ofNat (n * 78913) := wrap_i64 (by simp; omega) (by simp; omega)
  simp only [go_sem, w1, shr18]
  rw [fin_q _ _ _ rfl rfl]; rfl
theorem bool2_run (S : Tg σ) (h : H) (b : Bool) : (lim Tryz.prog σ).call 137 [.bool b] h = some (.int .i64 (if b then 1 else 0), none) := by
  rw [call_eq (S.no _ _ _ rfl) fn_137 rfl rfl, Tryz.ntmps137, Tryz.results137]
  cases b
  · simp only [go_sem]
    rw [fin_q _ _ _ rfl rfl]; rfl
  · simp only [go_sem]
    rw [fin_q _ _ _ rfl rfl]; rfl
theorem bitLen_le {n : Nat} : Lib.bitLen n ≤ 64 := by
  have : ∀ f x, Lib.bitLenAux f x ≤ f := fun f => by
    induction f with
    | zero => intro x; exact Nat.le_refl _
    | succ f ih => intro x; have := ih (x / 2); unfold Lib.bitLenAux; split <;> omega
  exact this 64 n
theorem nDigits_le20 {n : Nat} (h2 : n < 18446744073709551616) : Lib.nDigits n ≤ 20 := by
  by_cases q : n = 0
  · subst q; rw [Lib.nDigits_small (by decide)]; decide
  · have := Lib.numDigits_eq n (by omega) h2
    split at this <;> omega
theorem digits_run (S : Tg σ) {h : H} (T : Tb h) (n : Nat) (h1 : 1 ≤ n) (h2 : n < 18446744073709551616) : (lim Tryz.prog σ).call 121 [.int .u64 (Int.ofNat n)] h = some (.int .i64 (Int.ofNat (Lib.nDigits n)), none) := by
  rw [call_eq (S.no _ _ _ rfl) fn_121 rfl rfl, Tryz.ntmps121, Tryz.results121]
  have hl := told_call (P := Tryz.prog) (S.len h.lo n h2)
  obtain ⟨hT, hG, b, hb, hg⟩ := T.ext (Ext.lo h)
  have hG : 0 < h.gn := hG
  obtain ⟨e1, e2⟩ := Lib.numDigits_eq n h1 h2
  have hget := hg _ (by omega : Lib.l10 (Lib.bitLen n) < 20)
  have hlt : Lib.l10 (Lib.bitLen n) < 20 := by omega
  have hge : decide (Int.ofNat n ≥ Int.ofNat (10 ^ Lib.l10 (Lib.bitLen n))) = decide (10 ^ Lib.l10 (Lib.bitLen n) ≤ n) := by
    refine decide_eq_decide.2 ?_
    show Int.ofNat _ ≤ Int.ofNat _ ↔ _
    exact Int.ofNat_le
  simp only [go_sem, hl, log_run S _ _ bitLen_le, hb, ev_global, hG, hlt, Nat.mul_one, hget, hge, bool2_run S]
  by_cases q : 10 ^ Lib.l10 (Lib.bitLen n) ≤ n
  · rw [if_pos q] at e1
    have w1 : IntKind.wrap .i64 (Int.ofNat (Lib.l10 (Lib.bitLen n)) + 1) = Int.ofNat (Lib.nDigits n) := by
      rw [show (Int.ofNat (Lib.l10 (Lib.bitLen n)) + 1 : Int) = Int.ofNat (Lib.nDigits n) by rw [← e1]; rfl]
      exact wrap_i64 (by simp) (by have := nDigits_le20 h2; simp; omega)
    simp only [go_sem, q, if_true, if_false, w1]
    rw [fin_q _ _ _ rfl rfl]
  · rw [if_neg q] at e1
    have w1 : IntKind.wrap .i64 (Int.ofNat (Lib.l10 (Lib.bitLen n)) + 0) = Int.ofNat (Lib.nDigits n) := by
      rw [show (Int.ofNat (Lib.l10 (Lib.bitLen n)) + 0 : Int) = Int.ofNat (Lib.nDigits n) by rw [← e1]; rfl]
      exact wrap_i64 (by simp) (by have := nDigits_le20 h2; simp; omega)
    simp only [go_sem, q, if_true, if_false, w1]
    rw [fin_q _ _ _ rfl rfl]

theorem dec_len (n : Nat) : (dec n).length = Lib.nDigits n := by simp [dec]
theorem digs_dec (n : Nat) : digs (Lib.nDigits n) n = dec n := rfl
theorem nDigits_lo : ∀ (i n : Nat), i < Lib.nDigits n → i ≠ 0 → 10 ^ i ≤ n
  | 0, n, _, h => absurd rfl h
  | i + 1, n, h, _ => by
    by_cases q : n < 10
    · rw [Lib.nDigits_small q] at h; omega
    · rw [Lib.nDigits_big q] at h
      by_cases z : i = 0
      · subst z; omega
      · have := nDigits_lo i (n / 10) (by omega) z
        rw [Nat.pow_succ]; omega
theorem bytesOf_u8s : ∀ l : List Nat, (∀ x ∈ l, x < 256) → bytesOf (u8s l) = some l
  | [], _ => rfl
  | x :: l, h => by
    have hx := h x (by simp)
    show bytesOf (CV.int .u8 (Int.ofNat x) :: u8s l) = _
    unfold bytesOf
    rw [blt_eq', decide_eq_true hx, cond_true, bytesOf_u8s l fun y hy => h y (by simp [hy])]
    rfl
theorem bytesOf_u8s' (l : List Nat) (h : ∀ x ∈ l, x < 256) : bytesOf (l.map fun n => CV.int .u8 (Int.ofNat n)) = some l := bytesOf_u8s l h
def DecT (h : H) (n : Nat) (o : Option (CV × Option H)) : Prop := o = some (.str (dec n), none)
theorem okB_str {l : List Nat} (m : Nat) (h : ∀ x ∈ l, x < 256) : okB m (.str l) = true := by
  show List.all l (fun x => Nat.blt x 256) = true
  exact List.all_eq_true.2 fun x hx => by rw [blt_eq']; exact decide_eq_true (h x hx)
theorem okB_dec (m n : Nat) : okB m (.str (dec n)) = true := okB_str m (dec_lt n)
theorem bnd_ofNat (n d : Nat) : bnd (some (.int .i64 (Int.ofNat n))) d = some n := rfl
theorem sl24 (h : H) (id n : Nat) (hn : n ≤ 24) : sliceT Tryz.prog h 157 (.ptr id 0) none (some (.int .i64 (Int.ofNat n))) none = some (.sl id 0 n (.exact 24)) := by
  have h1 : Nat.ble n 24 = true := by rw [ble_eq']; exact decide_eq_true hn
  unfold sliceT
  rw [Tryz.underlying157]
  show (szOf Tryz.prog 5).bind (fun size => sliceExact 24 size id 0 none (some (.int .i64 (Int.ofNat n))) none 24) = _
  rw [sz_5]
  show sliceExact 24 1 id 0 none (some (.int .i64 (Int.ofNat n))) none 24 = _
  unfold sliceExact
  rw [bnd_ofNat]
  show cond (Nat.ble 24 24 && Nat.ble n 24 && Nat.ble 0 n && (true || true)) _ _ = _
  rw [h1, show Nat.ble 0 n = true from by rw [ble_eq']; exact decide_eq_true (Nat.zero_le _)]
  rfl
theorem sl24' (h : H) (id n : Nat) (hn : n ≤ 23) : sliceT Tryz.prog h 157 (.ptr id 0) (some (.int .i64 1)) (some (.int .i64 (Int.ofNat (1 + n)))) none = some (.sl id 1 n (.exact 23)) := by
  have h1 : Nat.ble (1 + n) 24 = true := by rw [ble_eq']; exact decide_eq_true (by omega)
  unfold sliceT
  rw [Tryz.underlying157]
  show (szOf Tryz.prog 5).bind (fun size => sliceExact 24 size id 0 (some (.int .i64 1)) (some (.int .i64 (Int.ofNat (1 + n)))) none 24) = _
  rw [sz_5]
  show sliceExact 24 1 id 0 (some (.int .i64 1)) (some (.int .i64 (Int.ofNat (1 + n)))) none 24 = _
  unfold sliceExact
  rw [bnd_ofNat]
  show cond (Nat.ble 24 24 && Nat.ble (1 + n) 24 && Nat.ble 1 (1 + n) && (true || true)) _ _ = _
  rw [h1, show Nat.ble 1 (1 + n) = true from by rw [ble_eq']; exact decide_eq_true (by omega)]
  show some (CV.sl id (0 + 1 * 1) (1 + n - 1) (.exact (24 - 1))) = _
  rw [Nat.add_sub_cancel_left]
theorem fu_run (S : Tg σ) {h : H} (T : Tb h) (n : Nat) (h2 : n < 18446744073709551616) : DecT h n ((lim Tryz.prog σ).call 84 [.int .u64 (Int.ofNat n), .int .i64 10] h) := by
  rw [call_eq (S.no _ _ _ rfl) fn_84 rfl rfl, Tryz.ntmps84, Tryz.results84]
  by_cases q : n < 100
  · have c0 : Int.ofNat n < 100 := by simp; omega
    have hs := told_call (P := Tryz.prog) (S.small h.lo n q)
    have w1 : IntKind.wrap .i64 (Int.ofNat n) = Int.ofNat n := wrap_i64 (by simp) (by simp; omega)
    simp only [go_sem, c0, w1, hs]
    rw [fin_q _ _ _ rfl (okB_dec _ _)]
    rfl
  · have c0 : ¬ Int.ofNat n < 100 := by simp; omega
    obtain ⟨X, hX⟩ : ∃ X, X = h.lo.alloc (CObj.cells (newBlk [CV.int IntKind.u8 0, CV.int IntKind.u8 0, CV.int IntKind.u8 0, CV.int IntKind.u8 0, CV.int IntKind.u8 0, CV.int IntKind.u8 0, CV.int IntKind.u8 0, CV.int IntKind.u8 0, CV.int IntKind.u8 0, CV.int IntKind.u8 0, CV.int IntKind.u8 0, CV.int IntKind.u8 0, CV.int IntKind.u8 0, CV.int IntKind.u8 0, CV.int IntKind.u8 0, CV.int IntKind.u8 0, CV.int IntKind.u8 0, CV.int IntKind.u8 0, CV.int IntKind.u8 0, CV.int IntKind.u8 0, CV.int IntKind.u8 0, CV.int IntKind.u8 0, CV.int IntKind.u8 0, CV.int IntKind.u8 0])) := ⟨_, rfl⟩
    have TX : Tb X := by rw [hX]; exact (T.ext (Ext.lo h)).ext (Ext.alloc _ _)
    have hd := digits_run S TX n (by omega) h2
    have h20 := nDigits_le20 h2
    have hlt := Lib.lt_pow_nDigits n
    have hb : X.blk h.nx = some (newBlk [CV.int IntKind.u8 0, CV.int IntKind.u8 0, CV.int IntKind.u8 0, CV.int IntKind.u8 0, CV.int IntKind.u8 0, CV.int IntKind.u8 0, CV.int IntKind.u8 0, CV.int IntKind.u8 0, CV.int IntKind.u8 0, CV.int IntKind.u8 0, CV.int IntKind.u8 0, CV.int IntKind.u8 0, CV.int IntKind.u8 0, CV.int IntKind.u8 0, CV.int IntKind.u8 0, CV.int IntKind.u8 0, CV.int IntKind.u8 0, CV.int IntKind.u8 0, CV.int IntKind.u8 0, CV.int IntKind.u8 0, CV.int IntKind.u8 0, CV.int IntKind.u8 0, CV.int IntKind.u8 0, CV.int IntKind.u8 0]) := by rw [hX]; exact alloc_blk_same _ _ _ rfl
    have hsl : ∀ h', sliceT Tryz.prog h' 157 (.ptr h.nx 0) none (some (.int .i64 (Int.ofNat (Lib.nDigits n)))) none = _ := fun h' => sl24 h' h.nx (Lib.nDigits n) (by omega)
    obtain ⟨b, hbd⟩ : ∃ b, b = newBlk [CV.int IntKind.u8 0, CV.int IntKind.u8 0, CV.int IntKind.u8 0, CV.int IntKind.u8 0, CV.int IntKind.u8 0, CV.int IntKind.u8 0, CV.int IntKind.u8 0, CV.int IntKind.u8 0, CV.int IntKind.u8 0, CV.int IntKind.u8 0, CV.int IntKind.u8 0, CV.int IntKind.u8 0, CV.int IntKind.u8 0, CV.int IntKind.u8 0, CV.int IntKind.u8 0, CV.int IntKind.u8 0, CV.int IntKind.u8 0, CV.int IntKind.u8 0, CV.int IntKind.u8 0, CV.int IntKind.u8 0, CV.int IntKind.u8 0, CV.int IntKind.u8 0, CV.int IntKind.u8 0, CV.int IntKind.u8 0] := ⟨_, rfl⟩
    rw [← hbd] at hb
    have hbn : b.n = 24 := by rw [hbd]; rfl
    have hbr : b.ro = false := by rw [hbd]; rfl
    have hbg : ∀ i, i < 24 → b.get i = some (.int .u8 0) := fun i hi => by
      rw [hbd]
      rw [newBlk_get]
      show nth (List.replicate 24 (CV.int .u8 0)) i = _
      rw [nth_eq, List.getElem?_replicate, if_pos hi]
    have hld : b.loadN 0 (Lib.nDigits n) = some (u8s (List.replicate (Lib.nDigits n) 0)) := loadN_of _ _ _ (by simp [u8s]) fun i v hv => by
      rw [nth_eq] at hv
      have hi : i < Lib.nDigits n := by have := (List.getElem?_eq_some_iff.1 hv).1; simpa [u8s] using this
      rw [Nat.zero_add, hbg i (by omega)]
      simp [u8s, hi] at hv
      rw [← hv]
    obtain ⟨b', hst, hn', hr', hg'⟩ := storeN_ok (u8s (digs (Lib.nDigits n) n)) b 0 (by simp [u8s, digs_len]; omega) (by simp [u8s, CV.one])
    have hf := told_call (P := Tryz.prog) (S.fmt X h.nx 0 (Lib.nDigits n) (.exact 24) n b _ _ b' hb hbr hld (bytesOf_u8s _ (by simp)) hlt (by omega) h2 hst)
    obtain ⟨Y, hY⟩ : ∃ Y, Y = X.put h.nx (.cells b') := ⟨_, rfl⟩
    have hbY : Y.blk h.nx = some b' := by rw [hY]; exact put_blk_same _ _ _
    have hldY : b'.loadN 0 (Lib.nDigits n) = some (u8s (dec n)) := loadN_of _ _ _ (by simp [u8s, dec_len]) fun i v hv => by
      rw [nth_eq] at hv
      have hi : i < Lib.nDigits n := by have := (List.getElem?_eq_some_iff.1 hv).1; simpa [u8s, dec_len] using this
      rw [Nat.zero_add, hg', if_pos ⟨Nat.zero_le _, by simp [u8s, digs_len]; omega⟩, nth_eq]
      exact hv
    rw [← hY] at hf
    rw [← hbd] at hX
    simp only [go_sem, c0, ← hbd, ← hX, hd, hb, hsl, hf, hbY, hldY, bytesOf_u8s _ (dec_lt n)]
    have LY : Y.low = h.nx := by rw [hY, hX]; exact Nat.min_self _
    rw [fin_q _ _ _ LY (okB_dec _ _)]
    rfl
theorem fmtu_run (S : Tg σ) {h : H} (T : Tb h) (n : Nat) (h2 : n < 18446744073709551616) : DecT h n ((lim Tryz.prog σ).call 50 [.int .u64 (Int.ofNat n), .int .i64 10] h) := by
  have e : _ = some (CV.str (dec n), none) := fu_run S (T.ext (Ext.lo h)) n h2
  rw [call_eq (S.no _ _ _ rfl) fn_50 rfl rfl, Tryz.ntmps50, Tryz.results50]
  simp only [go_sem, e]
  rw [fin_q _ _ _ rfl (okB_dec _ _)]
  rfl
theorem fi_run (S : Tg σ) {h : H} (T : Tb h) (n : Nat) (h2 : n < 9223372036854775808) : DecT h n ((lim Tryz.prog σ).call 119 [.int .i64 (Int.ofNat n), .int .i64 10] h) := by
  rw [call_eq (S.no _ _ _ rfl) fn_119 rfl rfl, Tryz.ntmps119, Tryz.results119]
  have cz : (0 : Int) ≤ Int.ofNat n := by simp
  have cl : ¬ Int.ofNat n < 0 := by simp
  by_cases q : n < 100
  · have c0 : Int.ofNat n < 100 := by simp; omega
    have hs := told_call (P := Tryz.prog) (S.small h.lo n q)
    simp only [go_sem, c0, cz, hs]
    rw [fin_q _ _ _ rfl (okB_dec _ _)]
    rfl
  · have c0 : ¬ Int.ofNat n < 100 := by simp; omega
    have w1 : IntKind.wrap .u64 (Int.ofNat n) = Int.ofNat n := wrap_u64 (by omega)
    obtain ⟨b, hbd⟩ : ∃ b, b = newBlk [CV.int IntKind.u8 0, CV.int IntKind.u8 0, CV.int IntKind.u8 0, CV.int IntKind.u8 0, CV.int IntKind.u8 0, CV.int IntKind.u8 0, CV.int IntKind.u8 0, CV.int IntKind.u8 0, CV.int IntKind.u8 0, CV.int IntKind.u8 0, CV.int IntKind.u8 0, CV.int IntKind.u8 0, CV.int IntKind.u8 0, CV.int IntKind.u8 0, CV.int IntKind.u8 0, CV.int IntKind.u8 0, CV.int IntKind.u8 0, CV.int IntKind.u8 0, CV.int IntKind.u8 0, CV.int IntKind.u8 0, CV.int IntKind.u8 0, CV.int IntKind.u8 0, CV.int IntKind.u8 0, CV.int IntKind.u8 0] := ⟨_, rfl⟩
    obtain ⟨X, hX⟩ : ∃ X, X = h.lo.alloc (CObj.cells b) := ⟨_, rfl⟩
    have TX : Tb X := by rw [hX]; exact (T.ext (Ext.lo h)).ext (Ext.alloc _ _)
    have hd := digits_run S TX n (by omega) (by omega)
    have h20 := nDigits_le20 (by omega : n < 18446744073709551616)
    have hlt := Lib.lt_pow_nDigits n
    have hb : X.blk h.nx = some b := by rw [hX]; exact alloc_blk_same _ _ _ rfl
    have w2 : IntKind.wrap .i64 (1 + Int.ofNat (Lib.nDigits n)) = Int.ofNat (1 + Lib.nDigits n) := by
      rw [show (1 + Int.ofNat (Lib.nDigits n) : Int) = Int.ofNat (1 + Lib.nDigits n) by simp]
      exact wrap_i64 (by simp; omega) (by simp; omega)
    have hsl : ∀ h', sliceT Tryz.prog h' 157 (.ptr h.nx 0) (some (.int .i64 1)) (some (.int .i64 (Int.ofNat (1 + Lib.nDigits n)))) none = _ := fun h' => sl24' h' h.nx (Lib.nDigits n) (by omega)
    have hbn : b.n = 24 := by rw [hbd]; rfl
    have hbr : b.ro = false := by rw [hbd]; rfl
    have hbg : ∀ i, i < 24 → b.get i = some (.int .u8 0) := fun i hi => by
      rw [hbd]
      rw [newBlk_get]
      show nth (List.replicate 24 (CV.int .u8 0)) i = _
      rw [nth_eq, List.getElem?_replicate, if_pos hi]
    have hld : b.loadN 1 (Lib.nDigits n) = some (u8s (List.replicate (Lib.nDigits n) 0)) := loadN_of _ _ _ (by simp [u8s]) fun i v hv => by
      rw [nth_eq] at hv
      have hi : i < Lib.nDigits n := by have := (List.getElem?_eq_some_iff.1 hv).1; simpa [u8s] using this
      rw [hbg _ (by omega)]
      simp [u8s, hi] at hv
      rw [← hv]
    obtain ⟨b', hst, hn', hr', hg'⟩ := storeN_ok (u8s (digs (Lib.nDigits n) n)) b 1 (by simp [u8s, digs_len]; omega) (by simp [u8s, CV.one])
    have hf := told_call (P := Tryz.prog) (S.fmt X h.nx 1 (Lib.nDigits n) (.exact 23) n b _ _ b' hb hbr hld (bytesOf_u8s _ (by simp)) hlt (by omega) (by omega) hst)
    obtain ⟨Y, hY⟩ : ∃ Y, Y = X.put h.nx (.cells b') := ⟨_, rfl⟩
    have hbY : Y.blk h.nx = some b' := by rw [hY]; exact put_blk_same _ _ _
    have hldY : b'.loadN 1 (Lib.nDigits n) = some (u8s (dec n)) := loadN_of _ _ _ (by simp [u8s, dec_len]) fun i v hv => by
      rw [nth_eq] at hv
      have hi : i < Lib.nDigits n := by have := (List.getElem?_eq_some_iff.1 hv).1; simpa [u8s, dec_len] using this
      rw [hg', if_pos ⟨by omega, by simp [u8s, digs_len]; omega⟩, nth_eq, Nat.add_sub_cancel_left]
      exact hv
    rw [← hY] at hf
    simp only [go_sem, c0, cz, cl, w1, w2, ← hbd, ← hX, hd, hb, hsl, hf, hbY, hldY, bytesOf_u8s _ (dec_lt n)]
    have LY : Y.low = h.nx := by rw [hY, hX]; exact Nat.min_self _
    rw [fin_q _ _ _ LY (okB_dec _ _)]
    rfl
theorem itoai_run (S : Tg σ) {h : H} (T : Tb h) (n : Nat) (h2 : n < 9223372036854775808) : DecT h n ((lim Tryz.prog σ).call 83 [.int .i64 (Int.ofNat n)] h) := by
  have e : _ = some (CV.str (dec n), none) := fi_run S (T.ext (Ext.lo h)) n h2
  rw [call_eq (S.no _ _ _ rfl) fn_83 rfl rfl, Tryz.ntmps83, Tryz.results83]
  simp only [go_sem, e]
  rw [fin_q _ _ _ rfl (okB_dec _ _)]
  rfl
theorem itoa_run (S : Tg σ) {h : H} (T : Tb h) (n : Nat) (h2 : n < 9223372036854775808) : DecT h n ((lim Tryz.prog σ).call 45 [.int .i64 (Int.ofNat n)] h) := by
  have e : _ = some (CV.str (dec n), none) := itoai_run S (T.ext (Ext.lo h)) n h2
  rw [call_eq (S.no _ _ _ rfl) fn_45 rfl rfl, Tryz.ntmps45, Tryz.results45]
  simp only [go_sem, e]
  rw [fin_q _ _ _ rfl (okB_dec _ _)]
  rfl
end
end Go.Cl.Sh

namespace Go.Cl.Sh
noncomputable section
open Go.Cl.Jo
variable {σ : Sums}
set_option maxRecDepth 1000000

def txt (n : Nat) : Nat → List Nat
  | 0 => []
  | i + 1 => (48 + n / 10 ^ i % 10) :: txt n i
theorem txt_len (n : Nat) : ∀ i, (txt n i).length = i
  | 0 => rfl
  | i + 1 => by simp [txt, txt_len n i]
theorem txt_at (n : Nat) : ∀ N j, j < N → nth (txt n N) j = some (48 + n / 10 ^ (N - 1 - j) % 10)
  | N + 1, 0, _ => rfl
  | N + 1, j + 1, h => by
    rw [txt, nth_s, txt_at n N j (by omega), show N + 1 - 1 - (j + 1) = N - 1 - j by omega]
theorem txt_dec (n : Nat) : txt n (Lib.nDigits n) = dec n := by
  refine List.ext_getElem? fun i => ?_
  by_cases hi : i < Lib.nDigits n
  · have := txt_at n (Lib.nDigits n) i hi
    rw [nth_eq] at this
    rw [this]
    simp [dec, hi]
  · rw [List.getElem?_eq_none (by rw [txt_len]; omega), List.getElem?_eq_none (by rw [dec_len]; omega)]
theorem tmod10 (n : Nat) : (Int.ofNat n).tmod 10 = Int.ofNat (n % 10) := rfl
theorem tdiv10 (n : Nat) : (Int.ofNat n).tdiv 10 = Int.ofNat (n / 10) := rfl
theorem bin_sadd {P : Program} (t xo yo a b) : binT P .add t xo yo (.str a) (.str b) = cond (Nat.ble (a.length + b.length) 70368744177664) (some (.str (a ++ b))) none := rfl
theorem text_run (S : Tg σ) (h : H) (n : Nat) (hn : n < 18446744073709551616) : DecT h n ((lim Tryz.prog σ).call 44 [.int .u64 (Int.ofNat n)] h) := by
  obtain ⟨N, hNe⟩ : ∃ N, N = Lib.nDigits n := ⟨_, rfl⟩
  have h1 : 1 ≤ N := by rw [hNe]; exact Lib.nDigits_pos n
  have h20 : N ≤ 20 := by rw [hNe]; exact nDigits_le20 hn
  have h0 : n / 10 ^ N = 0 := by rw [hNe]; exact Nat.div_eq_of_lt (Lib.lt_pow_nDigits n)
  have hN : ∀ i, 1 ≤ i → i < N → n / 10 ^ i ≠ 0 := fun i a b c => by
    have := nDigits_lo i n (by omega) (by omega)
    have hp : 0 < 10 ^ i := Nat.pow_pos (by decide)
    have := (Nat.div_eq_zero_iff.1 c).resolve_left (by omega)
    omega
  have hD : dec n = txt n N := by rw [hNe, txt_dec]
  obtain ⟨Q, hQ⟩ : ∃ Q, Q = DecT h n := ⟨_, rfl⟩
  rw [← hQ]
  rw [call_eq (S.no _ _ _ rfl) fn_44 rfl rfl, Tryz.ntmps44, Tryz.results44]
  simp only [go_sem]
  refine loop_ind (Q := Q) (fun i env h' => evT env 0 = .int .u64 (Int.ofNat (n / 10 ^ i)) ∧ evT env 3 = .str (txt n i) ∧ h'.low = h.nx) N 0 ?_ (Nat.zero_le _) ?_ ?_
  · exact ⟨by simp only [go_sem]; simp, by simp only [go_sem]; rfl, rfl⟩
  · rintro i env h' ⟨e0, e3, E⟩ hi next
    have hd : n / 10 ^ i % 10 < 10 := Nat.mod_lt _ (by decide)
    have w1 : IntKind.wrap .u64 (48 + Int.ofNat (n / 10 ^ i % 10)) = Int.ofNat (48 + n / 10 ^ i % 10) := by
      rw [show (48 + Int.ofNat (n / 10 ^ i % 10) : Int) = Int.ofNat (48 + n / 10 ^ i % 10) by simp]
      exact wrap_u64 (by omega)
    have w2 : (48 + n / 10 ^ i % 10) % 256 = 48 + n / 10 ^ i % 10 := by omega
    have w3 : IntKind.wrap .u64 (Int.ofNat (n / 10 ^ i / 10)) = Int.ofNat (n / 10 ^ (i + 1)) := by
      rw [Nat.div_div_eq_div_mul, ← Nat.pow_succ]
      exact wrap_u64 (Nat.lt_of_le_of_lt (Nat.div_le_self _ _) hn)
    have w4 : bytesOf [.int .u8 (Int.ofNat (48 + n / 10 ^ i % 10))] = some [48 + n / 10 ^ i % 10] := bytesOf_u8s [48 + n / 10 ^ i % 10] (fun b hb => by rw [List.mem_singleton] at hb; omega)
    have w5 : ((txt n i) == []) = decide (i = 0) := by
      cases i with
      | zero => rfl
      | succ i => rfl
    have hle : 1 + i ≤ 70368744177664 := by omega
    by_cases hz : i = 0
    · have w6 : (txt n i == []) = true := by rw [w5, hz]; rfl
      have hc : decide (Int.ofNat (n / 10 ^ i) > 0) = true ∨ decide (Int.ofNat (n / 10 ^ i) > 0) = false := by cases decide (Int.ofNat (n / 10 ^ i) > 0) <;> simp
      rcases hc with hc | hc
      · simp only [go_sem, e0, e3, hc, tmod10, tdiv10, w1, w2, w3, wrap_u8, w4, bin_sadd, txt_len, hle]
        exact next _ _ ⟨by simp only [go_sem], by simp only [go_sem]; rfl, E⟩
      · simp only [go_sem, e0, e3, hc, w6, tmod10, tdiv10, w1, w2, w3, wrap_u8, w4, bin_sadd, txt_len, hle]
        exact next _ _ ⟨by simp only [go_sem], by simp only [go_sem]; rfl, E⟩
    · have hc : Int.ofNat (n / 10 ^ i) > 0 := by
        have := hN i (by omega) hi
        show Int.ofNat 0 < Int.ofNat (n / 10 ^ i)
        exact Int.ofNat_lt.2 (Nat.pos_of_ne_zero this)
      simp only [go_sem, e0, e3, hc, tmod10, tdiv10, w1, w2, w3, wrap_u8, w4, bin_sadd, txt_len, hle]
      exact next _ _ ⟨by simp only [go_sem], by simp only [go_sem]; rfl, E⟩
  · rintro env h' ⟨e0, e3, E⟩
    have w5 : ((txt n N) == []) = false := by
      cases N with
      | zero => omega
      | succ i => rfl
    rw [h0] at e0
    have z : ¬ (Int.ofNat 0 > 0) := by decide
    simp only [go_sem, e0, e3, w5, z]
    rw [← hD, fin_q _ _ _ E (okB_dec _ _), hQ]
    rfl
theorem rtext_run (S : Tg σ) (h : H) (n : Nat) (hn : n < 9223372036854775808) : DecT h n ((lim Tryz.prog σ).call 42 [.int .i64 (Int.ofNat n)] h) := by
  have e : _ = some (CV.str (dec n), none) := text_run S h.lo n (by omega)
  have w1 : IntKind.wrap .u64 (Int.ofNat n) = Int.ofNat n := wrap_u64 (by omega)
  rw [call_eq (S.no _ _ _ rfl) fn_42 rfl rfl, Tryz.ntmps42, Tryz.results42]
  simp only [go_sem, w1, e]
  rw [fin_q _ _ _ rfl (okB_dec _ _)]
  rfl
end
end Go.Cl.Sh

namespace Go.Cl.Sh
noncomputable section
open Go.Cl.Jo
variable {σ : Sums}
set_option maxRecDepth 1000000

def hx (d : Nat) : Nat := if d < 10 then 48 + d else 87 + d
def hexD (l : List Nat) : List Nat := l.flatMap fun x => [hx (x / 16), hx (x % 16)]
theorem hx_lt (d : Nat) (h : d < 16) : hx d < 256 := by unfold hx; split <;> omega
theorem hex_nth : ∀ d : Fin 16, nth [UInt8.toNat 48, UInt8.toNat 49, UInt8.toNat 50, UInt8.toNat 51, UInt8.toNat 52, UInt8.toNat 53, UInt8.toNat 54, UInt8.toNat 55, UInt8.toNat 56, UInt8.toNat 57, UInt8.toNat 97, UInt8.toNat 98, UInt8.toNat 99, UInt8.toNat 100, UInt8.toNat 101, UInt8.toNat 102] d.val = some (hx d.val) := by decide +kernel
theorem hexD_app (a b : List Nat) : hexD (a ++ b) = hexD a ++ hexD b := by simp [hexD]
theorem hexD_len : ∀ l : List Nat, (hexD l).length = 2 * l.length
  | [] => rfl
  | x :: l => by
    have := hexD_len l
    simp only [hexD, List.flatMap_cons, List.length_append, List.length_cons, List.length_nil] at this ⊢
    omega
theorem hexD_lt {l : List Nat} (h : ∀ x ∈ l, x < 256) : ∀ y ∈ hexD l, y < 256 := fun y hy => by
  unfold hexD at hy
  obtain ⟨x, hx1, hx2⟩ := List.mem_flatMap.1 hy
  have := h x hx1
  simp only [List.mem_cons, List.not_mem_nil, or_false] at hx2
  rcases hx2 with rfl | rfl
  · exact hx_lt _ (by omega)
  · exact hx_lt _ (by omega)
theorem shr4 {P : Program} (t xo yo) (a : Nat) : binT P .shr t xo yo (.int .u8 (Int.ofNat a)) (.int .u64 4) = some (.int .u8 (Int.ofNat (a / 16))) := by
  show some (CV.int .u8 ((Int.ofNat a).fdiv (2 ^ (min 4 8)))) = _
  rw [show (2 ^ (min 4 8) : Int) = Int.ofNat 16 from rfl, Int.fdiv_eq_ediv_of_nonneg _ (by decide)]
  rfl
theorem and15 {P : Program} (t xo yo) (a : Nat) (ha : a < 256) : binT P .and t xo yo (.int .u8 (Int.ofNat a)) (.int .u8 15) = some (.int .u8 (Int.ofNat (a % 16))) := by
  have : binT P .and t xo yo (.int .u8 (Int.ofNat a)) (.int .u8 15) = some (.int .u8 (IntKind.wrap .u8 (BitVec.ofInt 8 (Int.ofNat a) &&& BitVec.ofInt 8 15).toNat)) := rfl
  rw [this]
  have e : (BitVec.ofInt 8 (Int.ofNat a) &&& BitVec.ofInt 8 15).toNat = a % 16 := by
    rw [BitVec.toNat_and]
    have h1 : (BitVec.ofInt 8 (Int.ofNat a)).toNat = a := by simp; omega
    rw [h1, show (BitVec.ofInt 8 15).toNat = 2 ^ 4 - 1 from rfl, Nat.and_two_pow_sub_one_eq_mod]
  rw [e]
  have h2 : a % 16 < 256 := by omega
  rw [show ((a % 16 : Nat) : Int) = Int.ofNat (a % 16) from rfl, wrap_u8, Nat.mod_eq_of_lt h2]
/-- how much is left of a block without noughts at its end -/
def cutN (xs : List Nat) : Nat → Nat
  | 0 => 0
  | n + 1 => if xs.getD n 0 = 0 then cutN xs n else n + 1
theorem cutN_le (xs : List Nat) : ∀ n, cutN xs n ≤ n
  | 0 => Nat.le_refl _
  | n + 1 => by unfold cutN; have := cutN_le xs n; split <;> omega
theorem cutN_zero (xs : List Nat) : ∀ n i, cutN xs n ≤ i → i < n → xs.getD i 0 = 0
  | n + 1, i, h1, h2 => by
    unfold cutN at h1
    split at h1
    · by_cases q : i = n
      · subst q; assumption
      · exact cutN_zero xs n i h1 (by omega)
    · omega
theorem cutN_last (xs : List Nat) : ∀ n, cutN xs n ≠ 0 → xs.getD (cutN xs n - 1) 0 ≠ 0
  | 0, h => absurd rfl h
  | n + 1, h => by
    unfold cutN at h ⊢
    split
    · rename_i q
      rw [if_pos q] at h
      exact cutN_last xs n h
    · assumption
def btext (xs : List Nat) : List Nat := if cutN xs 256 = 0 then [45] else hexD (xs.take (cutN xs 256))

def StrT (h : H) (s : List Nat) (o : Option (CV × Option H)) : Prop := o = some (.str s, none)
theorem fin_s {h h' : H} {s : List Nat} (hl : h'.low = h.nx) (h8 : ∀ x ∈ s, x < 256) : StrT h s (some (fin h h' (.str s))) := by
  rw [fin_q _ _ _ hl (okB_str _ h8)]; rfl
theorem aB_bc (e : TypeId) (xs : List Nat) : allocB e (bc xs) = newBlk (bc xs) := by
  unfold allocB
  have : bldB (bc xs) = false := by
    cases xs with
    | nil => rfl
    | cons x l => cases l <;> rfl
  rw [this]; rfl
theorem mkB (h : H) (c : Nat) (hc : c ≤ 1000) : makeSliceT Tryz.prog h 83 (.int .i64 0) (.int .i64 (Int.ofNat c)) = some (.sl h.nx 0 0 (.exact c), h.alloc (.cells { n := c, d := [.int .u8 0], t := .nil })) := by
  have h1 : Nat.ble 0 c = true := by rw [ble_eq']; exact decide_eq_true (Nat.zero_le _)
  have h2 : Nat.ble (c * 1) 70368744177664 = true := by rw [ble_eq']; exact decide_eq_true (by omega)
  have h3 : Nat.ble c 70368744177664 = true := by rw [ble_eq']; exact decide_eq_true (by omega)
  have : makeSliceT Tryz.prog h 83 (.int .i64 0) (.int .i64 (Int.ofNat c)) = cond (Nat.ble 0 c && Nat.ble (c * 1) 70368744177664 && Nat.ble c 70368744177664 && true && true && true) (some (.sl h.nx 0 0 (.exact c), h.alloc (.cells { n := c * 1, d := [.int .u8 0], t := .nil }))) none := by kernel_rfl
  rw [this, h1, h2, h3, Nat.mul_one]
  rfl
theorem app_in (h : H) {id len m c : Nat} {new : List CV} {b b' : Blk} (hb : h.blk id = some b) (hr : b.ro = false) (hm : 0 < m) (hl : new.length = m) (ho : new.all CV.one = true) (hc : len + m ≤ c) (hc2 : c ≤ 1000000) (hs : b.storeN len new = some b') :
    appSb 5 h 1 1 1 (.sl id 0 len (.exact c)) m (some new) = some (.sl id 0 (len + m) (.exact c), h.put id (.cells b')) := by
  unfold appSb
  rw [show Cl.lenC (.sl id 0 len (.exact c)) = some len from rfl, bind_some', bind_some']
  have hg : (Nat.blt 0 1 && Nat.ble ((len + m) * 1) 70368744177664 && Nat.ble (len + m) 70368744177664 && Nat.beq 1 1 && Nat.beq new.length (m * 1) && new.all CV.one) = true := by
    simp only [blt_eq', ble_eq', beq_eq', Bool.and_eq_true, decide_eq_true_eq]
    exact ⟨⟨⟨⟨⟨by decide, by omega⟩, by omega⟩, trivial⟩, by omega⟩, ho⟩
  rw [hg, cond_true]
  dsimp only
  have h1 : Nat.ble (len + m) c = true := by rw [ble_eq']; exact decide_eq_true hc
  have h2 : Nat.beq m 0 = false := by rw [beq_eq']; exact decide_eq_false (by omega)
  rw [h1, cond_true, h2, cond_false, hb, bind_some', hr, cond_false, Nat.mul_one, Nat.zero_add, hs]
  rfl
theorem digits_txt (S : Tg σ) {h : H} {id n c : Nat} {xs : List Nat} {b : Blk} (hid : id < h.nx) (hb : h.blk id = some b) (hxn : xs.length = n) (hx8 : ∀ x ∈ xs, x < 256) (hl : b.loadN 0 n = some (bc xs)) (hn : n ≤ 256) (h0 : 0 < n) :
    StrT h (hexD xs) ((lim Tryz.prog σ).call 37 [.sl id 0 n (.exact c)] h) := by
  obtain ⟨Q, hQ⟩ : ∃ Q, Q = StrT h (hexD xs) := ⟨_, rfl⟩
  rw [← hQ]
  rw [call_eq (S.no _ _ _ rfl) fn_37 rfl rfl, Tryz.ntmps37, Tryz.results37]
  have w1 : IntKind.wrap .i64 (2 * Int.ofNat n) = Int.ofNat (2 * n) := by
    rw [show (2 * Int.ofNat n : Int) = Int.ofNat (2 * n) by simp]
    exact wrap_i64 (by simp only [Int.ofNat_eq_natCast]; omega) (by simp only [Int.ofNat_eq_natCast]; omega)
  obtain ⟨_, hg⟩ := loadN_spec hl
  simp only [go_sem, w1, mkB _ _ (by omega : 2 * n ≤ 1000)]
  refine loop_ind (Q := Q) (fun i env h' => evT env 3 = .sl h.nx 0 (2 * i) (.exact (2 * n)) ∧ evT env 10 = .sl id 0 n (.exact c) ∧ evT env 11 = .int .i64 (Int.ofNat n) ∧ evT env 12 = .int .i64 (Int.ofNat i) ∧ Ext h h' ∧ h'.low = h.nx ∧ h.nx < h'.nx ∧ ∃ bo, h'.blk h.nx = some bo ∧ bo.ro = false ∧ bo.n = 2 * n ∧ ∀ j, j < 2 * i → bo.get j = nth (bc (hexD (xs.take i))) j) n 0 ?_ (Nat.zero_le _) ?_ ?_
  · refine ⟨by simp only [go_sem, Nat.mul_zero], by simp only [go_sem], by simp only [go_sem], by simp only [go_sem]; rfl, (Ext.lo h).alloc' _, rfl, Nat.lt_succ_self _, _, alloc_blk_same _ _ _ rfl, rfl, rfl, fun j hj => absurd hj (Nat.not_lt_zero _)⟩
  · rintro i env h' ⟨e3, e10, e11, e12, E, hlow, hnx, bo, hbo, hro, hbn, hbg⟩ hi next
    have c0 := ofNat_lt hi
    have w2 := wrap_succ (i := i) (by omega)
    have hb' := (E.blk hid).trans hb
    obtain ⟨x, hxi⟩ : ∃ x, xs[i]? = some x := ⟨_, List.getElem?_eq_getElem (by omega)⟩
    have hx256 := hx8 x (List.mem_of_getElem? hxi)
    have hgi : b.get i = some (.int .u8 (Int.ofNat x)) := by
      have := hg i (by omega)
      rw [Nat.zero_add] at this
      rw [this, bc, List.getElem?_map, hxi]; rfl
    have d1 := hex_nth ⟨x / 16, by omega⟩
    have d2 := hex_nth ⟨x % 16, by omega⟩
    simp only [go_sem, e3, e10, e11, e12, c0, hi, Nat.mul_one, hb', hgi, shr4, d1]
    refine cnd_go (Q := Q) (by kernel_rfl) ?_
    simp only [go_sem, e3, e10, e11, e12, c0, hi, Nat.mul_one, hb', hgi, shr4, and15 _ _ _ _ hx256, d1, d2]
    obtain ⟨Z, hZ⟩ : ∃ Z, Z = h'.alloc (CObj.cells (({ n := 2, d := [CV.int IntKind.u8 0], t := Go.Cl.T.nil : Blk }.st 0 (CV.int IntKind.u8 (Int.ofNat (hx (x / 16))))).st 1 (CV.int IntKind.u8 (Int.ofNat (hx (x % 16)))))) := ⟨_, rfl⟩
    have EZ : Ext h' Z := by rw [hZ]; exact Ext.alloc _ _
    have hbZ : Z.blk h.nx = some bo := (EZ.blk hnx).trans hbo
    have hnew : ([CV.int IntKind.u8 (Int.ofNat (hx (x / 16))), CV.int IntKind.u8 (Int.ofNat (hx (x % 16)))] : List CV) = bc [hx (x / 16), hx (x % 16)] := rfl
    obtain ⟨b2, hs2, hn2, hr2, hg2⟩ := storeN_ok (bc [hx (x / 16), hx (x % 16)]) bo (2 * i) (by rw [bc_len, hbn]; simp; omega) (bc_one _)
    have ap := app_in Z (len := 2 * i) (m := 2) (c := 2 * n) hbZ hro (by decide) (by rw [bc_len]; rfl) (bc_one _) (by omega) (by omega) hs2
    simp only [← hZ, hnew, ap, go_sem]
    refine cnd_go (Q := Q) (by kernel_rfl) ?_
    simp only [go_sem, e3, e10, e11, e12, c0, hi, Nat.mul_one, hb', hgi, shr4, and15 _ _ _ _ hx256, d1, d2, ← hZ, hnew, ap, w2]
    have htk : xs.take (i + 1) = xs.take i ++ [x] := by rw [List.take_succ, hxi]; rfl
    have hhx : hexD (xs.take (i + 1)) = hexD (xs.take i) ++ [hx (x / 16), hx (x % 16)] := by rw [htk, hexD_app]; rfl
    have hlt3 : (hexD (xs.take i)).length = 2 * i := by rw [hexD_len, List.length_take]; omega
    refine next _ _ ⟨by simp only [go_sem]; rfl, by simp only [go_sem, e10], by simp only [go_sem, e11], by simp only [go_sem, w2], (E.trans EZ).put _ (Nat.le_refl _), by show min Z.low h.nx = h.nx; rw [hZ]; show min h'.low h.nx = h.nx; omega, by show h.nx < Z.nx; have := EZ.nx; omega, b2, put_blk_same _ _ _, by rw [hr2, hro], by rw [hn2, hbn], fun j hj => ?_⟩
    rw [hg2, hhx, bc_app, nth_eq, bc_len]
    by_cases q : 2 * i ≤ j
    · rw [if_pos ⟨q, by simp; omega⟩, nth_eq, List.getElem?_append_right (by rw [bc_len, hlt3]; exact q), bc_len, hlt3]
    · have hj2 : j < 2 * i := by omega
      rw [if_neg (by omega), hbg j hj2, nth_eq, nth_eq, List.getElem?_append_left (by rw [bc_len, hlt3]; exact hj2)]
  · rintro env h' ⟨e3, e10, e11, e12, E, hlow, hnx, bo, hbo, hro, hbn, hbg⟩
    have c0 := ofNat_nlt (Nat.le_refl n)
    have hld : bo.loadN 0 (2 * n) = some (bc (hexD xs)) := loadN_of _ _ _ (by rw [bc_len, hexD_len, hxn]) fun j v hv => by
      have hj := nlt hv
      rw [bc_len, hexD_len, hxn] at hj
      rw [Nat.zero_add, hbg j hj, List.take_of_length_le (by omega)]
      exact hv
    simp only [go_sem, e3, e10, e11, e12, c0, hbo, hld, bytesOf_u8s (hexD xs) (hexD_lt hx8)]
    have hby : bytesOf (bc (hexD xs)) = some (hexD xs) := bytesOf_u8s (hexD xs) (hexD_lt hx8)
    simp only [go_sem, hby]
    rw [hQ]
    exact fin_s hlow (hexD_lt hx8)
theorem sl256 (h : H) (id n : Nat) (hn : n ≤ 256) : sliceT Tryz.prog h 25 (.ptr id 0) none (some (.int .i64 (Int.ofNat n))) none = some (.sl id 0 n (.exact 256)) := by
  have h1 : Nat.ble n 256 = true := by rw [ble_eq']; exact decide_eq_true hn
  unfold sliceT
  rw [Tryz.underlying25]
  show (szOf Tryz.prog 5).bind (fun size => sliceExact 256 size id 0 none (some (.int .i64 (Int.ofNat n))) none 256) = _
  rw [sz_5]
  show sliceExact 256 1 id 0 none (some (.int .i64 (Int.ofNat n))) none 256 = _
  unfold sliceExact
  rw [bnd_ofNat]
  show cond (Nat.ble 256 256 && Nat.ble n 256 && Nat.ble 0 n && (true || true)) _ _ = _
  rw [h1, show Nat.ble 0 n = true from by rw [ble_eq']; exact decide_eq_true (Nat.zero_le _)]
  rfl
theorem block_run (S : Tg σ) (h : H) {xs : List Nat} (hl : xs.length = 256) (hx8 : ∀ x ∈ xs, x < 256) : StrT h (btext xs) ((lim Tryz.prog σ).call 9 [.agg (bc xs)] h) := by
  obtain ⟨Q, hQ⟩ : ∃ Q, Q = StrT h (btext xs) := ⟨_, rfl⟩
  rw [← hQ]
  rw [call_eq (S.no _ _ _ rfl) fn_9 rfl rfl, Tryz.ntmps9, Tryz.results9]
  obtain ⟨X, hX⟩ : ∃ X, X = h.lo.alloc (CObj.cells (allocB 25 (CV.agg (bc xs)).cells)) := ⟨_, rfl⟩
  have hb : X.blk h.nx = some (newBlk (bc xs)) := by rw [hX, ← aB_bc 25]; exact alloc_blk_same _ _ _ rfl
  have hle := cutN_le xs 256
  have LX : X.low = h.nx := by rw [hX]; rfl
  have Xnx : X.nx = h.nx + 1 := by rw [hX]; rfl
  have hget : ∀ j, j < 256 → (newBlk (bc xs)).get j = some (.int .u8 (Int.ofNat (xs.getD j 0))) := fun j hj => by
    rw [newBlk_get, nth_eq, bc, List.getElem?_map, List.getElem?_eq_getElem (by omega)]; simp [show j < xs.length by omega, u8]
  simp only [go_sem, bc_one, ← hX]
  refine loop_ind (Q := Q) (fun i env h' => evT env 1 = .ptr h.nx 0 ∧ evT env 3 = .int .i64 (Int.ofNat (256 - i)) ∧ h' = X) (256 - cutN xs 256) 0 ?_ (Nat.zero_le _) ?_ ?_
  · exact ⟨by simp only [go_sem], by simp only [go_sem]; rfl, hX.symm⟩
  · rintro i env h' ⟨e1, e3, rfl⟩ hi next
    have hz := cutN_zero xs 256 (256 - i - 1) (by omega) (by omega)
    have c0 : Int.ofNat (256 - i) > 0 := by simp; omega
    have cz : Int.ofNat 0 = 0 := rfl
    have w1 : IntKind.wrap .i64 (Int.ofNat (256 - i) - 1) = Int.ofNat (256 - (i + 1)) := by
      rw [show (Int.ofNat (256 - i) - 1 : Int) = Int.ofNat (256 - (i + 1)) by simp; omega]
      exact wrap_i64 (by simp only [Int.ofNat_eq_natCast]; omega) (by simp only [Int.ofNat_eq_natCast]; omega)
    have hg := hget (256 - (i + 1)) (by omega)
    rw [show 256 - (i + 1) = 256 - i - 1 by omega, hz, show 256 - i - 1 = 256 - (i + 1) by omega] at hg
    have hlt : 256 - (i + 1) < 256 := by omega
    simp only [go_sem, e1, e3, c0, cz, w1, hb, hg, hlt, Nat.mul_one]
    exact next _ _ ⟨by simp only [go_sem, e1], by simp only [go_sem], rfl⟩
  · rintro env h' ⟨e1, e3, rfl⟩
    rw [show 256 - (256 - cutN xs 256) = cutN xs 256 by omega] at e3
    by_cases q : cutN xs 256 = 0
    · rw [q] at e3
      have cz : ¬ Int.ofNat 0 > 0 := by decide
      have cz2 : Int.ofNat 0 = 0 := rfl
      simp only [go_sem, e1, e3, cz, cz2]
      rw [hQ]
      unfold btext
      rw [if_pos q]
      exact fin_s LX (by decide)
    · have c0 : Int.ofNat (cutN xs 256) > 0 := by simp; omega
      have cn : ¬ Int.ofNat (cutN xs 256) = 0 := by simp; omega
      have hlast := cutN_last xs 256 q
      have cl : ¬ Int.ofNat (xs.getD (cutN xs 256 - 1) 0) = 0 := by simpa using hlast
      have w1 : IntKind.wrap .i64 (Int.ofNat (cutN xs 256) - 1) = Int.ofNat (cutN xs 256 - 1) := by
        rw [show (Int.ofNat (cutN xs 256) - 1 : Int) = Int.ofNat (cutN xs 256 - 1) by simp; omega]
        exact wrap_i64 (by simp only [Int.ofNat_eq_natCast]; omega) (by simp only [Int.ofNat_eq_natCast]; omega)
      have hg := hget (cutN xs 256 - 1) (by omega)
      have hlt : cutN xs 256 - 1 < 256 := by omega
      simp only [go_sem, e1, e3, c0, w1, hb, hg, hlt, Nat.mul_one, cl, cn, sl256 _ _ _ hle]
      have hlt2 : (xs.take (cutN xs 256)).length = cutN xs 256 := by rw [List.length_take]; omega
      have e : _ = some (CV.str (hexD (xs.take (cutN xs 256))), none) := digits_txt S (h := h') (id := h.nx) (c := 256) (by omega) hb hlt2 (fun y hy => hx8 y (List.mem_of_mem_take hy)) (loadN_of _ _ _ (by rw [bc_len, hlt2]) fun i v hv => by
        have hi := nlt hv
        rw [bc_len, hlt2] at hi
        rw [Nat.zero_add, newBlk_get, ← hv, nth_eq, nth_eq]
        simp [bc, hi]) hle (by omega)
      simp only [go_sem, e]
      rw [hQ]
      unfold btext
      rw [if_neg q]
      exact fin_s LX (hexD_lt fun y hy => hx8 y (List.mem_of_mem_take hy))
end
end Go.Cl.Sh

namespace Go.Cl.Sh
open Go.Cl.Jo
variable {σ : Sums}
set_option maxRecDepth 1000000

/-- a row of single cells that grows -/
structure GL (h h' : H) (v : CV) (cs : List CV) (lid : Nat) : Prop where
  ge : h.nx ≤ lid
  lst : Lst h' 1 v lid cs.length cs
  ext : Ext h h'
  low : h'.low = h.low
  bl : h.low ≤ h.nx
theorem GL.alloc {h h' : H} {v : CV} {cs : List CV} {lid : Nat} (g : GL h h' v cs lid) (o : CObj) : GL h (h'.alloc o) v cs lid := ⟨g.ge, g.lst.ext (Ext.alloc _ _), g.ext.alloc' _, g.low, g.bl⟩
theorem glB_step {β : Type} {Q : Option β → Prop} {h X : H} {v : CV} {cs new : List CV} {lid m : Nat} {K : Out → Option β} (g : GL h X v cs lid) (hm : 0 < m) (hl : new.length = m) (ho : new.all CV.one = true) (hr : cs.length + m ≤ 1000000)
    (k : ∀ h' v', GL h h' v' (cs ++ new) X.nx → v' = .sl X.nx 0 (cs ++ new).length (.opn 1) → X.nx < h'.nx → Q (K (.upd v' h'))) :
    Q (@thn _ β (uv (appSb 5 X 1 1 1 v m (some new))) ⟨K⟩) := by
  refine app_stepB (Q := Q) (by_ := 1) g.lst hm (by omega) ho rfl (by decide) (by omega) (by omega) fun h' L hnx hgn hold hlow hlow2 => ?_
  have hll : (cs ++ new).length = cs.length + m := by rw [List.length_append, hl]
  have := k h' (.sl X.nx 0 (cs.length + m) (.opn 1)) ⟨g.ext.nx, by rw [hll]; exact L, ⟨by have := g.ext.nx; omega, hgn.trans g.ext.gn, fun i hi => (hold i (Nat.lt_of_lt_of_le hi g.ext.nx) fun _ => by have := g.ge; omega).trans (g.ext.old i hi)⟩, by have := g.low; have := g.ge; have := g.bl; omega, g.bl⟩ (by rw [hll]) (by omega)
  exact this
theorem Lst.beq {h : H} {v : CV} {id n sz : Nat} {cs : List CV} (l : Lst h sz v id n cs) : beqC v v = true := by
  rcases l.val with ⟨_, rfl⟩ | ⟨_, rfl, _⟩
  · rfl
  · exact beqC_sl _ _ _ _
theorem GL.load {h h' : H} {v : CV} {cs : List CV} {lid : Nat} (g : GL h h' v cs lid) (hne : cs.length ≠ 0) : ∃ b, v = .sl lid 0 cs.length (.opn 1) ∧ lid < h'.nx ∧ h'.blk lid = some b ∧ b.ro = false ∧ b.n = cs.length ∧ b.loadN 0 cs.length = some cs := by
  rcases g.lst.val with ⟨h0, _⟩ | ⟨_, h1, h2, b, h3, h4, h5, h6⟩
  · exact absurd h0 hne
  · exact ⟨b, h1, h2, h3, h4, by omega, loadN_of _ _ _ rfl fun i v hv => by rw [Nat.zero_add, h6]; exact hv⟩
theorem rdigits_txt (S : Tg σ) {h : H} {id n c : Nat} {xs : List Nat} {b : Blk} (hid : id < h.nx) (hb : h.blk id = some b) (hxn : xs.length = n) (hx8 : ∀ x ∈ xs, x < 256) (hl : b.loadN 0 n = some (bc xs)) (hn : n ≤ 256) (h0 : 0 < n) :
    StrT h (hexD xs) ((lim Tryz.prog σ).call 38 [.sl id 0 n (.exact c)] h) := by
  obtain ⟨Q, hQ⟩ : ∃ Q, Q = StrT h (hexD xs) := ⟨_, rfl⟩
  rw [← hQ]
  rw [call_eq (S.no _ _ _ rfl) fn_38 rfl rfl, Tryz.ntmps38, Tryz.results38]
  obtain ⟨_, hg⟩ := loadN_spec hl
  simp only [go_sem]
  refine loop_ind (Q := Q) (fun i env h' => evT env 0 = .sl id 0 n (.exact c) ∧ evT env 3 = .str [48, 49, 50, 51, 52, 53, 54, 55, 56, 57, 97, 98, 99, 100, 101, 102] ∧ evT env 5 = .int .i64 (Int.ofNat i) ∧ ∃ lid, GL h.lo h' (evT env 4) (bc (hexD (xs.take i))) lid) n 0 ?_ (Nat.zero_le _) ?_ ?_
  · exact ⟨by simp only [go_sem], by simp only [go_sem]; rfl, by simp only [go_sem]; rfl, h.nx, by simp only [go_sem]; exact ⟨Nat.le_refl _, Lst.nil _ _ _, Ext.refl _, rfl, Nat.le_refl _⟩⟩
  · rintro i env h' ⟨e0, e3, e5, lid, G⟩ hi next
    have c0 := ofNat_lt hi
    have w2 := wrap_succ (i := i) (by omega)
    have hb' := (((Ext.lo h).trans G.ext).blk hid).trans hb
    obtain ⟨x, hxi⟩ : ∃ x, xs[i]? = some x := ⟨_, List.getElem?_eq_getElem (by omega)⟩
    have hx256 := hx8 x (List.mem_of_getElem? hxi)
    have hgi : b.get i = some (.int .u8 (Int.ofNat x)) := by
      have := hg i (by omega)
      rw [Nat.zero_add] at this
      rw [this, bc, List.getElem?_map, hxi]; rfl
    have d1 := hex_nth ⟨x / 16, by omega⟩
    have d2 := hex_nth ⟨x % 16, by omega⟩
    have d1 : nth [48, 49, 50, 51, 52, 53, 54, 55, 56, 57, 97, 98, 99, 100, 101, 102] (x / 16) = _ := d1
    have d2 : nth [48, 49, 50, 51, 52, 53, 54, 55, 56, 57, 97, 98, 99, 100, 101, 102] (x % 16) = _ := d2
    have w3 : IntKind.wrap .u8 ((Int.ofNat x).tdiv 16) = Int.ofNat (x / 16) := by
      rw [show (Int.ofNat x).tdiv 16 = Int.ofNat (x / 16) from rfl, wrap_u8, Nat.mod_eq_of_lt (by omega)]
    have w4 : (Int.ofNat x).tmod 16 = Int.ofNat (x % 16) := rfl
    have htk : xs.take (i + 1) = xs.take i ++ [x] := by rw [List.take_succ, hxi]; rfl
    have hhx : hexD (xs.take (i + 1)) = hexD (xs.take i) ++ [hx (x / 16), hx (x % 16)] := by rw [htk, hexD_app]; rfl
    have hlt3 : (bc (hexD (xs.take i))).length = 2 * i := by rw [bc_len, hexD_len, List.length_take]; omega
    simp only [go_sem, e0, e3, e5, c0, hi, Nat.mul_one, hb', hgi, d1, d2, w3, w4]
    refine cnd_go (Q := Q) (by kernel_rfl) ?_
    simp only [go_sem, e0, e3, e5, c0, hi, Nat.mul_one, hb', hgi, d1, d2, w3, w4]
    refine glB_step (Q := Q) (new := bc [hx (x / 16), hx (x % 16)]) (G.alloc _) (by decide) rfl rfl (by omega) fun h2 v2 G2 hv2 hlt => ?_
    simp only [go_sem, e0, e3, e5, w2]
    have q1 := Lst.beq G.lst
    have q2 := Lst.beq G2.lst
    have hbA : ∀ o, (h'.alloc o).blk id = some b := fun o => ((Ext.alloc h' o).blk (Nat.lt_of_lt_of_le hid ((Ext.lo h).trans G.ext).nx)).trans hb'
    have hbB : h2.blk id = some b := (((Ext.lo h).trans G2.ext).blk hid).trans hb
    refine cnd_go (Q := Q) (by kernel_rfl) ?_
    simp only [go_sem, e0, e3, e5, w2, q1, q2, hbA, hbB, hi, Nat.mul_one, hb', hgi, d1, d2, w3, w4]
    refine next _ _ ⟨by simp only [go_sem, e0], by simp only [go_sem, e3], by simp only [go_sem, w2], h'.nx + 1, ?_⟩
    simp only [go_sem]
    rw [hhx, bc_app]
    exact G2
  · rintro env h' ⟨e0, e3, e5, lid, G⟩
    have c0 := ofNat_nlt (Nat.le_refl n)
    rw [List.take_of_length_le (by omega)] at G
    obtain ⟨b, hv, _, hbl, _, _, hld⟩ := G.load (by rw [bc_len, hexD_len]; omega)
    have hby : bytesOf (bc (hexD xs)) = some (hexD xs) := bytesOf_u8s (hexD xs) (hexD_lt hx8)
    simp only [go_sem, e0, e3, e5, c0, hv, hbl, hld, hby]
    rw [hQ]
    exact fin_s G.low (hexD_lt hx8)
theorem rblock_run (S : Tg σ) (h : H) {xs : List Nat} (hl : xs.length = 256) (hx8 : ∀ x ∈ xs, x < 256) : StrT h (btext xs) ((lim Tryz.prog σ).call 10 [.agg (bc xs)] h) := by
  obtain ⟨Q, hQ⟩ : ∃ Q, Q = StrT h (btext xs) := ⟨_, rfl⟩
  rw [← hQ]
  rw [call_eq (S.no _ _ _ rfl) fn_10 rfl rfl, Tryz.ntmps10, Tryz.results10]
  obtain ⟨X, hX⟩ : ∃ X, X = h.lo.alloc (CObj.cells (allocB 25 (CV.agg (bc xs)).cells)) := ⟨_, rfl⟩
  have hb : X.blk h.nx = some (newBlk (bc xs)) := by rw [hX, ← aB_bc 25]; exact alloc_blk_same _ _ _ rfl
  have hle := cutN_le xs 256
  have LX : X.low = h.nx := by rw [hX]; rfl
  have Xnx : X.nx = h.nx + 1 := by rw [hX]; rfl
  have hget : ∀ j, j < 256 → (newBlk (bc xs)).get j = some (.int .u8 (Int.ofNat (xs.getD j 0))) := fun j hj => by
    rw [newBlk_get, nth_eq, bc, List.getElem?_map, List.getElem?_eq_getElem (by omega)]; simp [show j < xs.length by omega, u8]
  simp only [go_sem, bc_one, ← hX]
  refine loop_ind (Q := Q) (fun i env h' => evT env 1 = .ptr h.nx 0 ∧ evT env 3 = .int .i64 (Int.ofNat (256 - i)) ∧ h' = X) (256 - cutN xs 256) 0 ?_ (Nat.zero_le _) ?_ ?_
  · exact ⟨by simp only [go_sem], by simp only [go_sem]; rfl, hX.symm⟩
  · rintro i env h' ⟨e1, e3, rfl⟩ hi next
    have hz := cutN_zero xs 256 (256 - i - 1) (by omega) (by omega)
    have c0 : Int.ofNat (256 - i) > 0 := by simp; omega
    have cz : Int.ofNat 0 = 0 := rfl
    have w1 : IntKind.wrap .i64 (Int.ofNat (256 - i) - 1) = Int.ofNat (256 - (i + 1)) := by
      rw [show (Int.ofNat (256 - i) - 1 : Int) = Int.ofNat (256 - (i + 1)) by simp; omega]
      exact wrap_i64 (by simp only [Int.ofNat_eq_natCast]; omega) (by simp only [Int.ofNat_eq_natCast]; omega)
    have hg := hget (256 - (i + 1)) (by omega)
    rw [show 256 - (i + 1) = 256 - i - 1 by omega, hz, show 256 - i - 1 = 256 - (i + 1) by omega] at hg
    have hlt : 256 - (i + 1) < 256 := by omega
    simp only [go_sem, e1, e3, c0, cz, w1, hb, hg, hlt, Nat.mul_one]
    exact next _ _ ⟨by simp only [go_sem, e1], by simp only [go_sem], rfl⟩
  · rintro env h' ⟨e1, e3, rfl⟩
    rw [show 256 - (256 - cutN xs 256) = cutN xs 256 by omega] at e3
    by_cases q : cutN xs 256 = 0
    · rw [q] at e3
      have cz : ¬ Int.ofNat 0 > 0 := by decide
      have cz2 : Int.ofNat 0 = 0 := rfl
      simp only [go_sem, e1, e3, cz, cz2]
      rw [hQ]
      unfold btext
      rw [if_pos q]
      exact fin_s LX (by decide)
    · have c0 : Int.ofNat (cutN xs 256) > 0 := by simp; omega
      have cn : ¬ Int.ofNat (cutN xs 256) = 0 := by simp; omega
      have hlast := cutN_last xs 256 q
      have cl : ¬ Int.ofNat (xs.getD (cutN xs 256 - 1) 0) = 0 := by simpa using hlast
      have w1 : IntKind.wrap .i64 (Int.ofNat (cutN xs 256) - 1) = Int.ofNat (cutN xs 256 - 1) := by
        rw [show (Int.ofNat (cutN xs 256) - 1 : Int) = Int.ofNat (cutN xs 256 - 1) by simp; omega]
        exact wrap_i64 (by simp only [Int.ofNat_eq_natCast]; omega) (by simp only [Int.ofNat_eq_natCast]; omega)
      have hg := hget (cutN xs 256 - 1) (by omega)
      have hlt : cutN xs 256 - 1 < 256 := by omega
      simp only [go_sem, e1, e3, c0, w1, hb, hg, hlt, Nat.mul_one, cl, cn, sl256 _ _ _ hle]
      have hlt2 : (xs.take (cutN xs 256)).length = cutN xs 256 := by rw [List.length_take]; omega
      have e : _ = some (CV.str (hexD (xs.take (cutN xs 256))), none) := rdigits_txt S (h := h') (id := h.nx) (c := 256) (by omega) hb hlt2 (fun y hy => hx8 y (List.mem_of_mem_take hy)) (loadN_of _ _ _ (by rw [bc_len, hlt2]) fun i v hv => by
        have hi := nlt hv
        rw [bc_len, hlt2] at hi
        rw [Nat.zero_add, newBlk_get, ← hv, nth_eq, nth_eq]
        simp [bc, hi]) hle (by omega)
      simp only [go_sem, e]
      rw [hQ]
      unfold btext
      rw [if_neg q]
      exact fin_s LX (hexD_lt fun y hy => hx8 y (List.mem_of_mem_take hy))
end Go.Cl.Sh

namespace Go.Cl.Sh
noncomputable section
open Go.Cl.Jo
variable {σ : Sums}
set_option maxRecDepth 1000000

structure Cm where
  num : Int
  who : Int
  kind : Int
  block : Int
  data : List Nat
  ak : Int
  aw : Int
  key : Int
  new : Int
  ty : Int
def actL (c : Cm) : List CV := [.int .i64 c.ak, .int .i64 c.aw, .int .u64 c.key, .int .u64 c.new, .int .i64 c.ty]
structure CmdOk (cs : List CV) (c : Cm) : Prop where
  len : cs.length = 265
  one : cs.all CV.one = true
  n0 : nth cs 0 = some (.int .u64 c.num)
  n1 : nth cs 1 = some (.int .i64 c.who)
  n2 : nth cs 2 = some (.int .i64 c.kind)
  n3 : nth cs 3 = some (.int .i64 c.block)
  dl : c.data.length = 256
  d8 : ∀ x ∈ c.data, x < 256
  dat : (newBlk cs).loadN 4 256 = some (bc c.data)
  a0 : nth cs 260 = some (.int .i64 c.ak)
  a1 : nth cs 261 = some (.int .i64 c.aw)
  a2 : nth cs 262 = some (.int .u64 c.key)
  a3 : nth cs 263 = some (.int .u64 c.new)
  a4 : nth cs 264 = some (.int .i64 c.ty)
  act : (newBlk cs).loadN 260 5 = some (actL c)
  /-- it begins with a number -/
  bld : bldB cs = false
def blocky (k : Int) : Bool := decide (k = 1 ∨ k = 2 ∨ k = 4 ∨ k = 5)
def mayC (c : Cm) : Bool := decide (1 ≤ c.kind ∧ c.kind ≤ 7) && decide (0 ≤ c.who ∧ c.who < 16) && (if blocky c.kind then decide (0 ≤ c.block ∧ c.block < 64) else decide (c.block = 0)) &&
  (decide (c.kind = 2) || decide (c.data = List.replicate 256 0)) && (if c.kind = 7 then decide (c.aw = 0) && decide (0 ≤ c.ak ∧ c.ak ≤ 255) && decide (0 ≤ c.ty ∧ c.ty ≤ 255)
  else decide (c.ak = 0) && decide (c.aw = 0) && decide (c.key = 0) && decide (c.new = 0) && decide (c.ty = 0))

theorem device_run (S : Tg σ) (h : H) : (lim Tryz.prog σ).call 76 [.int .i64 64] h = some (.bool true, none) := by
  rw [call_eq (S.no _ _ _ rfl) fn_76 rfl rfl, Tryz.ntmps76, Tryz.results76]
  simp only [go_sem]
  rw [fin_q _ _ _ rfl rfl]
theorem cknown_run (S : Tg σ) (h : H) (k : Int) : (lim Tryz.prog σ).call 77 [.int .i64 k] h = some (.bool (decide (1 ≤ k ∧ k ≤ 7)), none) := by
  rw [call_eq (S.no _ _ _ rfl) fn_77 rfl rfl, Tryz.ntmps77, Tryz.results77]
  by_cases h1 : 1 ≤ k
  · have h1' : k ≥ 1 := h1
    by_cases h2 : k ≤ 7
    · simp only [go_sem, h1, h1', h2, and_self]
      rw [fin_q _ _ _ rfl rfl]
    · simp only [go_sem, h1, h1', h2, and_false]
      rw [fin_q _ _ _ rfl rfl]
  · have h1' : ¬ k ≥ 1 := h1
    simp only [go_sem, h1, h1', false_and]
    rw [fin_q _ _ _ rfl rfl]
theorem cinit_run (S : Tg σ) (h : H) (k : Int) : (lim Tryz.prog σ).call 78 [.int .i64 k] h = some (.bool (decide (0 ≤ k ∧ k < 16)), none) := by
  rw [call_eq (S.no _ _ _ rfl) fn_78 rfl rfl, Tryz.ntmps78, Tryz.results78]
  by_cases h1 : 0 ≤ k
  · have h1' : k ≥ 0 := h1
    by_cases h2 : k < 16
    · simp only [go_sem, h1, h1', h2, and_self]
      rw [fin_q _ _ _ rfl rfl]
    · simp only [go_sem, h1, h1', h2, and_false]
      rw [fin_q _ _ _ rfl rfl]
  · have h1' : ¬ k ≥ 0 := h1
    simp only [go_sem, h1, h1', false_and]
    rw [fin_q _ _ _ rfl rfl]
theorem cnames_run (S : Tg σ) (h : H) (k : Int) : (lim Tryz.prog σ).call 79 [.int .i64 k] h = some (.tup [.bool (blocky k), .bool (decide (k = 2)), .bool (decide (k = 7))], none) := by
  rw [call_eq (S.no _ _ _ rfl) fn_79 rfl rfl, Tryz.ntmps79, Tryz.results79]
  unfold blocky
  by_cases h2 : k = 2
  · subst h2; simp only [go_sem]; rw [fin_q _ _ _ rfl rfl]; rfl
  by_cases h1 : k = 1
  · subst h1; simp only [go_sem]; rw [fin_q _ _ _ rfl rfl]; rfl
  by_cases h4 : k = 4
  · subst h4; simp only [go_sem]; rw [fin_q _ _ _ rfl rfl]; rfl
  by_cases h5 : k = 5
  · subst h5; simp only [go_sem]; rw [fin_q _ _ _ rfl rfl]; rfl
  by_cases h7 : k = 7
  · subst h7; simp only [go_sem]; rw [fin_q _ _ _ rfl rfl]; rfl
  · simp only [go_sem, h1, h2, h4, h5, h7, or_self]; rw [fin_q _ _ _ rfl rfl]
theorem rblocky_run (S : Tg σ) (h : H) (k : Int) : (lim Tryz.prog σ).call 41 [.int .i64 k] h = some (.bool (blocky k), none) := by
  rw [call_eq (S.no _ _ _ rfl) fn_41 rfl rfl, Tryz.ntmps41, Tryz.results41]
  unfold blocky
  by_cases h1 : k = 1
  · subst h1; simp only [go_sem]; rw [fin_q _ _ _ rfl rfl]; rfl
  by_cases h2 : k = 2
  · subst h2; simp only [go_sem]; rw [fin_q _ _ _ rfl rfl]; rfl
  by_cases h4 : k = 4
  · subst h4; simp only [go_sem]; rw [fin_q _ _ _ rfl rfl]; rfl
  by_cases h5 : k = 5
  · subst h5; simp only [go_sem]; rw [fin_q _ _ _ rfl rfl]; rfl
  · simp only [go_sem, h1, h2, h4, h5, or_self]; rw [fin_q _ _ _ rfl rfl]
theorem allN_dec {g : Nat → Option Bool} {p : Nat → Bool} : ∀ (n i : Nat), (∀ j, i ≤ j → j < i + n → g j = some (p j)) → allN g n i = some ((List.range' i n).all p)
  | 0, _, _ => rfl
  | n + 1, i, h => by
    simp only [allN, List.range'_succ, List.all_cons]
    rw [h i (Nat.le_refl _) (by omega)]
    cases p i
    · rfl
    · simp only [Option.bind_some, cond_true, Bool.true_and]
      exact allN_dec n (i + 1) fun j h1 h2 => h j (by omega) (by omega)
theorem eqIn_a {P : Program} {fuel n : Nat} {t e : TypeId} {xs ys : List CV} (hu : P.underlying t = some (.array n e)) (hs : szOf P e = some 1) :
    eqIn P (fuel + 1) t (.agg xs) (.agg ys) = allN (fun i => (partT P e xs (i * 1)).bind fun a => (partT P e ys (i * 1)).bind fun b => eqIn P fuel e a b) n 0 := by
  simp only [eqIn, hu, Option.bind_some, hs]
theorem eqIn_i {P : Program} {fuel : Nat} {t : TypeId} {k : IntKind} {a b : Int} (hu : P.underlying t = some (.int k)) : eqIn P (fuel + 1) t (.int k a) (.int k b) = some (a == b) := by
  simp [eqIn, hu]
theorem eq256 (xo yo : Operand) (D E : List Nat) (hD : D.length = 256) (hE : E.length = 256) : binT Tryz.prog .eql 25 xo yo (.agg (bc D)) (.agg (bc E)) = some (.bool (decide (D = E))) := by
  have h1 : eqOk Tryz.prog 25 xo yo (.agg (bc D)) (.agg (bc E)) = true := by kernel_rfl
  have h2 : eqIn Tryz.prog 100 25 (.agg (bc D)) (.agg (bc E)) = some (decide (D = E)) := by
    rw [eqIn_a (fuel := 99) Tryz.underlying25 sz_5, allN_dec (p := fun i => decide (D[i]? = E[i]?)) 256 0]
    · congr 1
      rw [Bool.eq_iff_iff, List.all_eq_true, decide_eq_true_eq]
      constructor
      · intro h
        refine List.ext_getElem? fun i => ?_
        by_cases hi : i < 256
        · exact of_decide_eq_true (h i (by simp; omega))
        · rw [List.getElem?_eq_none (by omega), List.getElem?_eq_none (by omega)]
      · rintro rfl i _
        exact decide_eq_true rfl
    · intro j _ hj
      have hd : D[j]? = some D[j] := List.getElem?_eq_getElem (by omega)
      have he : E[j]? = some E[j] := List.getElem?_eq_getElem (by omega)
      rw [part_5, part_5, Nat.mul_one, nth_eq, nth_eq]
      unfold bc
      rw [List.getElem?_map, List.getElem?_map, hd, he]
      show eqIn Tryz.prog 99 5 (.int .u8 (Int.ofNat D[j])) (.int .u8 (Int.ofNat E[j])) = _
      rw [eqIn_i (fuel := 98) Tryz.underlying5]
      congr 1
      by_cases q : D[j] = E[j]
      · simp [q]
      · simp [q]; omega
  show cond (eqOk Tryz.prog 25 xo yo (.agg (bc D)) (.agg (bc E))) ((eqIn Tryz.prog 100 25 (.agg (bc D)) (.agg (bc E))).map fun b => CV.bool b) none = _
  rw [h1, h2]; rfl
theorem ne256 (xo yo : Operand) (D E : List Nat) (hD : D.length = 256) (hE : E.length = 256) : binT Tryz.prog .neq 25 xo yo (.agg (bc D)) (.agg (bc E)) = some (.bool (!decide (D = E))) := by
  have h1 : eqOk Tryz.prog 25 xo yo (.agg (bc D)) (.agg (bc E)) = true := by kernel_rfl
  have h2 : eqIn Tryz.prog 100 25 (.agg (bc D)) (.agg (bc E)) = some (decide (D = E)) := by
    rw [eqIn_a (fuel := 99) Tryz.underlying25 sz_5, allN_dec (p := fun i => decide (D[i]? = E[i]?)) 256 0]
    · congr 1
      rw [Bool.eq_iff_iff, List.all_eq_true, decide_eq_true_eq]
      constructor
      · intro h
        refine List.ext_getElem? fun i => ?_
        by_cases hi : i < 256
        · exact of_decide_eq_true (h i (by simp; omega))
        · rw [List.getElem?_eq_none (by omega), List.getElem?_eq_none (by omega)]
      · rintro rfl i _
        exact decide_eq_true rfl
    · intro j _ hj
      have hd : D[j]? = some D[j] := List.getElem?_eq_getElem (by omega)
      have he : E[j]? = some E[j] := List.getElem?_eq_getElem (by omega)
      rw [part_5, part_5, Nat.mul_one, nth_eq, nth_eq]
      unfold bc
      rw [List.getElem?_map, List.getElem?_map, hd, he]
      show eqIn Tryz.prog 99 5 (.int .u8 (Int.ofNat D[j])) (.int .u8 (Int.ofNat E[j])) = _
      rw [eqIn_i (fuel := 98) Tryz.underlying5]
      congr 1
      by_cases q : D[j] = E[j]
      · simp [q]
      · simp [q]; omega
  show cond (eqOk Tryz.prog 25 xo yo (.agg (bc D)) (.agg (bc E))) ((eqIn Tryz.prog 100 25 (.agg (bc D)) (.agg (bc E))).map fun b => CV.bool (!b)) none = _
  rw [h1, h2]; rfl

theorem z25 : buildT Tryz.prog 25 [] = some (.agg (bc (List.replicate 256 0))) := by kernel_rfl
theorem z29 : buildT Tryz.prog 29 [] = some (.agg [.int .i64 0, .int .i64 0, .int .u64 0, .int .u64 0, .int .i64 0]) := by kernel_rfl
def zeroA (c : Cm) : Bool := decide (c.ak = 0) && decide (c.aw = 0) && decide (c.key = 0) && decide (c.new = 0) && decide (c.ty = 0)
theorem eqA (xo yo : Operand) (c : Cm) : binT Tryz.prog .eql 29 xo yo (.agg (actL c)) (.agg [.int .i64 0, .int .i64 0, .int .u64 0, .int .u64 0, .int .i64 0]) = some (.bool (zeroA c)) := by
  have e : binT Tryz.prog .eql 29 xo yo (.agg (actL c)) (.agg [.int .i64 0, .int .i64 0, .int .u64 0, .int .u64 0, .int .i64 0]) =
    ((cond (c.ak == 0) (cond (c.aw == 0) (cond (c.key == 0) (cond (c.new == 0) (cond (c.ty == 0) (some true) (some false)) (some false)) (some false)) (some false)) (some false) : Option Bool)).map CV.bool := by
    unfold actL
    kernel_rfl
  rw [e]
  unfold zeroA
  have q : ∀ z : Int, (z == 0) = decide (z = 0) := fun z => by
    by_cases h : z = 0
    · simp [h]
    · simp [h]
  rw [q, q, q, q, q]
  cases decide (c.ak = 0) <;> cases decide (c.aw = 0) <;> cases decide (c.key = 0) <;> cases decide (c.new = 0) <;> cases decide (c.ty = 0) <;> rfl
theorem CmdOk.get {cs : List CV} {c : Cm} (C : CmdOk cs c) (i : Nat) : (newBlk cs).get i = nth cs i := newBlk_get _ _
theorem aB_cmd {cs : List CV} {c : Cm} (C : CmdOk cs c) (e : TypeId) : allocB e cs = newBlk cs := by
  unfold allocB
  rw [C.bld]; rfl
def MayR (c : Cm) (h : H) (r : Option (CV × Option H)) : Prop := r = some (.bool (mayC c), none)
theorem mayR_fin {c : Cm} {h h' : H} {b : Bool} (E : h'.low = h.nx) (e : b = mayC c) : MayR c h (some (fin h h' (.bool b))) := by
  rw [fin_q _ _ _ E rfl, e]; rfl
theorem cmay_run (S : Tg σ) (h : H) {cs : List CV} {c : Cm} (C : CmdOk cs c) : MayR c h ((lim Tryz.prog σ).call 35 [.agg cs, .int .i64 64] h) := by
  obtain ⟨Q, hQ⟩ : ∃ Q, Q = MayR c h := ⟨_, rfl⟩
  rw [← hQ]
  rw [call_eq (S.no _ _ _ rfl) fn_35 rfl rfl, Tryz.ntmps35, Tryz.results35]
  have hb := aB_cmd C
  have g0 := C.get
  have n1 := C.n1; have n2 := C.n2; have n3 := C.n3; have dat := C.dat; have act := C.act; have a0 := C.a0; have a1 := C.a1; have a4 := C.a4
  simp only [go_sem, C.one, device_run S, hb, g0, n1, n2, cknown_run S, cinit_run S]
  by_cases hk : 1 ≤ c.kind ∧ c.kind ≤ 7
  rotate_left
  · simp only [go_sem, hk]
    rw [hQ]
    exact mayR_fin rfl (by unfold mayC; rw [decide_eq_false hk]; rfl)
  by_cases hw : 0 ≤ c.who ∧ c.who < 16
  rotate_left
  · simp only [go_sem, hk, hb, g0, n1, n2, cinit_run S, hw]
    rw [hQ]
    exact mayR_fin rfl (by unfold mayC; rw [decide_eq_false hw, Bool.and_false]; rfl)
  simp only [go_sem, hk, hb, g0, n1, n2, n3, cinit_run S, hw, cnames_run S]
  have hcase : (if blocky c.kind then decide (0 ≤ c.block ∧ c.block < 64) else decide (c.block = 0)) = false ∨ ((if blocky c.kind then decide (0 ≤ c.block ∧ c.block < 64) else decide (c.block = 0)) = true) := by
    cases (if blocky c.kind then decide (0 ≤ c.block ∧ c.block < 64) else decide (c.block = 0)) <;> simp
  rcases hcase with hf | hp
  · have hm : mayC c = false := by unfold mayC; rw [hf, Bool.and_false]; rfl
    have h3 : (blocky c.kind = false ∧ (c.block = 0) = False) ∨ (blocky c.kind = true ∧ (c.block = 0) = False ∧ (c.block < 0) = True) ∨ (blocky c.kind = true ∧ (c.block = 0) = False ∧ (c.block < 0) = False ∧ (c.block ≥ 64) = True) := by
      cases hB : blocky c.kind
      · rw [hB] at hf
        simp at hf
        exact .inl ⟨rfl, eq_false hf⟩
      · rw [hB] at hf
        simp at hf
        by_cases q : c.block < 0
        · exact .inr (.inl ⟨rfl, eq_false (by omega), eq_true q⟩)
        · exact .inr (.inr ⟨rfl, eq_false (by have := hf (by omega); omega), eq_false q, eq_true (hf (by omega))⟩)
    rcases h3 with ⟨h1, h2⟩ | ⟨h1, h2, h3⟩ | ⟨h1, h2, h3, h4⟩
    · simp only [go_sem, h1, h2, hb, g0, n3]
      rw [hQ]
      exact mayR_fin rfl hm.symm
    · simp only [go_sem, h1, h2, h3, hb, g0, n3]
      rw [hQ]
      exact mayR_fin rfl hm.symm
    · simp only [go_sem, h1, h2, h3, h4, hb, g0, n3]
      rw [hQ]
      exact mayR_fin rfl hm.symm
  · have hM : mayC c = ((decide (c.kind = 2) || decide (c.data = List.replicate 256 0)) && (if c.kind = 7 then decide (c.aw = 0) && decide (0 ≤ c.ak ∧ c.ak ≤ 255) && decide (0 ≤ c.ty ∧ c.ty ≤ 255) else zeroA c)) := by
      unfold mayC; rw [hp, decide_eq_true hk, decide_eq_true hw]; rfl
    have h3 : ((c.block = 0) = True ∧ (c.block < 0) = False ∧ (c.block ≥ 64) = False ∧ blocky c.kind = false) ∨ ((c.block = 0) = True ∧ (c.block < 0) = False ∧ (c.block ≥ 64) = False ∧ blocky c.kind = true) ∨ ((c.block = 0) = False ∧ (c.block < 0) = False ∧ (c.block ≥ 64) = False ∧ blocky c.kind = true) := by
      cases hB : blocky c.kind
      · rw [hB] at hp
        simp at hp
        exact .inl ⟨eq_true hp, eq_false (by omega), eq_false (by omega), rfl⟩
      · rw [hB] at hp
        simp at hp
        by_cases q : c.block = 0
        · exact .inr (.inl ⟨eq_true q, eq_false (by omega), eq_false (by omega), rfl⟩)
        · exact .inr (.inr ⟨eq_false q, eq_false (by omega), eq_false (by omega), rfl⟩)
    have hd := ne256 (.tmp 54) (.tmp 55) c.data (List.replicate 256 0) C.dl (by simp)
    rcases h3 with ⟨h1, h2, h3, h4⟩ | ⟨h1, h2, h3, h4⟩ | ⟨h1, h2, h3, h4⟩
    all_goals
      simp only [go_sem, h1, h2, h3, h4, hb, g0, n3]
      by_cases k2 : c.kind = 2
      · have k7 : ¬ c.kind = 7 := by omega
        simp only [↓act, go_sem, k2, k7, hb, z29, eqA]
        rw [hQ]
        exact mayR_fin rfl (by rw [hM, decide_eq_true k2, if_neg k7, Bool.true_or, Bool.true_and])
      by_cases hz : c.data = List.replicate 256 0
      rotate_left
      · rw [decide_eq_false hz] at hd
        simp only [↓dat, go_sem, k2, hb, z25, hd]
        rw [hQ]
        exact mayR_fin rfl (by rw [hM, decide_eq_false k2, decide_eq_false hz, Bool.false_or, Bool.false_and])
      rw [decide_eq_true hz, decide_eq_false k2, Bool.or_true, Bool.true_and] at hM
      rw [decide_eq_true hz] at hd
      by_cases k7 : c.kind = 7
      rotate_left
      · simp only [↓dat, ↓act, go_sem, k2, hb, z25, hd, k7, z29, eqA]
        rw [hQ]
        exact mayR_fin rfl (by rw [hM, if_neg k7])
      rw [if_pos k7] at hM
      simp only [↓dat, go_sem, k2, hb, z25, hd, k7, g0, a0, a1, a4]
      refine cnd_go (Q := Q) (by kernel_rfl) ?_
      simp only [↓dat, go_sem, k2, hb, z25, hd, k7, g0, a0, a1, a4]
      by_cases p1 : c.aw = 0
      rotate_left
      · simp only [go_sem, p1]
        rw [hQ]
        exact mayR_fin rfl (by rw [hM, decide_eq_false p1]; rfl)
      rw [decide_eq_true p1, Bool.true_and] at hM
      by_cases p2 : c.ak ≥ 0
      rotate_left
      · simp only [go_sem, p1, p2]
        rw [hQ]
        exact mayR_fin rfl (by rw [hM, decide_eq_false (fun q => p2 q.1)]; rfl)
      by_cases p3 : c.ak ≤ 255
      rotate_left
      · simp only [go_sem, p1, p2, p3]
        rw [hQ]
        exact mayR_fin rfl (by rw [hM, decide_eq_false (fun q => p3 q.2)]; rfl)
      rw [decide_eq_true ⟨p2, p3⟩, Bool.true_and] at hM
      by_cases p4 : c.ty ≥ 0
      rotate_left
      · simp only [go_sem, p1, p2, p3, p4]
        rw [hQ]
        exact mayR_fin rfl (by rw [hM, decide_eq_false (fun q => p4 q.1)])
      have hM2 : mayC c = decide (c.ty ≤ 255) := by rw [hM]; exact decide_eq_decide.2 ⟨fun q => q.2, fun q => ⟨p4, q⟩⟩
      simp only [go_sem, p1, p2, p3, p4]
      rw [hQ]
      exact mayR_fin rfl hM2.symm
end
end Go.Cl.Sh

namespace Go.Cl.Sh
open Go.Cl.Jo
variable {σ : Sums}
set_option maxRecDepth 1000000
theorem rmay_run (S : Tg σ) (h : H) {cs : List CV} {c : Cm} (C : CmdOk cs c) : MayR c h ((lim Tryz.prog σ).call 12 [.agg cs, .int .i64 64] h) := by
  obtain ⟨Q, hQ⟩ : ∃ Q, Q = MayR c h := ⟨_, rfl⟩
  rw [← hQ]
  rw [call_eq (S.no _ _ _ rfl) fn_12 rfl rfl, Tryz.ntmps12, Tryz.results12]
  have hb := aB_cmd C
  have g0 := C.get
  have n1 := C.n1; have n2 := C.n2; have n3 := C.n3; have dat := C.dat; have act := C.act; have a0 := C.a0; have a1 := C.a1; have a4 := C.a4
  have hk0 : ¬ (1 ≤ c.kind ∧ c.kind ≤ 7) → mayC c = false := fun q => by unfold mayC; rw [decide_eq_false q]; rfl
  have hw0 : ¬ (0 ≤ c.who ∧ c.who < 16) → mayC c = false := fun q => by unfold mayC; rw [decide_eq_false q, Bool.and_false]; rfl
  simp only [go_sem, C.one, hb, g0, n1, n2]
  by_cases k1 : c.kind < 1
  · simp only [go_sem, k1]
    rw [hQ]
    exact mayR_fin rfl (hk0 (by omega)).symm
  by_cases k2 : c.kind > 7
  · simp only [go_sem, k1, k2, hb, g0, n1, n2]
    rw [hQ]
    exact mayR_fin rfl (hk0 (by omega)).symm
  by_cases w1 : c.who < 0
  · simp only [go_sem, k1, k2, w1, hb, g0, n1, n2]
    rw [hQ]
    exact mayR_fin rfl (hw0 (by omega)).symm
  by_cases w2 : c.who > 15
  · simp only [go_sem, k1, k2, w1, w2, hb, g0, n1, n2]
    rw [hQ]
    exact mayR_fin rfl (hw0 (by omega)).symm
  have hk : 1 ≤ c.kind ∧ c.kind ≤ 7 := by omega
  have hw : 0 ≤ c.who ∧ c.who < 16 := by omega
  simp only [go_sem, k1, k2, w1, w2, hb, g0, n1, n2, n3, rblocky_run S]
  have hcase : (if blocky c.kind then decide (0 ≤ c.block ∧ c.block < 64) else decide (c.block = 0)) = false ∨ ((if blocky c.kind then decide (0 ≤ c.block ∧ c.block < 64) else decide (c.block = 0)) = true) := by
    cases (if blocky c.kind then decide (0 ≤ c.block ∧ c.block < 64) else decide (c.block = 0)) <;> simp
  rcases hcase with hf | hp
  · have hm : mayC c = false := by unfold mayC; rw [hf, Bool.and_false]; rfl
    have h3 : (blocky c.kind = false ∧ (c.block = 0) = False) ∨ (blocky c.kind = true ∧ (c.block < 0) = True) ∨ (blocky c.kind = true ∧ (c.block < 0) = False ∧ (c.block ≥ 64) = True) := by
      cases hB : blocky c.kind
      · rw [hB] at hf
        simp at hf
        exact .inl ⟨rfl, eq_false hf⟩
      · rw [hB] at hf
        simp at hf
        by_cases q : c.block < 0
        · exact .inr (.inl ⟨rfl, eq_true q⟩)
        · exact .inr (.inr ⟨rfl, eq_false q, eq_true (hf (by omega))⟩)
    rcases h3 with ⟨h1, h2⟩ | ⟨h1, h2⟩ | ⟨h1, h2, h3⟩
    · simp only [go_sem, h1, h2, hb, g0, n2, n3, rblocky_run S]
      rw [hQ]
      exact mayR_fin rfl hm.symm
    · simp only [go_sem, h1, h2, hb, g0, n3]
      rw [hQ]
      exact mayR_fin rfl hm.symm
    · simp only [go_sem, h1, h2, h3, hb, g0, n3]
      rw [hQ]
      exact mayR_fin rfl hm.symm
  · have hM : mayC c = ((decide (c.kind = 2) || decide (c.data = List.replicate 256 0)) && (if c.kind = 7 then decide (c.aw = 0) && decide (0 ≤ c.ak ∧ c.ak ≤ 255) && decide (0 ≤ c.ty ∧ c.ty ≤ 255) else zeroA c)) := by
      unfold mayC; rw [hp, decide_eq_true hk, decide_eq_true hw]; rfl
    have h3 : ((c.block = 0) = True ∧ (c.block < 0) = False ∧ (c.block ≥ 64) = False ∧ blocky c.kind = false) ∨ (True ∧ (c.block < 0) = False ∧ (c.block ≥ 64) = False ∧ blocky c.kind = true) := by
      cases hB : blocky c.kind
      · rw [hB] at hp
        simp at hp
        exact .inl ⟨eq_true hp, eq_false (by omega), eq_false (by omega), rfl⟩
      · rw [hB] at hp
        simp at hp
        exact .inr ⟨trivial, eq_false (by omega), eq_false (by omega), rfl⟩
    have hd := ne256 (.tmp 62) (.tmp 63) c.data (List.replicate 256 0) C.dl (by simp)
    rcases h3 with ⟨h1, h2, h3, h4⟩ | ⟨h1, h2, h3, h4⟩
    all_goals
      simp only [go_sem, h1, h2, h3, h4, hb, g0, n2, n3, rblocky_run S]
      by_cases k2 : c.kind = 2
      · have k7 : ¬ c.kind = 7 := by omega
        simp only [↓act, go_sem, k2, k7, hb, g0, n2, z29, eqA]
        rw [hQ]
        exact mayR_fin rfl (by rw [hM, decide_eq_true k2, if_neg k7, Bool.true_or, Bool.true_and])
      by_cases hz : c.data = List.replicate 256 0
      rotate_left
      · rw [decide_eq_false hz] at hd
        simp only [↓dat, go_sem, k2, hb, g0, n2, z25, hd]
        rw [hQ]
        exact mayR_fin rfl (by rw [hM, decide_eq_false k2, decide_eq_false hz, Bool.false_or, Bool.false_and])
      rw [decide_eq_true hz, decide_eq_false k2, Bool.or_true, Bool.true_and] at hM
      rw [decide_eq_true hz] at hd
      by_cases k7 : c.kind = 7
      rotate_left
      · simp only [↓dat, ↓act, go_sem, k2, hb, z25, hd, k7, g0, n2, z29, eqA]
        rw [hQ]
        exact mayR_fin rfl (by rw [hM, if_neg k7])
      rw [if_pos k7] at hM
      unfold actL at act
      simp only [↓dat, ↓act, go_sem, k2, hb, z25, hd, k7, g0, n2]
      by_cases p1 : c.aw = 0
      rotate_left
      · simp only [go_sem, p1]
        rw [hQ]
        exact mayR_fin (Nat.min_eq_left (Nat.le_succ _)) (by rw [hM, decide_eq_false p1]; rfl)
      rw [decide_eq_true p1, Bool.true_and] at hM
      by_cases p2 : c.ak ≥ 0
      rotate_left
      · simp only [go_sem, p1, p2]
        rw [hQ]
        exact mayR_fin (Nat.min_eq_left (Nat.le_succ _)) (by rw [hM, decide_eq_false (fun q => p2 q.1)]; rfl)
      by_cases p3 : c.ak ≤ 255
      rotate_left
      · simp only [go_sem, p1, p2, p3]
        rw [hQ]
        exact mayR_fin (Nat.min_eq_left (Nat.le_succ _)) (by rw [hM, decide_eq_false (fun q => p3 q.2)]; rfl)
      rw [decide_eq_true ⟨p2, p3⟩, Bool.true_and] at hM
      by_cases p4 : c.ty ≥ 0
      rotate_left
      · simp only [go_sem, p1, p2, p3, p4]
        rw [hQ]
        exact mayR_fin (Nat.min_eq_left (Nat.le_succ _)) (by rw [hM, decide_eq_false (fun q => p4 q.1)])
      have hM2 : mayC c = decide (c.ty ≤ 255) := by rw [hM]; exact decide_eq_decide.2 ⟨fun q => q.2, fun q => ⟨p4, q⟩⟩
      simp only [go_sem, p1, p2, p3, p4]
      rw [hQ]
      exact mayR_fin (Nat.min_eq_left (Nat.le_succ _)) hM2.symm
end Go.Cl.Sh
