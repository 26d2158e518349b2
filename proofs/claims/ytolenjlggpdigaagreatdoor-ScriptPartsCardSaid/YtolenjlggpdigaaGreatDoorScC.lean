/- The program's functions, run by the rewriting evaluator: what each answers and leaves (ScC). -/
import Derived.Test.YtolenjlggpdigaaGreatDoorScB
set_option linter.all false
open Go Go.Cl Go.Proofs
namespace Go.Cl.Sh
noncomputable section
open Go.Cl.Jo
variable {σ : Sums}
set_option maxRecDepth 1000000

def kindW (k : Int) : List Nat := if k = 1 then [114, 101, 97, 100] else if k = 2 then [119, 114, 105, 116, 101] else if k = 3 then [102, 108, 117, 115, 104] else if k = 4 then [116, 114, 105, 109] else if k = 5 then [122, 101, 114, 111, 101, 115] else if k = 6 then [116, 97, 98, 108, 101] else if k = 7 then [114, 101, 115, 101, 114, 118, 101] else []
def cwords (c : Cm) : List (List Nat) := [dec c.who.toNat, kindW c.kind] ++ (if c.kind = 1 ∨ c.kind = 4 ∨ c.kind = 5 then [dec c.block.toNat] else if c.kind = 2 then [dec c.block.toNat, btext c.data] else if c.kind = 7 then [dec c.ak.toNat, dec c.key.toNat, dec c.new.toNat, dec c.ty.toNat] else [])
def ctext (c : Cm) : List Nat := joinL [32] (cwords c)
theorem cword_run (S : Tg σ) (h : H) (k : Int) : (lim Tryz.prog σ).call 80 [.int .i64 k] h = some (.str (kindW k), none) := by
  rw [call_eq (S.no _ _ _ rfl) fn_80 rfl rfl, Tryz.ntmps80, Tryz.results80]
  unfold kindW
  by_cases h1 : k = 1
  · subst h1; simp only [go_sem]; rw [fin_q _ _ _ rfl rfl]; rfl
  by_cases h2 : k = 2
  · subst h2; simp only [go_sem]; rw [fin_q _ _ _ rfl rfl]; rfl
  by_cases h3 : k = 3
  · subst h3; simp only [go_sem]; rw [fin_q _ _ _ rfl rfl]; rfl
  by_cases h4 : k = 4
  · subst h4; simp only [go_sem]; rw [fin_q _ _ _ rfl rfl]; rfl
  by_cases h5 : k = 5
  · subst h5; simp only [go_sem]; rw [fin_q _ _ _ rfl rfl]; rfl
  by_cases h6 : k = 6
  · subst h6; simp only [go_sem]; rw [fin_q _ _ _ rfl rfl]; rfl
  by_cases h7 : k = 7
  · subst h7; simp only [go_sem]; rw [fin_q _ _ _ rfl rfl]; rfl
  · simp only [go_sem, h1, h2, h3, h4, h5, h6, h7, if_false]; rw [fin_q _ _ _ rfl rfl]
theorem fi_small (S : Tg σ) (h : H) (n : Nat) (q : n < 100) : (lim Tryz.prog σ).call 119 [.int .i64 (Int.ofNat n), .int .i64 10] h = some (.str (dec n), none) := by
  rw [call_eq (S.no _ _ _ rfl) fn_119 rfl rfl, Tryz.ntmps119, Tryz.results119]
  have cz : (0 : Int) ≤ Int.ofNat n := by simp
  have c0 : Int.ofNat n < 100 := by simp; omega
  have hs := told_call (P := Tryz.prog) (S.small h.lo n q)
  simp only [go_sem, c0, cz, hs]
  rw [fin_q _ _ _ rfl (okB_dec _ _)]
theorem itoai_small (S : Tg σ) (h : H) (n : Nat) (q : n < 100) : (lim Tryz.prog σ).call 83 [.int .i64 (Int.ofNat n)] h = some (.str (dec n), none) := by
  rw [call_eq (S.no _ _ _ rfl) fn_83 rfl rfl, Tryz.ntmps83, Tryz.results83]
  simp only [go_sem, fi_small S _ n q]
  rw [fin_q _ _ _ rfl (okB_dec _ _)]
theorem itoa_small (S : Tg σ) (h : H) (n : Nat) (q : n < 100) : (lim Tryz.prog σ).call 45 [.int .i64 (Int.ofNat n)] h = some (.str (dec n), none) := by
  rw [call_eq (S.no _ _ _ rfl) fn_45 rfl rfl, Tryz.ntmps45, Tryz.results45]
  simp only [go_sem, itoai_small S _ n q]
  rw [fin_q _ _ _ rfl (okB_dec _ _)]
structure CmdN (c : Cm) : Prop where
  key : ∃ n : Nat, c.key = Int.ofNat n ∧ n < 18446744073709551616
  new : ∃ n : Nat, c.new = Int.ofNat n ∧ n < 18446744073709551616
theorem call_q {β : Type} {Q : Option β → Prop} {o : Option (CV × Option H)} {v : CV} {x : Option H} {K : CV → Option H → Option β} (e : o = some (v, x)) (k : Q (K v x)) : Q (@thn _ β o ⟨KP K⟩) := by
  rw [e]; exact k
theorem appF_step {β : Type} {Q : Option β → Prop} {h X : H} {id len m c : Nat} {old new : List CV} {b : Blk} {K : Out → Option β} (E : Ext h X) (hlow : X.low = h.low) (hbl : h.low ≤ h.nx) (hb : X.blk id = some b) (hl : b.loadN 0 len = some old) (hc : c < len + m) (hm : 0 < m) (hnew : new.length = m) (ho : new.all CV.one = true) (hsm : len + m ≤ 1000000)
    (k : ∀ h', GL h h' (.sl X.nx 0 (len + m) (.opn 1)) (old ++ new) X.nx → Ext X h' → Q (K (.upd (.sl X.nx 0 (len + m) (.opn 1)) h'))) :
    Q (@thn _ β (uv (appS X 1 16 1 (.sl id 0 len (.exact c)) m (some new))) ⟨K⟩) := by
  have hol : old.length = len := (loadN_spec hl).1
  unfold appS
  rw [show Cl.lenC (.sl id 0 len (.exact c)) = some len from rfl, bind_some', bind_some']
  have hg : (Nat.blt 0 1 && Nat.ble ((len + m) * 16) 70368744177664 && Nat.ble (len + m) 70368744177664 && Nat.beq 1 1 && Nat.beq new.length (m * 1) && new.all CV.one) = true := by
    simp only [blt_eq', ble_eq', beq_eq', Bool.and_eq_true, decide_eq_true_eq]
    exact ⟨⟨⟨⟨⟨by decide, by omega⟩, by omega⟩, trivial⟩, by omega⟩, ho⟩
  rw [hg, cond_true]
  dsimp only
  have h1 : Nat.ble (len + m) c = false := by rw [ble_eq']; exact decide_eq_false (by omega)
  rw [h1, cond_false, hb, bind_some', Nat.mul_one, hl, bind_some']
  have hll : (old ++ new).length = len + m := by rw [List.length_append, hol, hnew]
  have hg2 : ∀ j, (fillB ((len + m) * 1) (old ++ new)).get j = nth (old ++ new) j := fun j => fillB_get _ _ _ (by rw [hll, Nat.mul_one])
  refine k (X.alloc (.cells (fillB ((len + m) * 1) (old ++ new)))) ⟨E.nx, ?_, E.alloc' _, hlow, hbl⟩ (Ext.alloc _ _)
  refine ⟨by rw [Nat.mul_one], .inr ⟨by omega, by rw [hll], by rw [alloc_nx]; omega, _, alloc_blk_same _ _ _ rfl, fillB_ro _ _, ?_, hg2⟩⟩
  rw [fillB_n, hll]
theorem strs_map : ∀ l : List (List Nat), strs (l.map CV.str) = some l
  | [] => rfl
  | x :: l => by
    show (strs (l.map CV.str)).bind (fun r => some (x :: r)) = _
    rw [strs_map l]; rfl
theorem cellsJ_sl {h : H} {id len : Nat} {cap : Cap} {b : Blk} {xs : List (List Nat)} (hb : h.blk id = some b) (hl : b.loadN 0 len = some (xs.map CV.str)) (hc : (cap = .opn 1) ∨ ∃ c, cap = .exact c ∧ len ≤ c) : cellsJ h (.sl id 0 len cap) = some xs := by
  rcases hc with rfl | ⟨c, rfl, q⟩
  · show cond (Nat.beq 1 1) ((h.blk id).bind fun b => (b.loadN 0 len).bind strs) none = _
    rw [hb, bind_some', hl, bind_some', strs_map]; rfl
  · show cond (Nat.ble len c) ((h.blk id).bind fun b => (b.loadN 0 len).bind strs) none = _
    rw [ble_eq', decide_eq_true q, hb, bind_some', hl, bind_some', strs_map]; rfl
theorem dec_len20 {n : Nat} (h : n < 18446744073709551616) : (dec n).length ≤ 20 := by rw [dec_len]; exact nDigits_le20 h
theorem btext_len (xs : List Nat) : (btext xs).length ≤ 512 := by
  unfold btext
  split
  · decide
  · rw [hexD_len, List.length_take]
    have := cutN_le xs 256
    omega
theorem kindW_len (k : Int) : (kindW k).length ≤ 10 := by
  unfold kindW
  repeat' split
  all_goals decide
theorem joinL_len {B : Nat} : ∀ l : List (List Nat), (∀ s ∈ l, s.length ≤ B) → (joinL [32] l).length ≤ l.length * (B + 1)
  | [], _ => by simp [joinL]
  | [s], h => by
    have := h s (by simp)
    simp [joinL]; omega
  | s :: t :: l, h => by
    have h1 := h s (by simp)
    have ih := joinL_len (t :: l) fun s hs => h s (by simp at hs ⊢; exact .inr hs)
    simp only [joinL, List.length_append, List.length_cons, List.length_nil] at ih ⊢
    rw [Nat.succ_mul]
    omega
theorem kindW_lt (k : Int) : ∀ x ∈ kindW k, x < 256 := by
  unfold kindW
  repeat' split
  all_goals decide
theorem btext_lt {xs : List Nat} (h : ∀ x ∈ xs, x < 256) : ∀ x ∈ btext xs, x < 256 := by
  unfold btext
  split
  · decide
  · exact hexD_lt fun y hy => h y (List.mem_of_mem_take hy)
theorem tb_lo {h : H} (T : Tb h) : Tb h.lo := T.ext (Ext.lo h)
theorem tb_al {h : H} (T : Tb h) (o : CObj) : Tb (h.alloc o) := T.ext (Ext.alloc h o)
theorem tb_put {h : H} (T : Tb h) (id : Nat) (hid : 0 < id) (o : CObj) : Tb (h.put id o) := by
  obtain ⟨a, b, blk, h1, h2⟩ := T
  exact ⟨a, b, blk, (blk_eq (put_get_ne _ _ _ _ (by omega))).trans h1, h2⟩
theorem itoa_q (S : Tg σ) (n : Nat) (h2 : n < 9223372036854775808) (h : H) (T : Tb h) : (lim Tryz.prog σ).call 45 [.int .i64 (Int.ofNat n)] h = some (.str (dec n), none) := itoa_run S T n h2
theorem fmtu_q (S : Tg σ) (n : Nat) (h2 : n < 18446744073709551616) (h : H) (T : Tb h) : (lim Tryz.prog σ).call 50 [.int .u64 (Int.ofNat n), .int .i64 10] h = some (.str (dec n), none) := fmtu_run S T n h2
theorem glS_step {β : Type} {Q : Option β → Prop} {h X : H} {v : CV} {cs new : List CV} {lid m : Nat} {K : Out → Option β} (g : GL h X v cs lid) (hm : 0 < m) (hl : new.length = m) (ho : new.all CV.one = true) (hr : cs.length + m ≤ 1000000)
    (k : ∀ h' v', GL h h' v' (cs ++ new) X.nx → v' = .sl X.nx 0 (cs ++ new).length (.opn 1) → X.nx < h'.nx → Q (K (.upd v' h'))) :
    Q (@thn _ β (uv (appS X 1 16 1 v m (some new))) ⟨K⟩) := by
  refine app_step (Q := Q) (by_ := 16) g.lst hm (by omega) ho rfl (by decide) (by omega) (by omega) fun h' L hnx hgn hold hlow hlow2 => ?_
  have hll : (cs ++ new).length = cs.length + m := by rw [List.length_append, hl]
  have := k h' (.sl X.nx 0 (cs.length + m) (.opn 1)) ⟨g.ext.nx, by rw [hll]; exact L, ⟨by have := g.ext.nx; omega, hgn.trans g.ext.gn, fun i hi => (hold i (Nat.lt_of_lt_of_le hi g.ext.nx) fun _ => by have := g.ge; omega).trans (g.ext.old i hi)⟩, by have := g.low; have := g.ge; have := g.bl; omega, g.bl⟩ (by rw [hll]) (by omega)
  exact this
/-- the row of strings, joined -/
theorem join_gl {β : Type} {Q : Option β → Prop} (S : Tg σ) {h X : H} {v : CV} {cs : List CV} {lid : Nat} {xs : List (List Nat)} {sep : List Nat} {K : CV → Option H → Option β} (G : GL h X v cs lid) (hc : cs = xs.map CV.str) (hne : xs.length ≠ 0) (hl : (joinL sep xs).length ≤ 1000000) (hn : xs.length ≤ 1000000)
    (k : Q (K (.str (joinL sep xs)) none)) : Q (@thn _ β ((lim Tryz.prog σ).call 51 [v, .str sep] X) ⟨KP K⟩) := by
  have hcl : cs.length = xs.length := by rw [hc, List.length_map]
  obtain ⟨b, hv, _, hb, _, _, hld⟩ := G.load (by omega)
  refine call_q (Q := Q) (told_call (S.join X v sep xs ?_ hl hn)) k
  rw [hv]
  exact cellsJ_sl hb (by rw [hld, hc]) (.inl rfl)
theorem beqCL_bc : ∀ l : List Nat, beqCL (bc l) (bc l) = true
  | [] => rfl
  | x :: l => by
    show (beqC (u8 x) (u8 x) && beqCL (bc l) (bc l)) = true
    rw [beqCL_bc l, Bool.and_true]
    show (IntKind.u8 == IntKind.u8 && (Int.ofNat x == Int.ofNat x)) = true
    simp
theorem beqC_bc (l : List Nat) : beqC (.agg (bc l)) (.agg (bc l)) = true := beqCL_bc l
theorem ext_blk2 {a b c : H} {k : Nat} (E1 : Ext a b) (E2 : Ext a c) (hk : k < a.nx) : c.blk k = b.blk k := (E2.blk hk).trans (E1.blk hk).symm
theorem cwords_lt {cs : List CV} {c : Cm} (C : CmdOk cs c) : ∀ s ∈ cwords c, ∀ x ∈ s, x < 256 := by
  intro s hs
  have bb := btext_lt C.d8
  have k8 := kindW_lt c.kind
  unfold cwords at hs
  rw [List.mem_append] at hs
  rcases hs with hs | hs
  · simp only [List.mem_cons, List.not_mem_nil, or_false] at hs
    rcases hs with rfl | rfl
    · exact dec_lt _
    · exact k8
  · split at hs
    · simp only [List.mem_cons, List.not_mem_nil, or_false] at hs
      rcases hs with rfl
      exact dec_lt _
    · split at hs
      · simp only [List.mem_cons, List.not_mem_nil, or_false] at hs
        rcases hs with rfl | rfl
        · exact dec_lt _
        · exact bb
      · split at hs
        · simp only [List.mem_cons, List.not_mem_nil, or_false] at hs
          rcases hs with rfl | rfl | rfl | rfl <;> exact dec_lt _
        · cases hs
theorem ctext_lt {cs : List CV} {c : Cm} (C : CmdOk cs c) : ∀ x ∈ ctext c, x < 256 := join_ok [32] (by decide) _ (cwords_lt C)
theorem ctext_run (S : Tg σ) {h : H} (T : Tb h) {cs : List CV} {c : Cm} (C : CmdOk cs c) (N : CmdN c) (hm : mayC c = true) : StrT h (ctext c) ((lim Tryz.prog σ).call 36 [.agg cs] h) := by
  obtain ⟨Q, hQ⟩ : ∃ Q, Q = StrT h (ctext c) := ⟨_, rfl⟩
  rw [← hQ]
  rw [call_eq (S.no _ _ _ rfl) fn_36 rfl rfl, Tryz.ntmps36, Tryz.results36]
  have hb := aB_cmd C
  have g0 := C.get
  have n1 := C.n1; have n2 := C.n2; have n3 := C.n3; have dat := C.dat; have act := C.act; have a0 := C.a0; have a1 := C.a1; have a4 := C.a4
  have hm' := hm
  unfold mayC at hm'
  simp only [Bool.and_eq_true, decide_eq_true_eq] at hm'
  obtain ⟨⟨⟨⟨hk, hw⟩, hbl⟩, _⟩, hac⟩ := hm'
  obtain ⟨w, hwn⟩ : ∃ w : Nat, c.who = Int.ofNat w := ⟨c.who.toNat, by simp only [Int.ofNat_eq_natCast]; omega⟩
  have hw16 : w < 16 := by rw [hwn] at hw; have := hw.2; simp at this; omega
  have hwt : c.who.toNat = w := by rw [hwn]; rfl
  rw [hwn] at n1
  have ei : ∀ h', (lim Tryz.prog σ).call 45 [.int .i64 (Int.ofNat w)] h' = some (.str (dec w), none) := fun h' => itoa_small S h' w (by omega)
  have lw := dec_len20 (by omega : w < 18446744073709551616)
  obtain ⟨kw, hkw⟩ : ∃ kw, kindW c.kind = kw := ⟨_, rfl⟩
  have ecw : ∀ h', (lim Tryz.prog σ).call 80 [.int .i64 c.kind] h' = some (.str kw, none) := fun h' => by rw [cword_run S, hkw]
  have lk := kindW_len c.kind
  have bw := dec_lt w
  have bk := kindW_lt c.kind
  rw [hkw] at lk bk
  have fin : ∀ xs : List (List Nat), cwords c = xs → (∀ s ∈ xs, ∀ x ∈ s, x < 256) → ∀ h', h'.low = h.nx → Q (some (Go.Cl.fin h h' (.str (joinL [32] xs)))) := fun xs e h8 h' hl => by
    rw [hQ]
    unfold ctext
    rw [e]
    exact fin_s hl (join_ok [32] (by decide) xs h8)
  simp only [go_sem, C.one, hb, g0, n1, n2, ecw, ei]
  refine cnd_go (Q := Q) (by kernel_rfl) ?_
  simp only [go_sem, C.one, hb, g0, n1, n2, ecw, ei]
  refine cnd_go (Q := Q) (by kernel_rfl) ?_
  simp only [go_sem, C.one, hb, g0, n1, n2, ecw, ei]
  have h7 : (c.kind = 3 ∨ c.kind = 6) ∨ (c.kind = 1 ∨ c.kind = 4 ∨ c.kind = 5) ∨ c.kind = 2 ∨ c.kind = 7 := by omega
  rcases h7 with k | k | k | k
  · have hxs : cwords c = [dec w, kw] := by
      unfold cwords
      rw [hkw, hwt, if_neg (by omega), if_neg (by omega), if_neg (by omega)]; rfl
    have hlen : (joinL [32] [dec w, kw]).length ≤ 1000000 := Nat.le_trans (joinL_len (B := 20) _ (by simp; omega)) (by simp)
    rcases k with k | k
    all_goals
      simp only [go_sem, k]
      refine call_q (Q := Q) (told_call (S.join _ _ [32] _ (cellsJ_sl (by simp only [go_sem]; rfl) rfl (.inr ⟨2, rfl, Nat.le_refl _⟩)) hlen (by simp))) ?_
      simp only [go_sem]
      exact fin _ hxs (fun s hs => by simp only [List.mem_cons, List.not_mem_nil, or_false] at hs; rcases hs with rfl | rfl <;> assumption) _ rfl
  · have hB : blocky c.kind = true := by unfold blocky; exact decide_eq_true (by omega)
    rw [hB] at hbl
    simp only [if_true, decide_eq_true_eq] at hbl
    obtain ⟨m, hmn⟩ : ∃ m : Nat, c.block = Int.ofNat m := ⟨c.block.toNat, by simp only [Int.ofNat_eq_natCast]; omega⟩
    have hmt : c.block.toNat = m := by rw [hmn]; rfl
    have hm64 : m < 64 := by rw [hmn] at hbl; have := hbl.2; simp at this; omega
    rw [hmn] at n3
    have em : ∀ h', (lim Tryz.prog σ).call 45 [.int .i64 (Int.ofNat m)] h' = some (.str (dec m), none) := fun h' => itoa_small S h' m (by omega)
    have lm := dec_len20 (by omega : m < 18446744073709551616)
    have hxs : cwords c = [dec w, kw, dec m] := by
      unfold cwords
      rw [hkw, hwt, hmt, if_pos k]; rfl
    have hlen : (joinL [32] [dec w, kw, dec m]).length ≤ 1000000 := Nat.le_trans (joinL_len (B := 20) _ (by simp; omega)) (by simp)
    have bm := dec_lt m
    rcases k with k | k | k
    all_goals
      simp only [go_sem, k, hb, g0, n3, em]
      refine appF_step (Q := Q) (h := h.lo) (old := [.str (dec w), .str kw]) (new := [.str (dec m)]) (by exact (((Ext.refl _).alloc' _).alloc' _).alloc' _) rfl (Nat.le_refl _) (by simp only [go_sem]; rfl) rfl (by decide) (by decide) rfl rfl (by decide) fun h2 G E2 => ?_
      simp only [go_sem]
      refine join_gl (Q := Q) S (xs := [dec w, kw, dec m]) G rfl (by simp) hlen (by simp) ?_
      simp only [go_sem]
      exact fin _ hxs (fun s hs => by simp only [List.mem_cons, List.not_mem_nil, or_false] at hs; rcases hs with rfl | rfl | rfl <;> assumption) _ G.low
  · have hB : blocky c.kind = true := by unfold blocky; exact decide_eq_true (by omega)
    rw [hB] at hbl
    simp only [if_true, decide_eq_true_eq] at hbl
    obtain ⟨m, hmn⟩ : ∃ m : Nat, c.block = Int.ofNat m := ⟨c.block.toNat, by simp only [Int.ofNat_eq_natCast]; omega⟩
    have hmt : c.block.toNat = m := by rw [hmn]; rfl
    have hm64 : m < 64 := by rw [hmn] at hbl; have := hbl.2; simp at this; omega
    rw [hmn] at n3
    have em : ∀ h', (lim Tryz.prog σ).call 45 [.int .i64 (Int.ofNat m)] h' = some (.str (dec m), none) := fun h' => itoa_small S h' m (by omega)
    have eb : ∀ h', (lim Tryz.prog σ).call 9 [.agg (bc c.data)] h' = some (.str (btext c.data), none) := fun h' => block_run S h' C.dl C.d8
    have lm := dec_len20 (by omega : m < 18446744073709551616)
    have lb := btext_len c.data
    have hxs : cwords c = [dec w, kw, dec m, btext c.data] := by
      unfold cwords
      rw [hkw, hwt, hmt, if_neg (by omega), if_pos k]; rfl
    have hlen : (joinL [32] [dec w, kw, dec m, btext c.data]).length ≤ 1000000 := Nat.le_trans (joinL_len (B := 512) _ (by simp; omega)) (by simp)
    have bm := dec_lt m
    have bb := btext_lt C.d8
    simp only [↓dat, go_sem, k, hb, g0, n3, em, eb]
    refine cnd_go (Q := Q) (by kernel_rfl) ?_
    simp only [↓dat, go_sem, k, hb, g0, n3, em, eb]
    refine appF_step (Q := Q) (h := h.lo) (old := [.str (dec w), .str kw]) (new := [.str (dec m), .str (btext c.data)]) (by exact (((Ext.refl _).alloc' _).alloc' _).alloc' _) rfl (Nat.le_refl _) (by simp only [go_sem]; rfl) rfl (by decide) (by decide) rfl rfl (by decide) fun h2 G E2 => ?_
    have gB : h2.blk h.nx = some (newBlk cs) := (E2.blk (by show h.nx < h.nx + 1 + 1 + 1; omega)).trans (by simp only [go_sem])
    simp only [↓dat, go_sem, k, hb, g0, n3, em, eb, gB]
    refine cnd_go (Q := Q) (by kernel_rfl) ?_
    simp only [↓dat, go_sem, k, hb, g0, n3, em, eb, gB, beqC_bc]
    refine join_gl (Q := Q) S (xs := [dec w, kw, dec m, btext c.data]) G rfl (by simp) hlen (by simp) ?_
    simp only [go_sem]
    exact fin _ hxs (fun s hs => by simp only [List.mem_cons, List.not_mem_nil, or_false] at hs; rcases hs with rfl | rfl | rfl | rfl <;> assumption) _ G.low
  · have hB : blocky c.kind = false := by unfold blocky; exact decide_eq_false (by omega)
    rw [if_pos k] at hac
    simp only [Bool.and_eq_true, decide_eq_true_eq] at hac
    obtain ⟨⟨_, hak⟩, hty⟩ := hac
    obtain ⟨y1, hy1, ly1⟩ : ∃ m : Nat, c.ak = Int.ofNat m ∧ m < 256 := ⟨c.ak.toNat, by simp only [Int.ofNat_eq_natCast]; omega, by omega⟩
    obtain ⟨y4, hy4, ly4⟩ : ∃ m : Nat, c.ty = Int.ofNat m ∧ m < 256 := ⟨c.ty.toNat, by simp only [Int.ofNat_eq_natCast]; omega, by omega⟩
    obtain ⟨y2, hy2, ly2⟩ := N.key
    obtain ⟨y3, hy3, ly3⟩ := N.new
    have hxs : cwords c = [dec w, kw, dec y1, dec y2, dec y3, dec y4] := by
      unfold cwords
      rw [hkw, hwt, if_neg (by omega), if_neg (by omega), if_pos k, hy1, hy2, hy3, hy4]; rfl
    have b1 := dec_lt y1
    have b2 := dec_lt y2
    have b3 := dec_lt y3
    have b4 := dec_lt y4
    have l1 := dec_len20 (by omega : y1 < 18446744073709551616)
    have l2 := dec_len20 ly2
    have l3 := dec_len20 ly3
    have l4 := dec_len20 (by omega : y4 < 18446744073709551616)
    have hlen : (joinL [32] [dec w, kw, dec y1, dec y2, dec y3, dec y4]).length ≤ 1000000 := Nat.le_trans (joinL_len (B := 20) _ (by simp; omega)) (by simp)
    have act' : (newBlk cs).loadN 260 5 = some [.int .i64 (Int.ofNat y1), .int .i64 c.aw, .int .u64 (Int.ofNat y2), .int .u64 (Int.ofNat y3), .int .i64 (Int.ofNat y4)] := by rw [act, ← hy1, ← hy2, ← hy3, ← hy4]; rfl
    have q1 := itoa_q S y1 (by omega)
    have q2 := fmtu_q S y2 ly2
    have q3 := fmtu_q S y3 ly3
    have q4 := itoa_q S y4 (by omega)
    have p1 : ∀ n : Nat, 0 < n + 1 := Nat.succ_pos
    simp (maxDischargeDepth := 30) only [↓act', go_sem, k, hb, g0, n3, q1, q2, tb_lo, tb_al, tb_put, T, p1]
    refine cnd_go (Q := Q) (by kernel_rfl) ?_
    simp (maxDischargeDepth := 30) only [↓act', go_sem, k, hb, g0, n3, q1, q2, tb_lo, tb_al, tb_put, T, p1]
    refine appF_step (Q := Q) (old := [.str (dec w), .str kw]) (new := [.str (dec y1), .str (dec y2)]) (Ext.alloc _ _) rfl (by show min h.nx (h.nx + 1 + 1) ≤ h.nx + 1 + 1 + 1; omega) (by simp only [go_sem]; rfl) rfl (by decide) (by decide) rfl rfl (by decide) fun h2 G E2 => ?_
    obtain ⟨ba, gA, gA0, gA2, gA3, gA4⟩ : ∃ ba, h2.blk (h.nx + 1 + 1) = some ba ∧ ba.get 0 = some (.int .i64 (Int.ofNat y1)) ∧ ba.get 2 = some (.int .u64 (Int.ofNat y2)) ∧ ba.get 3 = some (.int .u64 (Int.ofNat y3)) ∧ ba.get 4 = some (.int .i64 (Int.ofNat y4)) :=
      ⟨_, (G.ext.blk (by show h.nx + 1 + 1 < h.nx + 1 + 1 + 1; omega)).trans (by simp only [go_sem]; rfl), by simp only [go_sem], by simp only [go_sem], by simp only [go_sem], by simp only [go_sem]⟩
    have T2 : Tb h2 := Tb.ext (by simp (maxDischargeDepth := 30) only [tb_lo, tb_al, tb_put, T, p1]) G.ext
    simp (maxDischargeDepth := 30) only [↓act', go_sem, k, hb, g0, n3, q1, q2, q3, q4, tb_lo, tb_al, tb_put, T, p1, T2, gA, gA0, gA2, gA3, gA4]
    refine cnd_go (Q := Q) (by kernel_rfl) ?_
    simp (maxDischargeDepth := 30) only [↓act', go_sem, k, hb, g0, n3, q1, q2, q3, q4, tb_lo, tb_al, tb_put, T, p1, T2, gA, gA0, gA2, gA3, gA4]
    refine cnd_go (Q := Q) (by kernel_rfl) ?_
    simp (maxDischargeDepth := 30) only [↓act', go_sem, k, hb, g0, n3, q1, q2, q3, q4, tb_lo, tb_al, tb_put, T, p1, T2, gA, gA0, gA2, gA3, gA4]
    refine glS_step (Q := Q) (new := [.str (dec y3), .str (dec y4)]) (G.alloc _) (by decide) rfl rfl (by simp) fun h3 v3 G3 hv3 hlt => ?_
    have gB := (ext_blk2 G.ext G3.ext (by show h.nx + 1 + 1 < h.nx + 1 + 1 + 1; omega)).trans gA
    have gC : ∀ o, (h2.alloc o).blk (h.nx + 1 + 1) = some ba := fun o => ((Ext.alloc h2 o).blk (by have := G.ext.nx; have : h.nx + 1 + 1 + 1 ≤ h2.nx := this; omega)).trans gA
    have T3 : Tb h3 := Tb.ext (by simp (maxDischargeDepth := 30) only [tb_lo, tb_al, tb_put, T, p1]) G3.ext
    simp (maxDischargeDepth := 30) only [↓act', go_sem, k, hb, g0, n3, q1, q2, q3, q4, tb_lo, tb_al, tb_put, T, p1, T2, gA, gA0, gA2, gA3, gA4, gB]
    refine cnd_go (Q := Q) (by kernel_rfl) ?_
    have p3 := Lst.beq G.lst
    have p4 := Lst.beq G3.lst
    simp (maxDischargeDepth := 30) only [↓act', go_sem, k, hb, g0, n3, q1, q2, q3, q4, tb_lo, tb_al, tb_put, T, p1, T2, gA, gA0, gA2, gA3, gA4, gB, p3, p4, gC, T3]
    refine join_gl (Q := Q) S (xs := [dec w, kw, dec y1, dec y2, dec y3, dec y4]) G3 rfl (by simp) hlen (by simp) ?_
    simp only [go_sem]
    exact fin _ hxs (fun s hs => by simp only [List.mem_cons, List.not_mem_nil, or_false] at hs; rcases hs with rfl | rfl | rfl | rfl | rfl | rfl <;> assumption) _ (G3.low.trans (Nat.min_eq_left (show h.nx ≤ h.nx + 1 + 1 by omega)))
theorem commandText_run (S : Tg σ) {h : H} (T : Tb h) {cs : List CV} {c : Cm} (C : CmdOk cs c) (N : CmdN c) :
    (lim Tryz.prog σ).call 8 [.agg cs] h = some (if mayC c = true then .tup [.str (ctext c), .int .i64 0] else .tup [.str [], .int .i64 2], none) := by
  rw [call_eq (S.no _ _ _ rfl) fn_8 rfl rfl, Tryz.ntmps8, Tryz.results8]
  have hb := aB_cmd C
  have ld : (newBlk cs).loadN 0 265 = some cs := loadN_of _ _ _ C.len fun i v hv => by rw [Nat.zero_add, newBlk_get, hv]
  have em : ∀ h', (lim Tryz.prog σ).call 35 [.agg cs, .int .i64 64] h' = some (.bool (mayC c), none) := fun h' => cmay_run S h' C
  cases hm : mayC c
  · rw [hm] at em
    simp only [↓ld, go_sem, C.one, hb, em]
    rw [fin_q _ _ _ rfl rfl]; rfl
  · rw [hm] at em
    have et : (lim Tryz.prog σ).call 36 [.agg cs] (h.lo.alloc (.cells (newBlk cs))) = some (.str (ctext c), none) := ctext_run S (tb_al (tb_lo T) _) C N hm
    have h8 : ∀ x ∈ ctext c, x < 256 := by
      have := ctext_lt C (c := c)
      exact this
    simp only [↓ld, go_sem, C.one, hb, em, et]
    rw [fin_q _ _ _ rfl (by show (okB _ (.str (ctext c)) && _) = true; rw [okB_str _ h8]; rfl)]
    rfl
end
end Go.Cl.Sh

namespace Go.Cl.Sh
noncomputable section
open Go.Cl.Jo
variable {σ : Sums}
set_option maxRecDepth 1000000

/-- a fresh row of words -/
def RowW (h : H) (ws : List (List Nat)) (r : Option (CV × Option H)) : Prop := ∃ Y b, r = some (.sl h.nx 0 ws.length (.exact ws.length), some Y) ∧ Ext h Y ∧ Y.low = min h.low h.nx ∧ h.nx < Y.nx ∧ Y.blk h.nx = some b ∧ b.loadN 0 ws.length = some (ws.map CV.str)
theorem kinds_run (S : Tg σ) (h : H) : RowW h [kindW 1, kindW 2, kindW 3, kindW 4, kindW 5, kindW 6, kindW 7] ((lim Tryz.prog σ).call 43 [] h) := by
  obtain ⟨Q, hQ⟩ : ∃ Q, Q = RowW h [kindW 1, kindW 2, kindW 3, kindW 4, kindW 5, kindW 6, kindW 7] := ⟨_, rfl⟩
  rw [← hQ]
  rw [call_eq (S.no _ _ _ rfl) fn_43 rfl rfl, Tryz.ntmps43, Tryz.results43]
  simp only [go_sem]
  rw [fin_new _ _ _ (by rw [okB_sl, blt_eq']; exact decide_eq_false (by omega)), hQ]
  exact ⟨_, _, rfl, ((Ext.lo h).alloc' _).up' _, rfl, Nat.lt_succ_self _, alloc_blk_same _ _ _ rfl, rfl⟩
theorem RowW.get {h Y : H} {b : Blk} {ws : List (List Nat)} (hl : b.loadN 0 ws.length = some (ws.map CV.str)) {i : Nat} {w : List Nat} (hw : ws[i]? = some w) : b.get i = some (.str w) := by
  obtain ⟨_, g⟩ := loadN_spec hl
  have hi := (List.getElem?_eq_some_iff.1 hw).1
  have := g i (by omega)
  rw [Nat.zero_add] at this
  rw [this, List.getElem?_map, hw]; rfl
theorem rctext_run (S : Tg σ) {h : H} {cs : List CV} {c : Cm} (C : CmdOk cs c) (N : CmdN c) (hm : mayC c = true) : StrT h (ctext c) ((lim Tryz.prog σ).call 15 [.agg cs] h) := by
  obtain ⟨Q, hQ⟩ : ∃ Q, Q = StrT h (ctext c) := ⟨_, rfl⟩
  rw [← hQ]
  rw [call_eq (S.no _ _ _ rfl) fn_15 rfl rfl, Tryz.ntmps15, Tryz.results15]
  have hb := aB_cmd C
  have g0 := C.get
  have n1 := C.n1; have n2 := C.n2; have n3 := C.n3; have dat := C.dat; have act := C.act; have a0 := C.a0; have a1 := C.a1; have a4 := C.a4
  have hm' := hm
  unfold mayC at hm'
  simp only [Bool.and_eq_true, decide_eq_true_eq] at hm'
  obtain ⟨⟨⟨⟨hk, hw⟩, hbl⟩, _⟩, hac⟩ := hm'
  obtain ⟨w, hwn⟩ : ∃ w : Nat, c.who = Int.ofNat w := ⟨c.who.toNat, by simp only [Int.ofNat_eq_natCast]; omega⟩
  have hw16 : w < 16 := by rw [hwn] at hw; have := hw.2; simp at this; omega
  have hwt : c.who.toNat = w := by rw [hwn]; rfl
  rw [hwn] at n1
  obtain ⟨kd, hkd, hkd7⟩ : ∃ kd : Nat, c.kind = Int.ofNat (kd + 1) ∧ kd < 7 := ⟨(c.kind - 1).toNat, by simp only [Int.ofNat_eq_natCast]; omega, by omega⟩
  have ei : ∀ h', (lim Tryz.prog σ).call 42 [.int .i64 (Int.ofNat w)] h' = some (.str (dec w), none) := fun h' => rtext_run S h' w (by omega)
  obtain ⟨kw, hkw⟩ : ∃ kw, kindW c.kind = kw := ⟨_, rfl⟩
  have lw := dec_len20 (by omega : w < 18446744073709551616)
  have lk := kindW_len c.kind
  rw [hkw] at lk
  have h8 := ctext_lt C (c := c)
  have fin : ∀ s : List Nat, ctext c = s → ∀ h', h'.low = h.nx → Q (some (Go.Cl.fin h h' (.str s))) := fun s e h' hl => by
    rw [hQ, ← e]
    exact fin_s hl h8
  obtain ⟨Y, kb, ek, EY, Yl, Yn, Yb, Yld⟩ := kinds_run S (h.lo.alloc (.cells (newBlk cs)))
  have ek : (lim Tryz.prog σ).call 43 [] (h.lo.alloc (.cells (newBlk cs))) = some (.sl (h.nx + 1) 0 7 (.exact 7), some Y) := ek
  have Yb : Y.blk (h.nx + 1) = some kb := Yb
  have Yl : Y.low = h.nx := Yl.trans (Nat.min_eq_left (Nat.le_succ _))
  have hgw : kb.get kd = some (.str kw) := RowW.get (h := h) (Y := Y) Yld (by
    rw [← hkw, hkd]
    have : kd = 0 ∨ kd = 1 ∨ kd = 2 ∨ kd = 3 ∨ kd = 4 ∨ kd = 5 ∨ kd = 6 := by omega
    rcases this with rfl | rfl | rfl | rfl | rfl | rfl | rfl <;> rfl)
  have Yc : Y.blk h.nx = some (newBlk cs) := (EY.blk (Nat.lt_succ_self _)).trans (alloc_blk_same _ _ _ rfl)
  have w1 : IntKind.wrap .i64 (c.kind - 1) = Int.ofNat kd := by
    rw [hkd, show (Int.ofNat (kd + 1) - 1 : Int) = Int.ofNat kd by simp]
    exact wrap_i64 (by simp only [Int.ofNat_eq_natCast]; omega) (by simp only [Int.ofNat_eq_natCast]; omega)
  have q0 : (dec w).length + 1 ≤ 70368744177664 := by simp; omega
  have q1 : ((dec w) ++ [UInt8.toNat 32]).length + (kw).length ≤ 70368744177664 := by simp; omega
  simp only [go_sem, C.one, hb, g0, n1, n2, ei, bin_sadd, ek, Yc, w1, hkd7, Yb, Nat.mul_one, hgw, q0, q1]
  refine cnd_go (Q := Q) (by kernel_rfl) ?_
  simp only [go_sem, C.one, hb, g0, n1, n2, ei, bin_sadd, ek, Yc, w1, hkd7, Yb, Nat.mul_one, hgw, q0, q1]
  refine cnd_go (Q := Q) (by kernel_rfl) ?_
  simp only [go_sem, C.one, hb, g0, n1, n2, ei, bin_sadd, ek, Yc, w1, hkd7, Yb, Nat.mul_one, hgw, q0, q1]
  refine cnd_go (Q := Q) (by kernel_rfl) ?_
  simp only [go_sem, C.one, hb, g0, n1, n2, ei, bin_sadd, ek, Yc, w1, hkd7, Yb, Nat.mul_one, hgw, q0, q1]
  have h7 : (c.kind = 3 ∨ c.kind = 6) ∨ (c.kind = 1 ∨ c.kind = 4 ∨ c.kind = 5) ∨ c.kind = 2 ∨ c.kind = 7 := by omega
  rcases h7 with k | k | k | k
  · have hxs : ctext c = dec w ++ [32] ++ kw := by
      unfold ctext cwords
      rw [hkw, hwt, if_neg (by omega), if_neg (by omega), if_neg (by omega)]
      simp [joinL]
    rcases k with k | k
    all_goals
      simp only [go_sem, k]
      exact fin _ hxs _ Yl
  · have hB : blocky c.kind = true := by unfold blocky; exact decide_eq_true (by omega)
    rw [hB] at hbl
    simp only [if_true, decide_eq_true_eq] at hbl
    obtain ⟨m, hmn⟩ : ∃ m : Nat, c.block = Int.ofNat m := ⟨c.block.toNat, by simp only [Int.ofNat_eq_natCast]; omega⟩
    have hmt : c.block.toNat = m := by rw [hmn]; rfl
    have hm64 : m < 64 := by rw [hmn] at hbl; have := hbl.2; simp at this; omega
    rw [hmn] at n3
    have em : ∀ h', (lim Tryz.prog σ).call 42 [.int .i64 (Int.ofNat m)] h' = some (.str (dec m), none) := fun h' => rtext_run S h' m (by omega)
    have lm := dec_len20 (by omega : m < 18446744073709551616)
    have hxs : ctext c = dec w ++ [32] ++ kw ++ [32] ++ dec m := by
      unfold ctext cwords
      rw [hkw, hwt, hmt, if_pos k]
      simp [joinL]
    have p2 : (((dec w) ++ [UInt8.toNat 32]) ++ kw).length + 1 ≤ 70368744177664 := by simp; omega
    have p3 : ((((dec w) ++ [UInt8.toNat 32]) ++ kw) ++ [UInt8.toNat 32]).length + (dec m).length ≤ 70368744177664 := by simp; omega
    rcases k with k | k | k
    all_goals
      simp only [go_sem, k, Yc, g0, n3, em, bin_sadd, p2, p3]
      exact fin _ hxs _ Yl
  · have hB : blocky c.kind = true := by unfold blocky; exact decide_eq_true (by omega)
    rw [hB] at hbl
    simp only [if_true, decide_eq_true_eq] at hbl
    obtain ⟨m, hmn⟩ : ∃ m : Nat, c.block = Int.ofNat m := ⟨c.block.toNat, by simp only [Int.ofNat_eq_natCast]; omega⟩
    have hmt : c.block.toNat = m := by rw [hmn]; rfl
    have hm64 : m < 64 := by rw [hmn] at hbl; have := hbl.2; simp at this; omega
    rw [hmn] at n3
    have em : ∀ h', (lim Tryz.prog σ).call 42 [.int .i64 (Int.ofNat m)] h' = some (.str (dec m), none) := fun h' => rtext_run S h' m (by omega)
    have eb : ∀ h', (lim Tryz.prog σ).call 10 [.agg (bc c.data)] h' = some (.str (btext c.data), none) := fun h' => rblock_run S h' C.dl C.d8
    have lm := dec_len20 (by omega : m < 18446744073709551616)
    have lb := btext_len c.data
    have hxs : ctext c = dec w ++ [32] ++ kw ++ [32] ++ dec m ++ [32] ++ btext c.data := by
      unfold ctext cwords
      rw [hkw, hwt, hmt, if_neg (by omega), if_pos k]
      simp [joinL]
    have p2 : (((dec w) ++ [UInt8.toNat 32]) ++ kw).length + 1 ≤ 70368744177664 := by simp; omega
    have p3 : ((((dec w) ++ [UInt8.toNat 32]) ++ kw) ++ [UInt8.toNat 32]).length + (dec m).length ≤ 70368744177664 := by simp; omega
    have p4 : (((((dec w) ++ [UInt8.toNat 32]) ++ kw) ++ [UInt8.toNat 32]) ++ dec m).length + 1 ≤ 70368744177664 := by simp; omega
    have p5 : ((((((dec w) ++ [UInt8.toNat 32]) ++ kw) ++ [UInt8.toNat 32]) ++ dec m) ++ [UInt8.toNat 32]).length + (btext c.data).length ≤ 70368744177664 := by simp; omega
    simp only [↓dat, go_sem, k, Yc, g0, n3, em, eb, bin_sadd, beqC_bc, p2, p3, p4, p5]
    refine cnd_go (Q := Q) (by kernel_rfl) ?_
    simp only [↓dat, go_sem, k, Yc, g0, n3, em, eb, bin_sadd, beqC_bc, p2, p3, p4, p5]
    exact fin _ hxs _ Yl
  · rw [if_pos k] at hac
    simp only [Bool.and_eq_true, decide_eq_true_eq] at hac
    obtain ⟨⟨_, hak⟩, hty⟩ := hac
    obtain ⟨y1, hy1, ly1⟩ : ∃ m : Nat, c.ak = Int.ofNat m ∧ m < 256 := ⟨c.ak.toNat, by simp only [Int.ofNat_eq_natCast]; omega, by omega⟩
    obtain ⟨y4, hy4, ly4⟩ : ∃ m : Nat, c.ty = Int.ofNat m ∧ m < 256 := ⟨c.ty.toNat, by simp only [Int.ofNat_eq_natCast]; omega, by omega⟩
    obtain ⟨y2, hy2, ly2⟩ := N.key
    obtain ⟨y3, hy3, ly3⟩ := N.new
    have hxs : ctext c = dec w ++ [32] ++ kw ++ [32] ++ dec y1 ++ [32] ++ dec y2 ++ [32] ++ dec y3 ++ [32] ++ dec y4 := by
      unfold ctext cwords
      rw [hkw, hwt, if_neg (by omega), if_neg (by omega), if_pos k, hy1, hy2, hy3, hy4]
      simp [joinL]
    have l1 := dec_len20 (by omega : y1 < 18446744073709551616)
    have l2 := dec_len20 ly2
    have l3 := dec_len20 ly3
    have l4 := dec_len20 (by omega : y4 < 18446744073709551616)
    have act' : (newBlk cs).loadN 260 5 = some [.int .i64 (Int.ofNat y1), .int .i64 c.aw, .int .u64 (Int.ofNat y2), .int .u64 (Int.ofNat y3), .int .i64 (Int.ofNat y4)] := by rw [act, ← hy1, ← hy2, ← hy3, ← hy4]; rfl
    have r1 : ∀ h', (lim Tryz.prog σ).call 42 [.int .i64 (Int.ofNat y1)] h' = some (.str (dec y1), none) := fun h' => rtext_run S h' y1 (by omega)
    have r2 : ∀ h', (lim Tryz.prog σ).call 44 [.int .u64 (Int.ofNat y2)] h' = some (.str (dec y2), none) := fun h' => text_run S h' y2 ly2
    have r3 : ∀ h', (lim Tryz.prog σ).call 44 [.int .u64 (Int.ofNat y3)] h' = some (.str (dec y3), none) := fun h' => text_run S h' y3 ly3
    have r4 : ∀ h', (lim Tryz.prog σ).call 42 [.int .i64 (Int.ofNat y4)] h' = some (.str (dec y4), none) := fun h' => rtext_run S h' y4 (by omega)
    have p2 : (((dec w) ++ [UInt8.toNat 32]) ++ kw).length + 1 ≤ 70368744177664 := by simp; omega
    have p3 : ((((dec w) ++ [UInt8.toNat 32]) ++ kw) ++ [UInt8.toNat 32]).length + (dec y1).length ≤ 70368744177664 := by simp; omega
    have p4 : (((((dec w) ++ [UInt8.toNat 32]) ++ kw) ++ [UInt8.toNat 32]) ++ dec y1).length + 1 ≤ 70368744177664 := by simp; omega
    have p5 : ((((((dec w) ++ [UInt8.toNat 32]) ++ kw) ++ [UInt8.toNat 32]) ++ dec y1) ++ [UInt8.toNat 32]).length + (dec y2).length ≤ 70368744177664 := by simp; omega
    have p6 : (((((((dec w) ++ [UInt8.toNat 32]) ++ kw) ++ [UInt8.toNat 32]) ++ dec y1) ++ [UInt8.toNat 32]) ++ dec y2).length + 1 ≤ 70368744177664 := by simp; omega
    have p7 : ((((((((dec w) ++ [UInt8.toNat 32]) ++ kw) ++ [UInt8.toNat 32]) ++ dec y1) ++ [UInt8.toNat 32]) ++ dec y2) ++ [UInt8.toNat 32]).length + (dec y3).length ≤ 70368744177664 := by simp; omega
    have p8 : (((((((((dec w) ++ [UInt8.toNat 32]) ++ kw) ++ [UInt8.toNat 32]) ++ dec y1) ++ [UInt8.toNat 32]) ++ dec y2) ++ [UInt8.toNat 32]) ++ dec y3).length + 1 ≤ 70368744177664 := by simp; omega
    have p9 : ((((((((((dec w) ++ [UInt8.toNat 32]) ++ kw) ++ [UInt8.toNat 32]) ++ dec y1) ++ [UInt8.toNat 32]) ++ dec y2) ++ [UInt8.toNat 32]) ++ dec y3) ++ [UInt8.toNat 32]).length + (dec y4).length ≤ 70368744177664 := by simp; omega
    simp only [↓act', go_sem, k, Yc, g0, n3, r1, r2, r3, r4, bin_sadd, p2, p3, p4, p5, p6, p7, p8, p9]
    refine cnd_go (Q := Q) (by kernel_rfl) ?_
    simp only [↓act', go_sem, k, Yc, g0, n3, r1, r2, r3, r4, bin_sadd, p2, p3, p4, p5, p6, p7, p8, p9]
    exact fin _ hxs _ (by show min Y.low Y.nx = h.nx; have := EY.nx; have : h.nx + 1 ≤ Y.nx := this; omega)
end
end Go.Cl.Sh

namespace Go.Cl.Sh
noncomputable section
open Go.Cl.Jo
variable {σ : Sums}
set_option maxRecDepth 1000000

def asksW : List (List Nat) := [[112, 114, 111, 109, 111, 116, 101], [102, 111, 114, 99, 101], [100, 101, 109, 111, 116, 101], [99, 111, 110, 110, 101, 99, 116], [100, 105, 115, 99, 111, 110, 110, 101, 99, 116], [97, 116, 116, 97, 99, 104], [100, 101, 116, 97, 99, 104], [111, 117, 116, 100, 97, 116, 101], [118, 101, 114, 105, 102, 121]]
/-- the word of what is asked; others have none -/
def askW (k : Int) : List Nat := if k = 1 then asksW[0] else if k = 2 then asksW[1] else if k = 3 then asksW[2] else if k = 4 then asksW[3] else if k = 5 then asksW[4] else if k = 6 then asksW[5] else if k = 7 then asksW[6] else if k = 8 then asksW[7] else if k = 9 then asksW[8] else []
theorem askword_run (S : Tg σ) (h : H) (k : Int) : (lim Tryz.prog σ).call 82 [.int .i64 k] h = some (.str (askW k), none) := by
  rw [call_eq (S.no _ _ _ rfl) fn_82 rfl rfl, Tryz.ntmps82, Tryz.results82]
  unfold askW
  by_cases h1 : k = 1
  · subst h1; simp only [go_sem]; rw [fin_q _ _ _ rfl rfl]; rfl
  by_cases h2 : k = 2
  · subst h2; simp only [go_sem]; rw [fin_q _ _ _ rfl rfl]; rfl
  by_cases h3 : k = 3
  · subst h3; simp only [go_sem]; rw [fin_q _ _ _ rfl rfl]; rfl
  by_cases h4 : k = 4
  · subst h4; simp only [go_sem]; rw [fin_q _ _ _ rfl rfl]; rfl
  by_cases h5 : k = 5
  · subst h5; simp only [go_sem]; rw [fin_q _ _ _ rfl rfl]; rfl
  by_cases h6 : k = 6
  · subst h6; simp only [go_sem]; rw [fin_q _ _ _ rfl rfl]; rfl
  by_cases h7 : k = 7
  · subst h7; simp only [go_sem]; rw [fin_q _ _ _ rfl rfl]; rfl
  by_cases h8 : k = 8
  · subst h8; simp only [go_sem]; rw [fin_q _ _ _ rfl rfl]; rfl
  by_cases h9 : k = 9
  · subst h9; simp only [go_sem]; rw [fin_q _ _ _ rfl rfl]; rfl
  · simp only [go_sem, h1, h2, h3, h4, h5, h6, h7, h8, h9, if_false]; rw [fin_q _ _ _ rfl rfl]
theorem asks_run (S : Tg σ) (h : H) : RowW h asksW ((lim Tryz.prog σ).call 40 [] h) := by
  obtain ⟨Q, hQ⟩ : ∃ Q, Q = RowW h asksW := ⟨_, rfl⟩
  rw [← hQ]
  rw [call_eq (S.no _ _ _ rfl) fn_40 rfl rfl, Tryz.ntmps40, Tryz.results40]
  simp only [go_sem]
  rw [fin_new _ _ _ (by rw [okB_sl, blt_eq']; exact decide_eq_false (by omega)), hQ]
  exact ⟨_, _, rfl, ((Ext.lo h).alloc' _).up' _, rfl, Nat.lt_succ_self _, alloc_blk_same _ _ _ rfl, rfl⟩
theorem names_run (S : Tg σ) (h : H) : (lim Tryz.prog σ).call 39 [] h = some (.fn (.func 81) [] [], none) := by
  rw [call_eq (S.no _ _ _ rfl) fn_39 rfl rfl, Tryz.ntmps39, Tryz.results39]
  simp only [go_sem]
  rw [fin_q _ _ _ rfl rfl]

def WayOk (h : H) (I : Nat → H → Prop) (n B : Nat) (r : Option (CV × Option H)) : Prop := ∃ x, r = some (.tup [], x) ∧ I n (x.getD h) ∧ (B ≤ h.low → B ≤ (x.getD h).low)
theorem namesit_run (S : Tg σ) {h : H} {l : Nat} (hl : l < h.nx) (B : Nat) (hB : B ≤ h.nx) (n : Nat) (stop : Bool) (hn : n ≤ 9) (hns : stop = false → n = 9) (hnp : stop = true → 0 < n)
    (I : Nat → H → Prop) (i0 : I 0 h) (ie : ∀ i h1 h2, I i h1 → Ext h1 h2 → I i h2) 
    (round : ∀ i h1, i < n → I i h1 → B ≤ h1.low → h.nx ≤ h1.nx → ∃ h2, (lim Tryz.prog σ).round l [.int .i64 (Int.ofNat (i + 1)), .str (askW (Int.ofNat (i + 1)))] h1 = some (.bool (!(stop && decide (i + 1 = n))), some h2) ∧ I (i + 1) h2 ∧ h2.low ≤ l ∧ h1.nx ≤ h2.nx ∧ B ≤ h2.low) :
    WayOk h I n B ((lim Tryz.prog σ).call 81 [.fn (.yield l) [] []] h) := by
  obtain ⟨Q, hQ⟩ : ∃ Q, Q = WayOk h I n B := ⟨_, rfl⟩
  rw [← hQ]
  rw [call_eq (S.no _ _ _ rfl) fn_81 rfl rfl, Tryz.ntmps81, Tryz.results81]
  have i0' := ie _ _ _ i0 (Ext.lo h)
  simp only [go_sem]
  refine loop_ind (Q := Q) (fun i env h1 => evT env 0 = .fn (.yield l) [] [] ∧ evT env 2 = .int .i64 (Int.ofNat (i + 1)) ∧ I i h1 ∧ (i = 0 → h1 = h.lo) ∧ (i ≠ 0 → h1.low ≤ l) ∧ (stop = true → i < n) ∧ B ≤ h1.low ∧ h.nx ≤ h1.nx) n 0 ?_ (Nat.zero_le _) ?_ ?_
  · exact ⟨by simp only [go_sem], by simp only [go_sem]; rfl, i0', fun _ => rfl, fun h => absurd rfl h, hnp, hB, Nat.le_refl _⟩
  · rintro i env h1 ⟨e0, e2, hI, _, hlow, hst, hlB, hnx⟩ hi next
    obtain ⟨h2, hr, hI2, hlow2, hnx2, hB2⟩ := round i h1 hi hI hlB hnx
    have c0 : Int.ofNat (i + 1) ≤ 9 := by simp only [Int.ofNat_eq_natCast]; omega
    have w1 := wrap_succ (i := i + 1) (by omega)
    cases hs : (stop && decide (i + 1 = n))
    · rw [hs] at hr
      simp only [go_sem, e0, e2, c0, askword_run S, hr, w1]
      refine next _ _ ⟨by simp only [go_sem, e0], by simp only [go_sem, w1], hI2, fun h => by omega, fun _ => hlow2, fun h => ?_, hB2, by omega⟩
      rw [h] at hs
      simp at hs
      omega
    · rw [hs] at hr
      simp only [go_sem, e0, e2, c0, askword_run S, hr]
      have hin : i + 1 = n := by simp at hs; exact hs.2
      rw [hQ, fin_l _ _ _ (by omega)]
      exact ⟨_, rfl, ie _ _ _ (hin ▸ hI2) (Ext.up _ _), fun q => by show B ≤ min h.low h2.low; omega⟩
  · rintro env h1 ⟨e0, e2, hI, h0, hlow, hst, hlB, hnx⟩
    have hs : stop = false := by
      cases stop with
      | false => rfl
      | true => exact absurd (hst rfl) (Nat.lt_irrefl _)
    have hn9 := hns hs
    have c0 : ¬ Int.ofNat (n + 1) ≤ 9 := by simp only [Int.ofNat_eq_natCast]; omega
    simp only [go_sem, e0, e2, c0]
    rw [hQ]
    have := hlow (by omega)
    rw [fin_l _ _ _ (by omega)]
    exact ⟨_, rfl, ie _ _ _ hI (Ext.up _ _), fun q => by show B ≤ min h.low h1.low; omega⟩
def loOut (lo : CLoop) (xid : Code) : CLoop := ⟨.done, some xid, lo.env, lo.ntmps, lo.params, lo.assign, lo.body⟩
theorem loOut_eq (e n ps a b x) : loOut (loopObj e n ps a b) x = ⟨.done, some x, e, n, ps, a, b⟩ := rfl
theorem opq {α : Type} {P : α → Prop} {r : α} (k : ∀ R : α → Prop, R = P → R r) : P r := k P rfl
/-- what a round leaves; brk: it was the last one, by an exit -/
def RndOk (L : Nat) (lo : CLoop) (xid : Code) (brk : Bool) (J : H → Prop) (B : Nat) (h1 : H) (r : Option (CV × Option H)) : Prop :=
  ∃ h2, r = some (.bool (!brk), some h2) ∧ h2.t.get L = some (.loop (bif brk then loOut lo xid else lo)) ∧ J h2 ∧ h2.low ≤ L ∧ h1.nx ≤ h2.nx ∧ B ≤ h2.low
theorem rngD_none {β : Type} (n env l h2 v) (K : Res → Option β) : rngD Tryz.prog σ n env l h2 K v none = rngD Tryz.prog σ n env l h2 K v (some h2) := rfl
theorem names_law {β : Type} {Q : Option β → Prop} (S : Tg σ) {Y : H} {lo : CLoop} {xid : Code} {L : Nat} {K : CV → Option H → Option β} (hL : L = Y.nx) (B : Nat) (hB : B ≤ Y.nx) (n : Nat) (stop : Bool) (hn : n ≤ 9) (hns : stop = false → n = 9) (hnp : stop = true → 0 < n)
    (J : Nat → H → Prop) (j0 : J 0 (Y.alloc (.loop lo))) (je : ∀ i h1 h2, J i h1 → Ext h1 h2 → J i h2) (jl : ∀ i h1, J i h1 → Y.nx + 1 ≤ h1.nx)
    (round : ∀ i h1, i < n → h1.t.get L = some (.loop lo) → J i h1 → B ≤ h1.low → RndOk L lo xid (stop && decide (i + 1 = n)) (J (i + 1)) B h1 ((lim Tryz.prog σ).round L [.int .i64 (Int.ofNat (i + 1)), .str (askW (Int.ofNat (i + 1)))] h1))
    (hK : ∀ v, K v none = K v (some (Y.alloc (.loop lo))))
    (k : ∀ Z, Z.t.get L = some (.loop (bif stop then loOut lo xid else lo)) → J n Z → (B ≤ Y.low → B ≤ Z.low) → Q (K (.tup []) (some Z))) :
    Q (@thn _ β ((lim Tryz.prog σ).call 81 [.fn (.yield L) [] []] (Y.alloc (.loop lo))) ⟨KP K⟩) := by
  obtain ⟨x, hr, ⟨h1, h2⟩, h3⟩ := namesit_run S (h := Y.alloc (.loop lo)) (l := L) (by rw [alloc_nx]; omega) B (by rw [alloc_nx]; omega) n stop hn hns hnp
    (fun i h1 => h1.t.get L = some (.loop (bif stop && decide (i = n) then loOut lo xid else lo)) ∧ J i h1)
    ⟨by
      have : (stop && decide (0 = n)) = false := by
        cases stop with
        | false => rfl
        | true => have := hnp rfl; simp; omega
      rw [this, hL]; exact alloc_get_same _ _ _ rfl, j0⟩
    (fun i h1 h2 hI e => ⟨by rw [e.old _ (by have := jl i h1 hI.2; omega)]; exact hI.1, je i h1 h2 hI.2 e⟩)
    (fun i h1 hi hI hlB _ => by
      have hne : (stop && decide (i = n)) = false := by rw [decide_eq_false (by omega), Bool.and_false]
      rw [hne] at hI
      obtain ⟨h2, q1, q2, q3, q4, q5, q6⟩ := round i h1 hi hI.1 hI.2 hlB
      exact ⟨h2, q1, ⟨q2, q3⟩, q4, q5, q6⟩)
  rw [hr]
  rw [decide_eq_true rfl, Bool.and_true] at h1
  have e : K (.tup []) x = K (.tup []) (some (x.getD (Y.alloc (.loop lo)))) := by
    cases x with
    | none => exact hK _
    | some Z => rfl
  show Q (K (.tup []) x)
  rw [e]
  exact k _ h1 h2 h3
end
end Go.Cl.Sh

namespace Go.Cl.Sh
noncomputable section
open Go.Cl.Jo
variable {σ : Sums}
set_option maxRecDepth 1000000
def Cel (h1 : H) (k : Nat) (v : CV) : Prop := k < h1.nx ∧ ∃ b, h1.blk k = some b ∧ b.ro = false ∧ b.n = 1 ∧ b.get 0 = some v
theorem Cel.ext {h h' : H} {k : Nat} {v : CV} (C : Cel h k v) (E : Ext h h') : Cel h' k v := by
  obtain ⟨a, b, c, d, e, f⟩ := C
  exact ⟨Nat.lt_of_lt_of_le a E.nx, b, (E.blk a).trans c, d, e, f⟩
def TruX (h : H) (r : Option (CV × Option H)) : Prop := ∃ x, r = some (.bool true, x) ∧ Ext h (x.getD h)
theorem rnd4_ro (l h e m ps a b) : rnd4 l .ret h (.loop (loopBusy e m ps a b)) = some (.bool false, some (h.put l (.loop (loOut (loopObj e m ps a b) .ret)))) := rfl
theorem asks_step {β : Type} {Q : Option β → Prop} (S : Tg σ) {X : H} {K : CV → Option H → Option β}
    (k : ∀ Y b, Ext X Y → Y.low = min X.low X.nx → X.nx < Y.nx → Y.blk X.nx = some b → (∀ i w, asksW[i]? = some w → b.get i = some (.str w)) → Q (K (.sl X.nx 0 9 (.exact 9)) (some Y))) :
    Q (@thn _ β ((lim Tryz.prog σ).call 40 [] X) ⟨KP K⟩) := by
  obtain ⟨Y, b, e, h1, h2, h3, h4, h5⟩ := asks_run S X
  rw [e]
  exact k Y b h1 h2 h3 h4 fun i w hw => RowW.get (h := X) (Y := Y) h5 hw
theorem askW_at {i : Nat} (h : i < 9) : asksW[i]? = some (askW (Int.ofNat (i + 1))) := by
  have : ∀ j : Fin 9, asksW[j.val]? = some (askW (Int.ofNat (j.val + 1))) := by decide +kernel
  exact this ⟨i, h⟩
theorem once_run (S : Tg σ) (h : H) (m : Int) : TruX h ((lim Tryz.prog σ).call 11 [.int .i64 m] h) := by
  obtain ⟨Q, hQ⟩ : ∃ Q, Q = TruX h := ⟨_, rfl⟩
  rw [← hQ]
  rw [call_eq (S.no _ _ _ rfl) fn_11 rfl rfl, Tryz.ntmps11, Tryz.results11]
  obtain ⟨n, stop, hn, hns, hnp, hm, hno⟩ : ∃ (n : Nat) (stop : Bool), n ≤ 9 ∧ (stop = false → n = 9) ∧ (stop = true → 0 < n) ∧ (stop = true → m = Int.ofNat n) ∧ (∀ i, i < n → (stop && decide (i + 1 = n)) = false → ¬ (Int.ofNat (i + 1) = m)) := by
    by_cases q : 1 ≤ m ∧ m ≤ 9
    · refine ⟨m.toNat, true, by omega, fun e => Bool.noConfusion e, fun _ => by omega, fun _ => by simp only [Int.ofNat_eq_natCast]; omega, fun i hi e e2 => ?_⟩
      simp at e
      simp only [Int.ofNat_eq_natCast] at e2
      omega
    · refine ⟨9, false, Nat.le_refl _, fun _ => rfl, fun e => Bool.noConfusion e, fun e => Bool.noConfusion e, fun i hi _ e2 => ?_⟩
      simp only [Int.ofNat_eq_natCast] at e2
      omega
  simp only [go_sem, names_run S]
  refine names_law (Q := Q) S (xid := .ret) rfl h.nx (by show h.nx ≤ h.nx + 1 + 1 + 1; omega) n stop hn hns hnp
    (fun i h1 => h.nx + 1 + 1 + 1 + 1 ≤ h1.nx ∧ Ext h h1 ∧ Cel h1 h.nx (.int .i64 m) ∧ (∃ v, Cel h1 (h.nx + 1) v ∧ (stop = true → i = n → v = .bool true)) ∧ Cel h1 (h.nx + 1 + 1) (.int .i64 (Int.ofNat i))) ?_ ?_ ?_ ?_ (fun _ => by rw [rngD_none]; refine congrArg (fun z => rngD _ _ _ _ _ _ _ _ (some z)) ?_; simp only [go_sem]) ?_
  · refine ⟨Nat.le_refl _, ((((((Ext.lo h).alloc' _).alloc' _).alloc' _).put _ (by omega)).alloc' _), ⟨by show h.nx < h.nx + 1 + 1 + 1 + 1; omega, newBlk [.int .i64 m], ?_, rfl, rfl, rfl⟩, ⟨.bool false, ⟨by show h.nx + 1 < h.nx + 1 + 1 + 1 + 1; omega, newBlk [.bool false], ?_, rfl, rfl, rfl⟩, fun e1 e2 => by have := hnp e1; omega⟩, ⟨by show h.nx + 1 + 1 < h.nx + 1 + 1 + 1 + 1; omega, (newBlk [.int .i64 0]).st 0 (.int .i64 0), ?_, rfl, rfl, rfl⟩⟩
    all_goals
      have u1 : h.nx ≠ h.nx + 1 + 1 + 1 := by omega
      have u2 : h.nx ≠ h.nx + 1 + 1 := by omega
      simp only [go_sem, u1, u2]
  · rintro i h1 h2 ⟨j1, j2, j3, ⟨v, j4, j5⟩, j6⟩ e
    exact ⟨Nat.le_trans j1 e.nx, j2.trans e, j3.ext e, ⟨v, j4.ext e, j5⟩, j6.ext e⟩
  · rintro i h1 ⟨j1, _⟩
    exact j1
  · rintro i h1 hi hloop ⟨j1, j2, ⟨a1, ba, a2, a3, a4, a5⟩, ⟨v, ⟨b1, bb, b2, b3, b4, b5⟩, j5⟩, ⟨c1, bc, c2, c3, c4, c5⟩⟩ hlB
    refine opq (P := RndOk _ _ _ _ _ _ _) fun R hR => ?_
    have c0 : ¬ Int.ofNat i ≥ 9 := by simp only [Int.ofNat_eq_natCast]; omega
    have w1 := wrap_succ (i := i) (by omega)
    have u1 : h.nx ≠ h.nx + 1 + 1 + 1 := by omega
    have u2 : h.nx + 1 ≠ h.nx + 1 + 1 + 1 := by omega
    have u3 : h.nx + 1 + 1 ≠ h.nx + 1 + 1 + 1 := by omega
    simp only [round_eq, hloop, go_sem, u1, u2, u3, c2, c5, c0, w1]
    refine cnd_go (Q := R) (by kernel_rfl) ?_
    simp only [round_eq, hloop, go_sem, u1, u2, u3, c2, c5, c0, w1]
    refine asks_step (Q := R) S fun Y b EY Yl Yn Yb Yg => ?_
    have hLlt : h.nx + 1 + 1 + 1 < h1.nx := by omega
    have Y3 : Y.blk (h.nx + 1 + 1) = some bc := (EY.blk c1).trans ((put_blk_ne _ _ _ _ u3).trans c2)
    have Y2 : Y.blk (h.nx + 1) = some bb := (EY.blk b1).trans ((put_blk_ne _ _ _ _ u2).trans b2)
    have Y1 : Y.blk h.nx = some ba := (EY.blk a1).trans ((put_blk_ne _ _ _ _ u1).trans a2)
    have YL := (EY.old (h.nx + 1 + 1 + 1) hLlt).trans (put_get_same _ _ _)
    have Yb : Y.blk h1.nx = some b := Yb
    have gw := Yg i _ (askW_at (by omega : i < 9))
    have i9 : i < 9 := by omega
    simp only [round_eq, hloop, go_sem, u1, u2, u3, c2, c5, c0, w1, Y3, Y2, Y1, Yb, gw, i9, Nat.mul_one]
    refine cnd_go (Q := R) (by kernel_rfl) ?_
    simp only [round_eq, hloop, go_sem, u1, u2, u3, c2, c5, c0, w1, Y3, Y2, Y1, Yb, gw, i9, Nat.mul_one]
    rw [cond_al (i := 13) (d := [])]
    rotate_left
    · kernel_rfl
    have gs : (bc.st 0 (.int .i64 (Int.ofNat (i + 1)))).get 0 = some (.int .i64 (Int.ofNat (i + 1))) := st_get_same _ _ _ (by omega)
    have v1 : h.nx ≠ h.nx + 1 + 1 := by omega
    have v2 : h.nx + 1 ≠ h.nx + 1 + 1 := by omega
    have v3 : h.nx + 1 + 1 + 1 ≠ h.nx + 1 + 1 := by omega
    have v4 : h.nx + 1 + 1 + 1 ≠ h.nx + 1 := by omega
    have v5 : h.nx + 1 + 1 ≠ h.nx + 1 := by omega
    have v6 : h.nx ≠ h.nx + 1 := by omega
    have Ynx := EY.nx
    have Ynx : h1.nx ≤ Y.nx := Ynx
    have Yl : Y.low = min (min h1.low (h.nx + 1 + 1 + 1)) h1.nx := Yl
    have EhY : Ext h Y := (j2.put _ (by omega)).trans EY
    cases hsn : (stop && decide (i + 1 = n)) with
    | true =>
      have hs0 := hsn
      simp at hsn
      have hmi : Int.ofNat (i + 1) = m := by rw [hsn.2, hm hsn.1]
      simp only [round_eq, hloop, go_sem, u1, u2, u3, v1, v2, v3, v4, v5, v6, c2, c3, c4, c5, c0, w1, Y3, Y2, Y1, YL, Yb, gw, i9, Nat.mul_one, gs, a5, b3, b4, hmi, rnd4_ro]
      rw [hR, hs0]
      have gt : (bb.st 0 (.bool true)).get 0 = some (.bool true) := st_get_same _ _ _ (by omega)
      rw [hmi] at gs
      refine ⟨_, rfl, put_get_same _ _ _, ⟨by simp only [go_sem]; omega, ((EhY.put _ (by omega)).put _ (by omega)).put _ (by omega), ⟨by simp only [go_sem]; omega, ba, (put_blk_ne _ _ _ _ u1).trans ((put_blk_ne _ _ _ _ v6).trans ((put_blk_ne _ _ _ _ v1).trans Y1)), a3, a4, a5⟩, ⟨.bool true, ⟨by simp only [go_sem]; omega, _, (put_blk_ne _ _ _ _ u2).trans (put_blk_same _ _ _), by simp only [go_sem, b3], by simp only [go_sem, b4], gt⟩, fun _ _ => rfl⟩, ⟨by simp only [go_sem]; omega, _, (put_blk_ne _ _ _ _ u3).trans ((put_blk_ne _ _ _ _ v5).trans (put_blk_same _ _ _)), by simp only [go_sem, c3], by simp only [go_sem, c4], by rw [hmi]; exact gs⟩⟩, by simp only [go_sem]; omega, by simp only [go_sem]; omega, by simp only [go_sem]; omega⟩
    | false =>
      have hmi := hno i hi hsn
      simp only [round_eq, hloop, go_sem, u1, u2, u3, v1, v2, v3, v4, v5, v6, c2, c3, c4, c5, c0, w1, Y3, Y2, Y1, YL, Yb, gw, i9, Nat.mul_one, gs, a5, b3, b4, hmi]
      rw [hR, hsn]
      refine ⟨_, rfl, put_get_same _ _ _, ⟨by simp only [go_sem]; omega, (EhY.put _ (by omega)).put _ (by omega), ⟨by simp only [go_sem]; omega, ba, (put_blk_ne _ _ _ _ u1).trans ((put_blk_ne _ _ _ _ v1).trans Y1), a3, a4, a5⟩, ⟨v, ⟨by simp only [go_sem]; omega, bb, (put_blk_ne _ _ _ _ u2).trans ((put_blk_ne _ _ _ _ v2).trans Y2), b3, b4, b5⟩, fun e1 e2 => by rw [e1, e2] at hsn; simp at hsn⟩, ⟨by simp only [go_sem]; omega, _, (put_blk_ne _ _ _ _ u3).trans (put_blk_same _ _ _), by simp only [go_sem, c3], by simp only [go_sem, c4], gs⟩⟩, by simp only [go_sem]; omega, by simp only [go_sem]; omega, by simp only [go_sem]; omega⟩
  · intro Z hloop ⟨j1, j2, ⟨a1, ba, a2, a3, a4, a5⟩, ⟨v, ⟨b1, bb, b2, b3, b4, b5⟩, j5⟩, ⟨c1, bc, c2, c3, c4, c5⟩⟩ hZB
    have Zl : h.nx ≤ Z.low := hZB (by show h.nx ≤ min h.nx (h.nx + 1 + 1); omega)
    cases hs : stop with
    | true =>
      rw [hs] at hloop
      obtain rfl := j5 hs rfl
      simp only [go_sem, hloop, cond_true, cond_false, loOut_eq, b2, b5]
      rw [hQ]
      obtain ⟨x, e, E⟩ := fin_ext (j2.put (id := h.nx + 1 + 1 + 1) _ (by omega)) (.bool true)
      exact ⟨x, congrArg some e, E⟩
    | false =>
      rw [hs] at hloop
      have h9 := hns hs
      have n3 : h.nx + 1 + 1 ≠ h.nx + 1 + 1 + 1 := by omega
      have n2 : h.nx + 1 ≠ h.nx + 1 + 1 + 1 := by omega
      rw [h9] at c5
      have c9 : Int.ofNat 9 = 9 := rfl
      simp only [go_sem, hloop, cond_true, cond_false, c2, c5, b2, b3, b4, n3, n2, c9]
      rw [hQ]
      obtain ⟨x, e, E⟩ := fin_ext ((j2.put (id := h.nx + 1 + 1 + 1) _ (by omega)).put (id := h.nx + 1) _ (by omega)) (.bool true)
      exact ⟨x, congrArg some e, E⟩
end
end Go.Cl.Sh
