/- The program's functions, run by the rewriting evaluator: what each answers and leaves (DkC). -/
import Derived.Test.YtadmgnlmoodjeaaDkB
set_option linter.all false
open Go Go.Cl Go.Proofs
namespace Go.Cl.Sh
noncomputable section
variable {σ : Sums}
set_option maxRecDepth 1000000

def NewR (h : H) (n : Nat) (r : Option (CV × Option H)) : Prop :=
  ∃ h' d lid mid, r = some (.tup [.ptr d 0, .int .i64 0], some h') ∧ Ext h h' ∧ h'.low = min h.low h.nx ∧ h.nx ≤ d ∧ h.nx ≤ lid ∧ h.nx ≤ mid ∧ DkOk h' d lid mid n (List.replicate n (zs 256)) [] 0
theorem new_run (hσ : ∀ f a h, dkf f = true → σ f a h = none) {h : H} {n : Nat} (h1 : 1 ≤ n) (h2 : n ≤ 1000) : NewR h n ((lim Try.prog σ).call 7 [.int .i64 (Int.ofNat n)] h) := by
  obtain ⟨Q, hQ⟩ : ∃ Q, Q = NewR h n := ⟨_, rfl⟩
  rw [← hQ]
  rw [call_eq (hσ _ _ _ rfl) fn_7 rfl rfl, Try.ntmps7, Try.results7]
  have c1 : ¬ Int.ofNat n < 1 := by simp; omega
  have c2 : ¬ Int.ofNat n > 1000 := by simp; omega
  obtain ⟨lb, hlb⟩ : ∃ lb : Blk, lb = { n := n * 256, d := bc (zs 256), t := .nil } := ⟨_, rfl⟩
  have hmk : mkS h.lo 256 256 (zeroT Try.prog 33) n n = some (.sl h.nx 0 n (.exact n), h.lo.alloc (.cells lb)) := by
    unfold mkS
    have hz : (zs 256).length = 256 := rfl
    rw [ze_blk, Option.bind_some]
    simp only [CV.cells, bc_len, hz, bc_one]
    rw [show Nat.ble n n = true by rw [ble_eq']; exact decide_eq_true (Nat.le_refl _), show Nat.ble (n * 256) 70368744177664 = true by rw [ble_eq']; exact decide_eq_true (by omega), show Nat.ble n 70368744177664 = true by rw [ble_eq']; exact decide_eq_true (by omega)]
    rw [hlb]; rfl
  simp only [go_sem, c1, c2, hmk]
  have ho : okB h.nx (.tup [.ptr (h.nx + 1 + 1) 0, .int .i64 0]) = false := by
    rw [okB_tup, okBL_cons, okB_ptr, blt_eq', decide_eq_false (by omega)]; rfl
  rw [fin_new _ _ _ ho, hQ]
  obtain ⟨db, hdb⟩ : ∃ db, db = newBlk [CV.sl h.nx 0 n (Cap.exact n), CV.map (h.nx + 1), CV.bool false, CV.int IntKind.i64 0, CV.bool false, CV.bool false] := ⟨_, rfl⟩
  rw [← hdb]
  have dg : ∀ i, db.get i = nth [CV.sl h.nx 0 n (Cap.exact n), CV.map (h.nx + 1), CV.bool false, CV.int IntKind.i64 0, CV.bool false, CV.bool false] i := fun i => by rw [hdb, newBlk_get]
  have B : DkB db h.nx (h.nx + 1) n := ⟨by rw [hdb, wnewBlk_n]; rfl, by rw [hdb, newBlk_ro], dg 0, dg 1, dg 2, dg 3, dg 4, dg 5⟩
  have lg : ∀ i, i < n * 256 → lb.get i = some (u8 0) := fun i hi => by
    rw [hlb]; unfold Blk.get
    rw [show Nat.blt i (n * 256) = true by rw [blt_eq']; exact decide_eq_true hi]
    show nth (bc (zs 256)) (i % (bc (zs 256)).length) = _
    have hm : i % 256 < 256 := Nat.mod_lt _ (by decide)
    rw [bc_len, show (zs 256).length = 256 from rfl, nth_eq]
    unfold bc zs
    rw [List.getElem?_map, List.getElem?_replicate, if_pos hm]; rfl
  refine ⟨_, h.nx + 1 + 1, h.nx, h.nx + 1, rfl, ((((Ext.lo h).alloc' _).alloc' _).alloc' _).up' _, rfl, by omega, Nat.le_refl _, by omega, DkOk.up ?_ _⟩
  refine ⟨by simp only [alloc_nx, lo_nx]; omega, by simp only [alloc_nx, lo_nx]; omega, by simp only [alloc_nx, lo_nx]; omega, ⟨db, alloc_blk_same _ _ _ rfl, B⟩, ⟨lb, ?_, by rw [hlb], by rw [hlb], fun i x hx => ?_⟩, List.length_replicate, by omega, h2, fun x hx => ?_, ?_, ⟨List.nodup_nil, fun e he => absurd he (by simp), List.nodup_nil, fun e he => absurd he (by simp), fun e he => absurd he (by simp)⟩, by omega, fun e he => absurd he (by simp), fun k hk => absurd hk (by simp [keysE])⟩
  · rw [alloc_blk_ne _ _ _ (by simp only [alloc_nx, lo_nx]; omega), alloc_blk_ne _ _ _ (by simp only [alloc_nx, lo_nx]; omega)]; exact alloc_blk_same _ _ _ rfl
  · rw [List.getElem?_replicate] at hx
    split at hx
    · cases hx
      rename_i hi
      refine loadN_of _ _ _ rfl fun j v hv => ?_
      have hj := nlt hv
      have hj : j < 256 := hj
      rw [lg _ (by omega), ← hv, nth_eq]
      unfold bc zs
      rw [List.getElem?_map, List.getElem?_replicate, if_pos hj]; rfl
    · cases hx
  · rw [List.eq_of_mem_replicate hx]; rfl
  · rw [alloc_mp_ne (by simp only [alloc_nx, lo_nx]; omega)]
    unfold H.mp; rw [alloc_get, if_pos (by simp only [alloc_nx, lo_nx])]; rfl
theorem num_run (hσ : ∀ a h, σ 10 a h = none) {h : H} (z : Int) : (lim Try.prog σ).call 10 [.int .i64 z] h = some (.int .i64 z, none) := by
  rw [call_eq (hσ _ _) fn_10 rfl rfl, Try.ntmps10, Try.results10]
  simp only [go_sem]
  rw [fin_q _ _ _ rfl rfl]
theorem fill_run (hσ : ∀ a h, σ 9 a h = none) {h : H} (b : Nat) : (lim Try.prog σ).call 9 [u8 b] h = some (.agg (bc (List.replicate 256 b)), none) := by
  obtain ⟨Q, hQ⟩ : ∃ Q : Option (CV × Option H) → Prop, Q = fun r => r = some (.agg (bc (List.replicate 256 b)), none) := ⟨_, rfl⟩
  suffices Q _ by rw [hQ] at this; exact this
  rw [call_eq (hσ _ _) fn_9 rfl rfl, Try.ntmps9, Try.results9]
  obtain ⟨nb, hnb⟩ : ∃ nb, nb = allocB 33 (bc (zs 256)) := ⟨_, rfl⟩
  have hz : (zs 256).length = 256 := rfl
  have nbn : nb.n = 256 := by rw [hnb, allocB_n, bc_len, hz]
  have nbr : nb.ro = false := by rw [hnb, aB_r]
  simp only [go_sem, ze_blk, ← hnb, bc_one]
  refine loop_ind (Q := Q) (fun i env h' => evT env 0 = u8 b ∧ evT env 2 = .ptr h.nx 0 ∧ evT env 3 = .ptr (h.nx + 1) 0 ∧ evT env 4 = .int .i64 (Int.ofNat i) ∧ h'.nx = h.nx + 2 ∧ h'.low = h.nx ∧ h'.blk h.nx = some nb ∧
    ∃ bb, h'.blk (h.nx + 1) = some bb ∧ bb.n = 256 ∧ bb.ro = false ∧ ∀ j, j < i → bb.get j = some (u8 b)) 256 0 ?_ (by decide) ?_ ?_
  · refine ⟨by simp only [go_sem], by simp only [go_sem], by simp only [go_sem], by simp only [go_sem]; rfl, by simp only [go_sem], by simp only [go_sem], ?_, nb, ?_, nbn, nbr, fun j hj => by omega⟩
    · simp only [go_sem]; rw [hnb]
    · simp only [go_sem]; rw [hnb]
  · rintro i env h' ⟨a0, a2, a3, a4, nx, lw, b1, bb, hb, hn, hr, hg⟩ hi next
    have c0 : Int.ofNat i < 256 := by simp; omega
    have hs := wrap_succ (i := i) (by omega)
    simp only [go_sem, a0, a2, a3, a4, c0, hi, hb, hn, hr, hs, Nat.zero_add, Nat.mul_one]
    refine next _ _ ⟨by simp only [go_sem, a0], by simp only [go_sem, a2], by simp only [go_sem, a3], by simp only [go_sem], nx, by simp only [go_sem, lw]; omega, ?_, _, put_blk_same _ _ _, by rw [st_n]; exact hn, by rw [st_ro]; exact hr, fun j hj => ?_⟩
    · rw [put_blk_ne _ _ _ _ (by omega)]; exact b1
    · by_cases q : j = i
      · subst q; rw [st_get_same _ _ _ (by omega)]
      · rw [st_get_ne _ _ _ _ q]; exact hg j (by omega)
  · rintro env h' ⟨a0, a2, a3, a4, nx, lw, b1, bb, hb, hn, hr, hg⟩
    have c0 : ¬ Int.ofNat 256 < 256 := by decide
    have hlr : (List.replicate 256 b).length = 256 := List.length_replicate
    have hld : bb.loadN 0 256 = some (bc (List.replicate 256 b)) := loadN_of _ _ _ (by rw [bc_len, hlr]) fun i v hv => by
      have hi := nlt hv
      rw [bc_len, hlr] at hi
      rw [Nat.zero_add, hg i hi, ← hv, nth_eq]
      unfold bc; rw [List.getElem?_map, List.getElem?_replicate, if_pos hi]; rfl
    simp only [go_sem, a0, a2, a3, a4, c0, hb, hld, b1, bc_one, bc_len, hlr, nbr]
    refine store_step (Q := Q) (by rw [bc_len, hlr, nbn]) (bc_one _) fun b' h1 h2 h3 h4 => ?_
    rw [nbn] at h3
    simp only [go_sem, a2, h3]
    rw [fin_q _ _ _ (by simp only [go_sem, lw]; omega) (okB_bc _ _), hQ]
end
end Go.Cl.Sh

namespace Go.Cl.Sh
noncomputable section
variable {σ : Sums}
set_option maxRecDepth 1000000

theorem write_bad (hσ : ∀ f a h, dkf f = true → σ f a h = none) {h : H} {d lid mid n : Nat} {last : List (List Nat)} {es : List En} {c : Nat} (D : DkOk h d lid mid n last es c) {i : Int} (hi : ¬ (0 ≤ i ∧ i < Int.ofNat n)) {x : List Nat} (hx : x.length = 256) :
    (lim Try.prog σ).call 15 [.ptr d 0, .int .i64 i, .agg (bc x)] h = some (.int .i64 2, none) := by
  obtain ⟨Q, hQ⟩ : ∃ Q : Option (CV × Option H) → Prop, Q = fun r => r = some (.int .i64 2, none) := ⟨_, rfl⟩
  suffices Q _ by rw [hQ] at this; exact this
  rw [call_eq (hσ _ _ _ rfl) fn_15 rfl rfl, Try.ntmps15, Try.results15]
  have D1 : ∀ o, DkOk (h.lo.alloc o) d lid mid n last es c := fun o => D.ext ((Ext.lo h).alloc' _)
  have e1 : ∀ o, (lim Try.prog σ).call 28 [.ptr d 0, .int .i64 i] (h.lo.alloc o) = some (.int .i64 2, none) := fun o => by
    obtain ⟨b, hb, B⟩ := (D1 o).db
    rw [there_run hσ hb B D.npos D.nle, if_neg hi]
  simp only [go_sem, e1, bc_one, bc_len, hx]
  rw [fin_q _ _ _ (by simp only [go_sem]) rfl, hQ]
structure St where
  (k n : Int) (f : Nat) (pv : CV) (pn : Nat)
def St.cs (s : St) : List CV := [.int .i64 s.k, .int .i64 s.n, u8 s.f, s.pv]
def toldL (f : FuncId) : Bool := Nat.beq f 12 || Nat.beq f 5
theorem dkf_told {f : FuncId} (h : dkf f = true) : toldL f = false := by
  have : ∀ f, f < 100 → dkf f = true → toldL f = false := by decide +kernel
  by_cases q : f < 100
  · exact this f q h
  · unfold toldL
    have h1 : Nat.beq f 12 = false := by rw [beq_eq']; exact decide_eq_false fun e => q (by rw [e]; decide)
    have h2 : Nat.beq f 5 = false := by rw [beq_eq']; exact decide_eq_false fun e => q (by rw [e]; decide)
    rw [h1, h2]; rfl
def DoW (h : H) (d lid mid n : Nat) (last : List (List Nat)) (es : List En) (s : St) (r : Option (CV × Option H)) : Prop :=
  if 0 ≤ s.n ∧ s.n < Int.ofNat n then
    ∃ h' es' c', r = some (.int .i64 0, some h') ∧ DkTo h h' d lid mid n last es last es' c' ∧ h'.low ≤ mid ∧ ∀ y, vsOf es' y = if y = s.n.toNat then vsOf es y ++ [List.replicate 256 s.f] else vsOf es y
  else r = some (.int .i64 2, none)
theorem do1_run (hσ : ∀ f a h, toldL f = false → σ f a h = none) {h : H} {d lid mid n : Nat} {last : List (List Nat)} {es : List En} {c : Nat} (D : DkOk h d lid mid n last es c) {s : St} (hs : s.k = 1) (ho : s.pv.one = true) (hbig : ∀ y, (vsOf es y).length < 1000000) :
    DoW h d lid mid n last es s ((lim Try.prog σ).call 8 [.ptr d 0, .agg s.cs] h) := by
  have hσ1 : ∀ f a h, dkf f = true → σ f a h = none := fun f a h q => hσ f a h (dkf_told q)
  obtain ⟨Q, hQ⟩ : ∃ Q, Q = DoW h d lid mid n last es s := ⟨_, rfl⟩
  rw [← hQ]
  rw [call_eq (hσ _ _ _ rfl) fn_8 rfl rfl, Try.ntmps8, Try.results8]
  obtain ⟨sb, hsb⟩ : ∃ sb, sb = allocB 35 s.cs := ⟨_, rfl⟩
  obtain ⟨X, hX⟩ : ∃ X, X = h.lo.alloc (.cells sb) := ⟨_, rfl⟩
  have XE : Ext h X := by rw [hX]; exact (Ext.lo h).alloc' _
  have Xb : X.blk h.nx = some sb := by rw [hX]; exact alloc_blk_same _ _ _ rfl
  have Xl : X.low = h.nx := by rw [hX]; rfl
  have g0 : sb.get 0 = some (.int .i64 1) := by rw [hsb, aB_g, ← hs]; rfl
  have g1 : sb.get 1 = some (.int .i64 s.n) := by rw [hsb, aB_g]; rfl
  have g2 : sb.get 2 = some (u8 s.f) := by rw [hsb, aB_g]; rfl
  have hall : s.cs.all CV.one = true := by
    show (true && (true && (true && (s.pv.one && true)))) = true
    rw [ho]; rfl
  have e1 : ∀ h, (lim Try.prog σ).call 9 [u8 s.f] h = some (.agg (bc (List.replicate 256 s.f)), none) := fun h => fill_run (fun a h => hσ _ a h rfl) _
  have e2 : ∀ h z, (lim Try.prog σ).call 10 [.int .i64 z] h = some (.int .i64 z, none) := fun h z => num_run (fun a h => hσ _ a h rfl) _
  have D1 := D.ext XE
  have hrl : (List.replicate 256 s.f).length = 256 := List.length_replicate
  simp only [go_sem, ← hsb, ← hX, hall, Xb, g0, g1, g2, e1, e2]
  refine cnd_go (Q := Q) (by kernel_rfl) ?_
  by_cases hr : 0 ≤ s.n ∧ s.n < Int.ofNat n
  · obtain ⟨k, hk⟩ := Int.eq_ofNat_of_zero_le hr.1
    have hk' : s.n = Int.ofNat k := hk
    have hkn : k < n := by have := hr.2; rw [hk'] at this; simpa using this
    obtain ⟨h', es', c', ew, T, lw, hv⟩ := write_run hσ1 D1 hkn hrl (hbig k)
    rw [← hk'] at ew
    simp only [go_sem, ← hsb, ← hX, hall, Xb, g0, g1, g2, e1, e2, ew]
    refine cnd_go (Q := Q) (by kernel_rfl) ?_
    have Xn : X.nx = h.nx + 1 := by rw [hX]; rfl
    have hn1 : h'.blk h.nx = some sb := by
      unfold H.blk
      rw [T.fr.old h.nx (by omega) ?_]
      · exact Xb
      · rintro (q | q | ⟨e, he, q⟩)
        · have := D.llt; omega
        · have := D.mlt; omega
        · have := D.idlt he; omega
    have bi : ∀ k z, beqC (.int k z) (.int k z) = true := fun k z => by simp [beqC]
    simp only [go_sem, ← hsb, ← hX, hall, Xb, g0, g1, g2, e1, e2, ew, hn1, bi, beqC_bc]
    rw [fin_l _ _ _ (by have := D.mlt; omega), hQ]
    unfold DoW
    rw [if_pos hr]
    refine ⟨_, es', c', rfl, T.base XE Xl D.llt, by show min h.low h'.low ≤ mid; omega, fun y => ?_⟩
    rw [hv y, hk']
    by_cases q : y = k
    · subst q; rw [if_pos rfl]; simp
    · rw [if_neg q, if_neg (by simpa using q)]
  · have ew := write_bad hσ1 D1 hr hrl
    simp only [go_sem, ← hsb, ← hX, hall, Xb, g0, g1, g2, e1, e2, ew]
    rw [fin_q _ _ _ Xl rfl, hQ]
    unfold DoW
    rw [if_neg hr]
theorem do2_run (hσ : ∀ f a h, toldL f = false → σ f a h = none) (hO : OpenTold σ) {h : H} {d lid mid n : Nat} {last : List (List Nat)} {es : List En} {c : Nat} (D : DkOk h d lid mid n last es c) {s : St} (hs : s.k = 2) (ho : s.pv.one = true) :
    FlushR h d lid mid n last es ((lim Try.prog σ).call 8 [.ptr d 0, .agg s.cs] h) := by
  have hσ1 : ∀ f a h, dkf f = true → σ f a h = none := fun f a h q => hσ f a h (dkf_told q)
  obtain ⟨Q, hQ⟩ : ∃ Q, Q = FlushR h d lid mid n last es := ⟨_, rfl⟩
  rw [← hQ]
  rw [call_eq (hσ _ _ _ rfl) fn_8 rfl rfl, Try.ntmps8, Try.results8]
  obtain ⟨sb, hsb⟩ : ∃ sb, sb = allocB 35 s.cs := ⟨_, rfl⟩
  obtain ⟨X, hX⟩ : ∃ X, X = h.lo.alloc (.cells sb) := ⟨_, rfl⟩
  have XE : Ext h X := by rw [hX]; exact (Ext.lo h).alloc' _
  have Xb : X.blk h.nx = some sb := by rw [hX]; exact alloc_blk_same _ _ _ rfl
  have Xl : X.low = h.nx := by rw [hX]; rfl
  have g0 : sb.get 0 = some (.int .i64 2) := by rw [hsb, aB_g, ← hs]; rfl
  have hall : s.cs.all CV.one = true := by
    show (true && (true && (true && (s.pv.one && true)))) = true
    rw [ho]; rfl
  have e2 : ∀ h z, (lim Try.prog σ).call 10 [.int .i64 z] h = some (.int .i64 z, none) := fun h z => num_run (fun a h => hσ _ a h rfl) _
  have D1 := D.ext XE
  obtain ⟨x, last', es', c', ew, T, hv, hx, hxn⟩ := flush_run hσ1 hO D1
  simp only [go_sem, ← hsb, ← hX, hall, Xb, g0, e2, ew]
  cases x with
  | none =>
    simp only [go_sem, ← hsb, ← hX, hall, Xb, g0, e2, ew]
    rw [fin_q _ _ _ Xl rfl, hQ]
    obtain ⟨q1, q2⟩ := hxn rfl
    subst q1 q2
    exact ⟨none, last', es', c, rfl, DkTo.refl D, hv, fun h' q => (by cases q), fun _ => ⟨rfl, rfl⟩⟩
  | some h' =>
    simp only [go_sem, ← hsb, ← hX, hall, Xb, g0, e2, ew]
    have hl := hx h' rfl
    rw [fin_l _ _ _ (by have := D.mlt; omega), hQ]
    exact ⟨_, last', es', c', rfl, T.base XE Xl D.llt, hv, fun h2 q => (by cases q; show min h.low h'.low ≤ mid; omega), fun q => by cases q⟩
end
end Go.Cl.Sh

namespace Go.Cl.Sh
noncomputable section
variable {σ : Sums}
set_option maxRecDepth 1000000

def MR (h : H) (v : CV) (id : Nat) (rows : List (List Nat)) : Prop :=
  ∃ off cap b, v = .sl id off rows.length cap ∧ 0 < rows.length ∧ id < h.nx ∧ h.blk id = some b ∧ b.ro = false ∧ b.loadN off (rows.length * 256) = some (rows.flatMap bc) ∧ (∀ x ∈ rows, x.length = 256) ∧ (cap = .exact rows.length ∨ (cap = .opn 256 ∧ b.n = off + rows.length * 256))
theorem flat_len {rows : List (List Nat)} (h : ∀ x ∈ rows, x.length = 256) : (rows.flatMap bc).length = rows.length * 256 := by
  induction rows with
  | nil => rfl
  | cons a l ih =>
    rw [List.flatMap_cons, List.length_append, bc_len, h a (by simp), ih fun x hx => h x (by simp [hx]), List.length_cons]
    omega
theorem flat_one (rows : List (List Nat)) : (rows.flatMap bc).all CV.one = true := List.all_eq_true.2 fun c hc => by
  obtain ⟨r, _, h2⟩ := List.mem_flatMap.1 hc
  exact List.all_eq_true.1 (bc_one r) c h2
theorem load_sub {b : Blk} {off : Nat} {rows : List (List Nat)} (hl : b.loadN off (rows.length * 256) = some (rows.flatMap bc)) (h256 : ∀ x ∈ rows, x.length = 256) {i : Nat} {x : List Nat} (hx : rows[i]? = some x) : b.loadN (off + i * 256) 256 = some (bc x) := by
  have hi := (List.getElem?_eq_some_iff.1 hx).1
  have e : rows.length * 256 = i * 256 + (256 + (rows.length - i - 1) * 256) := by omega
  rw [e, loadN_app, loadN_app] at hl
  cases h1 : b.loadN off (i * 256) with
  | none => rw [h1] at hl; cases hl
  | some A =>
    rw [h1] at hl
    cases h2 : b.loadN (off + i * 256) 256 with
    | none => rw [h2] at hl; cases hl
    | some B =>
      rw [h2] at hl
      cases h3 : b.loadN (off + i * 256 + 256) ((rows.length - i - 1) * 256) with
      | none => rw [h3] at hl; cases hl
      | some C =>
        rw [h3] at hl
        simp only [Option.bind_some, Option.map_some, Option.some.injEq] at hl
        have hA : A.length = i * 256 := (loadN_spec h1).1
        have hB : B.length = 256 := (loadN_spec h2).1
        have hd : rows = rows.take i ++ x :: rows.drop (i + 1) := by
          conv => lhs; rw [← List.take_append_drop i rows]
          rw [List.drop_eq_getElem_cons hi]
          congr 2
          exact (List.getElem?_eq_some_iff.1 hx).2
        rw [hd, List.flatMap_append, List.flatMap_cons] at hl
        have hT : ((rows.take i).flatMap bc).length = i * 256 := by
          rw [flat_len fun y hy => h256 y (List.mem_of_mem_take hy), List.length_take]; congr 1; omega
        obtain ⟨_, hl2⟩ := List.append_inj hl (by rw [hA, hT])
        obtain ⟨hl3, _⟩ := List.append_inj hl2 (by rw [hB, bc_len, h256 x (List.mem_of_getElem? hx)])
        rw [hl3]
theorem MR.frame {h h' : H} {v : CV} {id : Nat} {rows : List (List Nat)} (m : MR h v id rows) (hn : h.nx ≤ h'.nx) (hg : h'.t.get id = h.t.get id) : MR h' v id rows := by
  obtain ⟨off, cap, b, h1, h2, h3, h4, h5⟩ := m
  exact ⟨off, cap, b, h1, h2, by omega, by unfold H.blk; rw [hg]; exact h4, h5⟩
theorem MR.app {h : H} {v : CV} {id : Nat} {rows : List (List Nat)} (m : MR h v id rows) {x : List Nat} (hx : x.length = 256) (hr : rows.length < 1000) :
    ∃ h', appS h 256 256 256 v 1 (some (bc x)) = some (.sl h.nx 0 (rows.length + 1) (.opn 256), h') ∧ MR h' (.sl h.nx 0 (rows.length + 1) (.opn 256)) h.nx (rows ++ [x]) ∧ h'.nx = h.nx + 1 ∧ h'.gn = h.gn ∧
      (∀ k, k < h.nx → k ≠ id → h'.t.get k = h.t.get k) ∧ (h'.low = h.low ∨ h'.low = min h.low id) := by
  obtain ⟨off, cap, b, rfl, h2, h3, hb, hro, hl, h256, hcap⟩ := m
  have hbl : (bc x).length = 256 := by rw [bc_len, hx]
  have hlen : (rows ++ [x]).length = rows.length + 1 := by simp
  have hfl : (rows ++ [x]).flatMap bc = rows.flatMap bc ++ bc x := by rw [List.flatMap_append]; simp
  have h256' : ∀ y ∈ rows ++ [x], y.length = 256 := fun y hy => by
    rcases List.mem_append.1 hy with q | q
    · exact h256 y q
    · simp at q; subst q; exact hx
  have hG : (Nat.blt 0 256 && Nat.ble ((rows.length + 1) * 256) 70368744177664 && Nat.ble (rows.length + 1) 70368744177664 && Nat.beq 256 256 && Nat.beq (bc x).length (1 * 256) && (bc x).all CV.one) = true := by
    rw [hbl, bc_one]
    simp only [blt_eq', ble_eq', beq_eq', Bool.and_eq_true, decide_eq_true_eq]
    exact ⟨⟨⟨⟨⟨by decide, by omega⟩, by omega⟩, trivial⟩, trivial⟩, trivial⟩
  have mk : ∀ (g : H), g.nx = h.nx → MR (g.alloc (.cells (fillB ((rows.length + 1) * 256) (rows.flatMap bc ++ bc x)))) (.sl h.nx 0 (rows.length + 1) (.opn 256)) h.nx (rows ++ [x]) := fun g hg => by
    refine ⟨0, .opn 256, fillB ((rows.length + 1) * 256) (rows.flatMap bc ++ bc x), by rw [hlen], by rw [hlen]; omega, by rw [alloc_nx]; omega, alloc_blk_same _ _ _ hg.symm, fillB_ro _ _, ?_, h256', .inr ⟨rfl, by rw [fillB_n, hlen]; omega⟩⟩
    rw [hfl]
    refine loadN_of _ _ _ (by rw [← hfl, flat_len h256']) fun i w hw => ?_
    rw [Nat.zero_add, fillB_get _ _ _ (by rw [List.length_append, flat_len h256, hbl]; omega)]; exact hw
  rcases hcap with rfl | ⟨rfl, hbn⟩
  · refine ⟨h.alloc (.cells (fillB ((rows.length + 1) * 256) (rows.flatMap bc ++ bc x))), ?_, mk h rfl, rfl, rfl, fun k hk _ => alloc_get_ne _ _ _ (by omega), .inl rfl⟩
    unfold appS
    rw [lenC_sl, bind_some', bind_some', hG, cond_true]
    dsimp only
    rw [ble_eq', decide_eq_false (by omega), cond_false, hb, bind_some', hl, bind_some']
    rfl
  · by_cases q : off = 0
    · subst q
      have L : Lst h 256 (.sl id 0 rows.length (.opn 256)) id rows.length (rows.flatMap bc) := ⟨flat_len h256, .inr ⟨h2, rfl, h3, b, hb, hro, by omega, fun i => by
        by_cases qi : i < rows.length * 256
        · obtain ⟨_, hg⟩ := loadN_spec hl
          have := hg i qi
          rw [Nat.zero_add] at this; rw [this, nth_eq]
        · rw [nth_none _ _ (by rw [flat_len h256]; omega)]; exact get_none (by omega)⟩⟩
      obtain ⟨h', e, L', a1, a2, a3, a4, a5⟩ := app_Lst (by_ := 256) (zl := 256) L (m := 1) (by decide) hbl (bc_one x) rfl (by decide) (by omega) (by omega)
      refine ⟨h', e, ?_, a1, a2, fun k hk hne => a3 k hk fun _ => hne, a5⟩
      rcases L'.val with ⟨q0, _⟩ | ⟨_, _, hid, b', hb', hro', hbn', hbg'⟩
      · omega
      · refine ⟨0, .opn 256, b', by rw [hlen], by rw [hlen]; omega, hid, hb', hro', ?_, h256', .inr ⟨rfl, by rw [hbn', hlen]; omega⟩⟩
        rw [hfl]
        exact loadN_of _ _ _ (by rw [← hfl, flat_len h256']) fun i w hw => by rw [Nat.zero_add, hbg']; exact hw
    · refine ⟨(h.kill id).alloc (.cells (fillB ((rows.length + 1) * 256) (rows.flatMap bc ++ bc x))), ?_, mk (h.kill id) rfl, rfl, rfl, fun k hk hne => by rw [alloc_get_ne _ _ _ (by rw [kill_nx]; omega), kill_get_ne _ _ _ hne], .inr rfl⟩
      unfold appS
      rw [lenC_sl, bind_some', bind_some', hG, cond_true]
      dsimp only
      rw [beq_eq', decide_eq_true rfl, cond_true, hb, bind_some', hro, cond_false, ble_eq', decide_eq_false (by omega), cond_false, show Nat.beq 1 0 = false from rfl, cond_false, beq_eq', decide_eq_false q, Bool.false_and, cond_false, hl, bind_some']
      rfl
theorem MR.len {h : H} {v : CV} {id : Nat} {rows : List (List Nat)} (m : MR h v id rows) (h' : H) (ts : List TypeId) (az : List CV) : builtinT Try.prog h' .len (30 :: ts) (v :: az) = some (.val (.int .i64 (Int.ofNat rows.length))) := by
  obtain ⟨off, cap, b, rfl, _⟩ := m
  exact len_30 _ _ _ _ _ _ _
theorem MR.get {h : H} {v : CV} {id : Nat} {rows : List (List Nat)} (m : MR h v id rows) {i : Nat} {x : List Nat} (hx : rows[i]? = some x) :
    ∃ off b, (∀ kd, indexAddrT Try.prog 30 v (.int kd (Int.ofNat i)) = some (.ptr id off)) ∧ h.blk id = some b ∧ b.loadN off 256 = some (bc x) := by
  obtain ⟨off, cap, b, rfl, h2, h3, hb, hro, hl, h256, hcap⟩ := m
  have hi := (List.getElem?_eq_some_iff.1 hx).1
  exact ⟨off + i * 256, b, fun kd => by rw [ia_30]; simp only [go_sem, hi], hb, load_sub hl h256 hx⟩
theorem MR.one {h : H} {v : CV} {id : Nat} {rows : List (List Nat)} (m : MR h v id rows) : v.one = true ∧ v.cells = [v] ∧ beqC v v = true := by
  obtain ⟨off, cap, b, rfl, h2, h3, hb, hro, hl, h256, rfl | ⟨rfl, _⟩⟩ := m <;> exact ⟨rfl, rfl, by simp [beqC]⟩
theorem MR.cut {h : H} {v : CV} {id : Nat} {rows : List (List Nat)} (m : MR h v id rows) {x : List Nat} (hx : rows.getLast? = some x) :
    ∃ v', sliceT Try.prog h 30 v (some (.int .i64 (Int.ofNat (rows.length - 1)))) none none = some v' ∧ MR h v' id [x] := by
  obtain ⟨off, cap, b, rfl, h2, h3, hb, hro, hl, h256, hcap⟩ := m
  rw [List.getLast?_eq_getElem?] at hx
  have hld := load_sub hl h256 hx
  have hx256 := h256 x (List.mem_of_getElem? hx)
  have hone : ([x] : List (List Nat)).flatMap bc = bc x := by simp
  rcases hcap with rfl | ⟨rfl, hbn⟩
  · refine ⟨.sl id (off + (rows.length - 1) * 256) 1 (.exact 1), ?_, _, _, b, rfl, by simp, h3, hb, hro, ?_, fun y hy => by simp at hy; subst hy; exact hx256, .inl rfl⟩
    · simp only [sliceT, Try.underlying30, Option.bind_some, sz_33, sliceExact, bnd, toN, Int.ofNat_eq_natCast]
      have hne : ¬ rows.length = rows.length - 1 := by omega
      simp [ble_eq', beq_eq', hne, show rows.length - (rows.length - 1) = 1 by omega]
    · rw [hone]; exact hld
  · refine ⟨.sl id (off + (rows.length - 1) * 256) 1 (.opn 256), ?_, _, _, b, rfl, by simp, h3, hb, hro, ?_, fun y hy => by simp at hy; subst hy; exact hx256, .inr ⟨rfl, by rw [hbn]; simp; omega⟩⟩
    · have hk : (b.n - off) / 256 = rows.length := by rw [hbn]; omega
      simp only [sliceT, Try.underlying30, Option.bind_some, sz_33, capK, hb, bnd, toN, Int.ofNat_eq_natCast]
      simp [ble_eq', beq_eq', blt_eq', hk, show rows.length - 1 < rows.length by omega, show rows.length - (rows.length - 1) = 1 by omega]
    · rw [hone]; exact hld
end
end Go.Cl.Sh

namespace Go.Cl.Sh
noncomputable section
variable {σ : Sums}
set_option maxRecDepth 1000000

theorem DkOk.keep {h h' : H} {d lid mid n : Nat} {last : List (List Nat)} {es : List En} {c : Nat} (D : DkOk h d lid mid n last es c) (hn : h.nx ≤ h'.nx) (hg : ∀ k, (k = d ∨ dkS lid mid es k) → h'.t.get k = h.t.get k) : DkOk h' d lid mid n last es c := by
  refine ⟨by have := D.dlt; omega, by have := D.llt; omega, by have := D.mlt; omega, ?_, ?_, D.len, D.npos, D.nle, D.l256, ?_, ?_, D.ne1, D.ne2, D.kn⟩
  · obtain ⟨b, hb, B⟩ := D.db
    exact ⟨b, by unfold H.blk; rw [hg d (.inl rfl)]; exact hb, B⟩
  · obtain ⟨l, hl, hl2⟩ := D.lb
    exact ⟨l, by unfold H.blk; rw [hg lid (.inr (.inl rfl))]; exact hl, hl2⟩
  · unfold H.mp; rw [hg mid (.inr (.inr (.inl rfl)))]; exact D.mp
  · exact ⟨D.en.keys, D.en.ids, D.en.born, D.en.lt, fun e he => ⟨(D.en.row e he).1.mono hn fun _ => by unfold H.blk; rw [hg e.id (.inr (.inr (.inr ⟨e, he, rfl⟩)))], (D.en.row e he).2⟩⟩
structure May (h : H) (mb n : Nat) (R : Nat → List (List Nat)) (idf : Nat → Nat) : Prop where
  lt : mb < h.nx
  blk : ∃ b, h.blk mb = some b ∧ b.n = 20 ∧ b.ro = false ∧ ∀ j, j < n → ∃ v, b.get j = some v ∧ MR h v (idf j) (R j)
  inj : ∀ i j, i < n → j < n → idf i = idf j → i = j
  ne : ∀ j, j < n → idf j ≠ mb
theorem May.keep {h h' : H} {mb n : Nat} {R : Nat → List (List Nat)} {idf : Nat → Nat} (M : May h mb n R idf) (hn : h.nx ≤ h'.nx) (hg : ∀ k, (k = mb ∨ ∃ j, j < n ∧ k = idf j) → h'.t.get k = h.t.get k) : May h' mb n R idf := by
  obtain ⟨b, hb, h1, h2, h3⟩ := M.blk
  refine ⟨by have := M.lt; omega, ⟨b, by unfold H.blk; rw [hg mb (.inl rfl)]; exact hb, h1, h2, fun j hj => ?_⟩, M.inj, M.ne⟩
  obtain ⟨v, hv, m⟩ := h3 j hj
  exact ⟨v, hv, m.frame hn (hg _ (.inr ⟨j, hj, rfl⟩))⟩
theorem MR.lt {h : H} {v : CV} {id : Nat} {rows : List (List Nat)} (m : MR h v id rows) : id < h.nx := by
  obtain ⟨off, cap, b, h1, h2, h3, _⟩ := m; exact h3
/-- a row is put in its place -/
theorem May.put {h h2 : H} {mb n : Nat} {R : Nat → List (List Nat)} {idf : Nat → Nat} (M : May h mb n R idf) (hn20 : n ≤ 20) {k : Nat} (hk : k < n) {b : Blk} (hb : h2.blk mb = some b) (hbn : b.n = 20) (hbr : b.ro = false) (hgb : ∀ j, j < n → j ≠ k → ∃ v, b.get j = some v ∧ MR h v (idf j) (R j))
    {v : CV} {id : Nat} {rows : List (List Nat)} (m : MR h2 v id rows) (hn : h.nx ≤ h2.nx) (hnew : id = idf k ∨ h.nx ≤ id) (hne : id ≠ mb) (hg : ∀ i, i < h.nx → i ≠ idf k → h2.t.get i = h.t.get i) :
    May (h2.put mb (.cells (b.st k v))) mb n (fun j => if j = k then rows else R j) (fun j => if j = k then id else idf j) := by
  have hlt := M.lt
  have hid : ∀ j, j < n → idf j < h.nx := fun j hj => by
    obtain ⟨_, _, _, _, h3⟩ := M.blk
    obtain ⟨_, _, m⟩ := h3 j hj
    exact m.lt
  refine ⟨by show mb < h2.nx; omega, ⟨b.st k v, put_blk_same _ _ _, by rw [st_n]; exact hbn, by rw [st_ro]; exact hbr, fun j hj => ?_⟩, fun i j hi hj e => ?_, fun j hj => ?_⟩
  · by_cases q : j = k
    · subst q
      refine ⟨v, by rw [st_get_same _ _ _ (by omega)], ?_⟩
      rw [if_pos rfl, if_pos rfl]
      exact m.frame (Nat.le_refl _) (put_get_ne _ _ _ _ hne)
    · obtain ⟨w, hw, mw⟩ := hgb j hj q
      refine ⟨w, by rw [st_get_ne _ _ _ _ q]; exact hw, ?_⟩
      rw [if_neg q, if_neg q]
      refine mw.frame hn ?_
      rw [put_get_ne _ _ _ _ (M.ne j hj), hg _ (hid j hj) fun e => q (M.inj j k hj hk e)]
  · skip
    by_cases qi : i = k <;> by_cases qj : j = k
    · rw [qi, qj]
    · rw [if_pos qi, if_neg qj] at e
      rcases hnew with r | r
      · exact absurd (M.inj j k hj hk (e.symm.trans r)) qj
      · have := hid j hj; omega
    · rw [if_neg qi, if_pos qj] at e
      rcases hnew with r | r
      · exact absurd (M.inj i k hi hk (e.trans r)) qi
      · have := hid i hi; omega
    · rw [if_neg qi, if_neg qj] at e; exact M.inj i j hi hj e
  · skip
    by_cases q : j = k
    · rw [if_pos q]; exact hne
    · rw [if_neg q]; exact M.ne j hj
/-- one more place -/
theorem May.more {h h2 : H} {mb n : Nat} {R : Nat → List (List Nat)} {idf : Nat → Nat} (M : May h mb n R idf) (hn20 : n < 20) {b : Blk} (hb : h2.blk mb = some b) (hbn : b.n = 20) (hbr : b.ro = false) (hgb : ∀ j, j < n → ∃ v, b.get j = some v ∧ MR h v (idf j) (R j))
    {v : CV} {id : Nat} (m : MR h2 v id (R n)) (hn : h.nx ≤ h2.nx) (hnew : h.nx ≤ id) (hg : ∀ i, i < h.nx → h2.t.get i = h.t.get i) :
    May (h2.put mb (.cells (b.st n v))) mb (n + 1) R (fun j => if j = n then id else idf j) := by
  have hlt := M.lt
  have hid : ∀ j, j < n → idf j < h.nx := fun j hj => by
    obtain ⟨_, _, m⟩ := hgb j hj
    exact m.lt
  refine ⟨by show mb < h2.nx; omega, ⟨b.st n v, put_blk_same _ _ _, by rw [st_n]; exact hbn, by rw [st_ro]; exact hbr, fun j hj => ?_⟩, fun i j hi hj e => ?_, fun j hj => ?_⟩
  · by_cases q : j = n
    · subst q
      refine ⟨v, by rw [st_get_same _ _ _ (by omega)], ?_⟩
      rw [if_pos rfl]
      exact m.frame (Nat.le_refl _) (put_get_ne _ _ _ _ (by omega))
    · obtain ⟨w, hw, mw⟩ := hgb j (by omega)
      refine ⟨w, by rw [st_get_ne _ _ _ _ q]; exact hw, ?_⟩
      rw [if_neg q]
      refine mw.frame hn ?_
      rw [put_get_ne _ _ _ _ (M.ne j (by omega)), hg _ (hid j (by omega))]
  · skip
    by_cases qi : i = n <;> by_cases qj : j = n
    · rw [qi, qj]
    · rw [if_pos qi, if_neg qj] at e
      have := hid j (by omega); omega
    · rw [if_neg qi, if_pos qj] at e
      have := hid i (by omega); omega
    · rw [if_neg qi, if_neg qj] at e; exact M.inj i j (by omega) (by omega) e
  · skip
    by_cases q : j = n
    · rw [if_pos q]; omega
    · rw [if_neg q]; exact M.ne j (by omega)
/-- what a block may be -/
def mayR (last : List (List Nat)) (es : List En) (j : Nat) : List (List Nat) := (last[j]?).getD [] :: vsOf es j
structure LS (h0 h : H) (d lid mid n mb : Nat) (last : List (List Nat)) (es : List En) (c : Nat) (R : Nat → List (List Nat)) (idf : Nat → Nat) : Prop where
  ok : DkOk h d lid mid n last es c
  may : May h mb n R idf
  ap : ∀ k, (k = mb ∨ ∃ j, j < n ∧ k = idf j) → ¬ (k = d ∨ dkS lid mid es k)
  ext : Ext h0 h
  b1 : h0.nx ≤ d ∧ h0.nx ≤ lid ∧ h0.nx ≤ mid ∧ h0.nx ≤ mb
  b2 : (∀ e ∈ es, h0.nx ≤ e.id) ∧ ∀ j, j < n → h0.nx ≤ idf j
theorem dkS_ge {h0 : H} {d lid mid : Nat} {es : List En} (h1 : h0.nx ≤ d) (h2 : h0.nx ≤ lid) (h3 : h0.nx ≤ mid) (h4 : ∀ e ∈ es, h0.nx ≤ e.id) {k : Nat} (hk : k < h0.nx) : ¬ (k = d ∨ dkS lid mid es k) := by
  rintro (q | q | q | ⟨e, he, q⟩)
  · omega
  · omega
  · omega
  · have := h4 e he; omega
/-- the disk changed -/
theorem LS.disk {h0 h h' : H} {d lid mid n mb : Nat} {last last' : List (List Nat)} {es es' : List En} {c c' : Nat} {R : Nat → List (List Nat)} {idf : Nat → Nat} (S : LS h0 h d lid mid n mb last es c R idf) (T : DkTo h h' d lid mid n last es last' es' c') : LS h0 h' d lid mid n mb last' es' c' R idf := by
  have hmid : ∀ j, j < n → idf j < h.nx := fun j hj => by
    obtain ⟨_, _, _, _, h3⟩ := S.may.blk
    obtain ⟨_, _, m⟩ := h3 j hj
    exact m.lt
  have hml : ∀ k, (k = mb ∨ ∃ j, j < n ∧ k = idf j) → k < h.nx := fun k hk => by
    rcases hk with rfl | ⟨j, hj, rfl⟩
    · exact S.may.lt
    · exact hmid j hj
  have hnx := S.ext.nx
  refine ⟨T.ok, S.may.keep T.fr.nx fun k hk => T.fr.old k (hml k hk) fun q => S.ap k hk (.inr q), fun k hk => ?_, ⟨Nat.le_trans hnx T.fr.nx, T.fr.gn.trans S.ext.gn, fun k hk => ?_⟩, S.b1, ⟨fun e he => ?_, S.b2.2⟩⟩
  · have hlt := hml k hk
    have ha := S.ap k hk
    rintro (q | q | q | ⟨e, he, q⟩)
    · exact ha (.inl q)
    · exact ha (.inr (.inl q))
    · exact ha (.inr (.inr (.inl q)))
    · rcases T.ids e he with ⟨e0, h1, h2⟩ | h1
      · exact ha (.inr (.inr (.inr ⟨e0, h1, h2.trans q⟩)))
      · omega
  · rw [T.fr.old k (by omega) fun q => dkS_ge S.b1.1 S.b1.2.1 S.b1.2.2.1 S.b2.1 hk (.inr q), S.ext.old k hk]
  · rcases T.ids e he with ⟨e0, h1, h2⟩ | h1
    · rw [← h2]; exact S.b2.1 e0 h1
    · omega
/-- the place's rows changed -/
theorem LS.rows {h0 h h' : H} {d lid mid n mb : Nat} {last : List (List Nat)} {es : List En} {c : Nat} {R R' : Nat → List (List Nat)} {idf idf' : Nat → Nat} (S : LS h0 h d lid mid n mb last es c R idf) (M : May h' mb n R' idf') (hn : h.nx ≤ h'.nx) (hgn : h'.gn = h.gn)
    (hids : ∀ j, j < n → (∃ i, i < n ∧ idf' j = idf i) ∨ h.nx ≤ idf' j) (hg : ∀ k, k < h.nx → k ≠ mb → (∀ j, j < n → k ≠ idf j) → h'.t.get k = h.t.get k) : LS h0 h' d lid mid n mb last es c R' idf' := by
  have hdl : ∀ k, (k = d ∨ dkS lid mid es k) → k < h.nx := fun k hk => by
    rcases hk with rfl | rfl | rfl | ⟨e, he, rfl⟩
    · exact S.ok.dlt
    · exact S.ok.llt
    · exact S.ok.mlt
    · exact S.ok.idlt he
  have hnx := S.ext.nx
  refine ⟨S.ok.keep hn fun k hk => hg k (hdl k hk) (fun q => S.ap k (.inl q) hk) fun j hj q => S.ap k (.inr ⟨j, hj, q⟩) hk, M, fun k hk hd => ?_, ⟨Nat.le_trans hnx hn, hgn.trans S.ext.gn, fun k hk => ?_⟩, S.b1, ⟨S.b2.1, fun j hj => ?_⟩⟩
  · rcases hk with q | ⟨j, hj, q⟩
    · exact S.ap k (.inl q) hd
    · rcases hids j hj with ⟨i, hi, r⟩ | r
      · exact S.ap k (.inr ⟨i, hi, q.trans r⟩) hd
      · have := hdl k hd; omega
  · rw [hg k (by omega) (by have := S.b1.2.2.2; omega) fun j hj => by have := S.b2.2 j hj; omega, S.ext.old k hk]
  · rcases hids j hj with ⟨i, hi, r⟩ | r
    · rw [r]; exact S.b2.2 i hi
    · omega
end
end Go.Cl.Sh

namespace Go.Cl.Sh
noncomputable section
variable {σ : Sums}
set_option maxRecDepth 1000000

def scs (l : List St) : List CV := l.flatMap St.cs
def LenIs (pv : CV) (pn : Nat) : Prop := ∀ h' ts az, builtinT Try.prog h' .len (23 :: ts) (pv :: az) = some (.val (.int .i64 (Int.ofNat pn)))
theorem scs_get : ∀ (l : List St) (i : Nat) (s : St), l[i]? = some s → ∀ j x, j < 4 → nth s.cs j = some x → nth (scs l) (i * 4 + j) = some x
  | [], i, s, h => by simp at h
  | a :: l, 0, s, h => fun j x hj hx => by
    simp at h; subst h
    show nth (a.cs ++ scs l) _ = _
    rw [nth_app, show a.cs.length = 4 from rfl, Nat.zero_mul, Nat.zero_add, if_pos hj]; exact hx
  | a :: l, i + 1, s, h => fun j x hj hx => by
    show nth (a.cs ++ scs l) _ = _
    rw [nth_app, show a.cs.length = 4 from rfl, if_neg (by omega), show (i + 1) * 4 + j - 4 = i * 4 + j by omega]
    exact scs_get l i s (by simpa using h) j x hj hx
theorem cellsOf_int : Try.prog.cellsOf 3 = 1 := by kernel_rfl
theorem cellsOf_u8 : Try.prog.cellsOf 5 = 1 := by kernel_rfl
theorem cellsOf_ints : Try.prog.cellsOf 23 = 1 := by kernel_rfl
theorem szOf_step : szOf Try.prog 35 = some 4 := by kernel_rfl
theorem slice_one {h : H} {t e : TypeId} {v : CV} (r : Rd Try.prog h t [v]) (hu : Try.prog.underlying t = some (.slice e)) : v.one = true := by
  generalize hcs : [v] = cs at r
  cases r with
  | nils ht => simp at hcs; subst hcs; rfl
  | sl0 id ht hid => simp at hcs; subst hcs; rfl
  | sl id len cap b xs ht hid hl hcap hb hro hxl hxg hx => simp at hcs; subst hcs; rfl
  | _ => simp_all
theorem ints_of {h : H} {c : CV} (a : Arg Try.prog h 23 c) : ∃ xs : List Int, Sl Try.prog 23 h c 1 xs.length (xs.map (CV.int .i64)) := by
  have h1 : c.one = true := by rcases a.one with ⟨_, h⟩ | ⟨_, _, h⟩ | h; rw [Try.underlying23] at h; cases h; rw [Try.underlying23] at h; cases h; exact h
  have r := a.rd
  rw [cells_one h1] at r
  obtain ⟨n, xs, _, hx, hs⟩ := r.slice_inv Try.underlying23 sz_3
  obtain ⟨l, hl, hq⟩ := list_of (Q := fun i (b : Int) => xs i = [.int .i64 b]) n fun i hi => by
    obtain ⟨b, hb, _⟩ := (hx i hi).2.int_inv Try.underlying3
    exact ⟨b, hb⟩
  subst hl
  refine ⟨l, hs _ fun i j x hi hj hn => ?_⟩
  have : j = 0 := by omega
  subst this
  rw [Nat.mul_one, Nat.add_zero, nth_eq] at hn
  obtain ⟨g, hg⟩ : ∃ g, l[i]? = some g := ⟨_, List.getElem?_eq_getElem hi⟩
  rw [hq i g hg]
  simp [hg] at hn
  subst hn; rfl
theorem steps_of {h : H} {c : CV} (a : Arg Try.prog h 22 c) : ∃ l : List St, Sl Try.prog 22 h c 4 l.length (scs l) ∧ ∀ s ∈ l, LenIs s.pv s.pn ∧ s.pv.one = true := by
  have h1 : c.one = true := by rcases a.one with ⟨_, h⟩ | ⟨_, _, h⟩ | h; rw [Try.underlying22] at h; cases h; rw [Try.underlying22] at h; cases h; exact h
  have r := a.rd
  rw [cells_one h1] at r
  obtain ⟨n, xs, _, hx, hs⟩ := r.slice_inv Try.underlying22 szOf_step
  obtain ⟨l, hl, hq⟩ := list_of (Q := fun i (p : St) => xs i = p.cs ∧ LenIs p.pv p.pn ∧ p.pv.one = true) n fun i hi => by
    obtain ⟨hlen, r⟩ := hx i hi
    obtain ⟨_, hf⟩ := r.struct_inv Try.underlying35
    have h0 := hf _ (List.mem_cons_self)
    have h1 := hf _ (List.mem_cons_of_mem _ List.mem_cons_self)
    have h2 := hf _ (List.mem_cons_of_mem _ (List.mem_cons_of_mem _ List.mem_cons_self))
    have h3 := hf _ (List.mem_cons_of_mem _ (List.mem_cons_of_mem _ (List.mem_cons_of_mem _ List.mem_cons_self)))
    simp only [cellsOf_int, cellsOf_u8, cellsOf_ints] at h0 h1 h2 h3
    obtain ⟨n0, e0, _⟩ := h0.int_inv Try.underlying3
    obtain ⟨n1, e1, _⟩ := h1.int_inv Try.underlying3
    obtain ⟨n2, e2, o2⟩ := h2.int_inv Try.underlying5
    generalize xs i = ys at *
    match ys, hlen with
    | [y0, y1, y2, y3], _ =>
      simp at e0 e1 e2 h3
      subst e0 e1 e2
      have hn : 0 ≤ n2 := o2.1
      obtain ⟨pn, _, _, _, hps⟩ := h3.slice_inv Try.underlying23 sz_3
      have hSl := hps [] fun i j x _ _ hx => by simp [nth] at hx
      exact ⟨⟨n0, n1, n2.toNat, y3, pn⟩, by
        show _ = [CV.int .i64 n0, .int .i64 n1, u8 n2.toNat, y3]
        rw [show u8 n2.toNat = .int .u8 n2 from by unfold u8; congr 1; exact Int.toNat_of_nonneg hn], hSl.len, slice_one h3 Try.underlying23⟩
  subst hl
  refine ⟨l, hs _ fun i j x hi hj hn => ?_, fun s hs' => ?_⟩
  · obtain ⟨g, hg⟩ : ∃ g, l[i]? = some g := ⟨_, List.getElem?_eq_getElem hi⟩
    rw [(hq i _ hg).1]
    match j, hj with
    | 0, _ => rw [scs_get l i g hg 0 _ (by decide) rfl] at hn; cases hn; rfl
    | 1, _ => rw [scs_get l i g hg 1 _ (by decide) rfl] at hn; cases hn; rfl
    | 2, _ => rw [scs_get l i g hg 2 _ (by decide) rfl] at hn; cases hn; rfl
    | 3, _ => rw [scs_get l i g hg 3 _ (by decide) rfl] at hn; cases hn; rfl
  · obtain ⟨i, hi⟩ := List.getElem?_of_mem hs'
    exact (hq i s hi).2
theorem much_run (hσ : ∀ a h, σ 6 a h = none) {h : H} {v : CV} {l : List St} (P : Sl Try.prog 22 h v 4 l.length (scs l)) (hl : ∀ s ∈ l, LenIs s.pv s.pn ∧ s.pv.one = true) :
    ∃ b : Bool, (lim Try.prog σ).call 6 [v, .int .i64 40] h = some (.bool b, none) ∧ (b = false → l.length ≤ 40) := by
  obtain ⟨Q, hQ⟩ : ∃ Q : Option (CV × Option H) → Prop, Q = fun r => ∃ b : Bool, r = some (.bool b, none) ∧ (b = false → l.length ≤ 40) := ⟨_, rfl⟩
  suffices Q _ by rw [hQ] at this; exact this
  rw [call_eq (hσ _ _) fn_6 rfl rfl, Try.ntmps6, Try.results6]
  simp only [go_sem]
  refine loop_ind (Q := Q) (fun i env h' => evT env 0 = v ∧ evT env 1 = .int .i64 40 ∧ evT env 5 = .int .i64 (Int.ofNat i) ∧ h' = h.lo) (min l.length 41) 0 ?_ (Nat.zero_le _) ?_ ?_
  · exact ⟨by simp only [go_sem], by simp only [go_sem], by simp only [go_sem]; rfl, rfl⟩
  · rintro i env h' ⟨a0, a1, a5, rfl⟩ hi next
    have hil : i < l.length := by omega
    have c1 := ofNat_lt hil
    have c2 : Int.ofNat i ≤ 40 := by simp; omega
    obtain ⟨s, hs⟩ : ∃ s, l[i]? = some s := ⟨_, List.getElem?_eq_getElem hil⟩
    obtain ⟨id, off, b, p1, p2, p3, p4, p5⟩ := P.elt i hil
    have pg : b.get (off + 3) = some s.pv := p5 3 _ (by decide) (scs_get l i s hs 3 _ (by decide) rfl)
    have hln : ∀ h' ts az, builtinT Try.prog h' .len (23 :: ts) (s.pv :: az) = some (.val (.int .i64 (Int.ofNat s.pn))) := (hl s (List.mem_of_getElem? hs)).1
    have hw := wrap_succ (i := i) (by omega)
    by_cases c3 : Int.ofNat s.pn > 1000
    · simp only [go_sem, a0, a1, a5, P.len, c1, c2, c3, p1, p3, pg, hln, hw]
      rw [fin_q _ _ _ rfl rfl, hQ]
      exact ⟨true, rfl, fun q => by cases q⟩
    · simp only [go_sem, a0, a1, a5, P.len, c1, c2, c3, p1, p3, pg, hln, hw]
      exact next _ _ ⟨by simp only [go_sem, a0], by simp only [go_sem, a1], by simp only [go_sem], rfl⟩
  · rintro env h' ⟨a0, a1, a5, rfl⟩
    by_cases ql : l.length ≤ 40
    · have c1 : ¬ Int.ofNat (min l.length 41) < Int.ofNat l.length := by simp; omega
      have c4 : ¬ Int.ofNat l.length > 40 := by simp; omega
      simp only [go_sem, a0, a1, a5, P.len, c1, c4]
      rw [fin_q _ _ _ rfl rfl, hQ]
      exact ⟨_, rfl, fun _ => ql⟩
    · have c2 : ¬ Int.ofNat (min l.length 41) ≤ 40 := by simp; omega
      have c4 : Int.ofNat l.length > 40 := by simp; omega
      by_cases c1 : Int.ofNat (min l.length 41) < Int.ofNat l.length
      · simp only [go_sem, a0, a1, a5, P.len, c1, c2, c4]
        rw [fin_q _ _ _ rfl rfl, hQ]
        exact ⟨true, rfl, fun q => by cases q⟩
      · simp only [go_sem, a0, a1, a5, P.len, c1, c2, c4]
        rw [fin_q _ _ _ rfl rfl, hQ]
        exact ⟨true, rfl, fun q => by cases q⟩
end
end Go.Cl.Sh

namespace Go.Cl.Sh
variable {σ : Sums}
set_option maxRecDepth 1000000

theorem allN_dec {g : Nat → Option Bool} {p : Nat → Bool} : ∀ (n i : Nat), (∀ j, i ≤ j → j < i + n → g j = some (p j)) → allN g n i = some ((List.range' i n).all p)
  | 0, _, _ => rfl
  | n + 1, i, h => by
    simp only [allN, List.range'_succ, List.all_cons]
    rw [h i (Nat.le_refl _) (by omega)]
    cases p i
    · rfl
    · simp only [Option.bind_some, cond_true, Bool.true_and]
      exact allN_dec n (i + 1) fun j h1 h2 => h j (by omega) (by omega)
theorem eqIn_a {P : Program} {fuel n : Nat} {t e : TypeId} {xs ys : List CV} (hu : P.underlying t = some (.array n e)) (hs : szOf P e = some 1) :
    eqIn P (fuel + 1) t (.agg xs) (.agg ys) = allN (fun i => (partT P e xs (i * 1)).bind fun a => (partT P e ys (i * 1)).bind fun b => eqIn P fuel e a b) n 0 := by
  simp only [eqIn, hu, Option.bind_some, hs]
theorem eqIn_i {P : Program} {fuel : Nat} {t : TypeId} {k : IntKind} {a b : Int} (hu : P.underlying t = some (.int k)) : eqIn P (fuel + 1) t (.int k a) (.int k b) = some (a == b) := by
  simp [eqIn, hu]
theorem eq256 (xo yo : Operand) (D E : List Nat) (hD : D.length = 256) (hE : E.length = 256) : binT Try.prog .eql 33 xo yo (.agg (bc D)) (.agg (bc E)) = some (.bool (decide (D = E))) := by
  have h1 : eqOk Try.prog 33 xo yo (.agg (bc D)) (.agg (bc E)) = true := by kernel_rfl
  have h2 : eqIn Try.prog 100 33 (.agg (bc D)) (.agg (bc E)) = some (decide (D = E)) := by
    rw [eqIn_a (fuel := 99) Try.underlying33 sz_5, allN_dec (p := fun i => decide (D[i]? = E[i]?)) 256 0]
    · congr 1
      rw [Bool.eq_iff_iff, List.all_eq_true, decide_eq_true_eq]
      constructor
      · intro h
        refine List.ext_getElem? fun i => ?_
        by_cases hi : i < 256
        · exact of_decide_eq_true (h i (by simp; omega))
        · rw [List.getElem?_eq_none (by omega), List.getElem?_eq_none (by omega)]
      · rintro rfl i _
        exact decide_eq_true rfl
    · intro j _ hj
      have hd : D[j]? = some D[j] := List.getElem?_eq_getElem (by omega)
      have he : E[j]? = some E[j] := List.getElem?_eq_getElem (by omega)
      rw [part_5, part_5, Nat.mul_one, nth_eq, nth_eq]
      unfold bc
      rw [List.getElem?_map, List.getElem?_map, hd, he]
      show eqIn Try.prog 99 5 (.int .u8 (Int.ofNat D[j])) (.int .u8 (Int.ofNat E[j])) = _
      rw [eqIn_i (fuel := 98) Try.underlying5]
      congr 1
      by_cases q : D[j] = E[j]
      · simp [q]
      · simp [q]; omega
  show cond (eqOk Try.prog 33 xo yo (.agg (bc D)) (.agg (bc E))) ((eqIn Try.prog 100 33 (.agg (bc D)) (.agg (bc E))).map fun b => CV.bool b) none = _
  rw [h1, h2]; rfl
theorem dkc_told {f : FuncId} (h : dkc f = true) : toldL f = false := by
  have : ∀ f, f < 100 → dkc f = true → toldL f = false := by decide +kernel
  by_cases q : f < 100
  · exact this f q h
  · unfold toldL
    have h1 : Nat.beq f 12 = false := by rw [beq_eq']; exact decide_eq_false fun e => q (by rw [e]; decide)
    have h2 : Nat.beq f 5 = false := by rw [beq_eq']; exact decide_eq_false fun e => q (by rw [e]; decide)
    rw [h1, h2]; rfl
theorem Sl.ext {h h' : H} {t : TypeId} {v : CV} {s n : Nat} {cs : List CV} (S : Sl Try.prog t h v s n cs) (E : Ext h h') : Sl Try.prog t h' v s n cs :=
  ⟨S.len, fun i hi => by
    obtain ⟨id, off, b, p1, p2, p3, p4, p5⟩ := S.elt i hi
    exact ⟨id, off, b, p1, Nat.lt_of_lt_of_le p2 E.nx, (E.blk p2).trans p3, p4, p5⟩⟩
end Go.Cl.Sh
