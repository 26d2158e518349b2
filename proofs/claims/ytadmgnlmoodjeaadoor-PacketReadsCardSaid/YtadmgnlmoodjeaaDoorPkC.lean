/- The program's functions, run by the rewriting evaluator: what each answers and leaves (PkC). -/
import Derived.Test.YtadmgnlmoodjeaaDoorPkB
set_option linter.all false
open Go Go.Cl Go.Proofs
namespace Go.Cl.Sh.W
variable {σ : Sums}
set_option maxRecDepth 1000000

structure RdF (h : H) (r : Nat) : Prop where
  lt : r < h.nx
  blk : ∃ b, h.blk r = some b ∧ b.ro = false ∧ b.n = 3 ∧ b.get 0 = some .nils ∧ b.get 1 = some (.bool true) ∧ b.get 2 = some (.bool true)
def RdS (h : H) (r lid : Nat) : Option (List Nat) → Prop
  | some rest => RdAt h r lid rest
  | none => RdF h r
structure RFr (h h' : H) (r : Nat) : Prop where
  nx : h.nx ≤ h'.nx
  gn : h'.gn = h.gn
  old : ∀ k, k < h.nx → k ≠ r → h'.t.get k = h.t.get k
theorem RFr.refl (h : H) (r : Nat) : RFr h h r := ⟨Nat.le_refl _, rfl, fun _ _ _ => rfl⟩
theorem RFr.but {h h' : H} {r : Nat} (F : But h h' r) : RFr h h' r := ⟨Nat.le_of_eq F.nx.symm, F.gn, fun k _ hk => F.old k hk⟩
theorem RFr.ext {h0 h h' : H} {r : Nat} (F : RFr h h' r) (E : Ext h0 h) (hr : h0.nx ≤ r) : Ext h0 h' := ⟨Nat.le_trans E.nx F.nx, F.gn.trans E.gn, fun k hk => (F.old k (Nat.lt_of_lt_of_le hk E.nx) (by omega)).trans (E.old k hk)⟩
def nxt (s : Option (List Nat)) (k : Nat) : Option (List Nat) := s.bind fun rest => if k ≤ rest.length then some (rest.drop k) else none
def bytV (s : Option (List Nat)) (k : Nat) : List Nat := match s with
  | some rest => if k ≤ rest.length then rest.take k else []
  | none => []
def numV (s : Option (List Nat)) (k : Nat) : Nat := valB (bytV s k)
theorem RdF.lo {h : H} {r : Nat} (R : RdF h r) : RdF h.lo r := ⟨R.lt, R.blk⟩

theorem scope_go {β : Type} {P : Program} {Q : Option β → Prop} {r : Option Nat} {n l : Nat} {b rest : Code} {env : T CV} {h : H} {K : Res → Option β} (e : findLabel b l = some rest) (k : Q (cx P σ r n rest env h (scopeK P σ r n b K))) : Q (scopeGo P σ r n b l env h K (findLabel b l)) := by
  rw [e]; exact k
theorem fail_run (hσ : ∀ f a h, told f = false → σ f a h = none) {h : H} {r lid : Nat} {rest : List Nat} (R : RdAt h r lid rest) :
    ∃ h', (lim Tryd.prog σ).call 71 [.ptr r 0] h = some (.tup [], some h') ∧ RdF h' r ∧ But h h' r ∧ h'.low ≤ r ∧ h'.low ≤ h.low := by
  obtain ⟨b, v, hb, hro, hbn, h0, h1, h2, RL, hne⟩ := R.blk
  have hlt := R.lt
  rw [call_eq (hσ _ _ _ (by decide)) fn_71 rfl rfl, Tryd.ntmps71, Tryd.results71]
  simp only [go_sem, hb, h0, h1, h2, hro, hbn]
  rw [fin_l _ _ _ (by simp only [go_sem]; omega)]
  refine ⟨_, rfl, ⟨by simp only [go_sem]; exact hlt, _, put_blk_same _ _ _, by simp only [go_sem, hro], by simp only [go_sem, hbn], by simp only [go_sem, hbn], by simp only [go_sem, hbn, h1], by simp only [go_sem, hbn]⟩, ⟨rfl, rfl, fun k hk => ?_⟩, by simp only [go_sem]; omega, by simp only [go_sem]; omega⟩
  show ((h.lo.put r _).put r _).t.get k = _
  rw [put_get_ne _ _ _ _ hk, put_get_ne _ _ _ _ hk]; rfl
def TakF (h : H) (r : Nat) (o : Option (CV × Option H)) : Prop := ∃ x, o = some (.tup [.nils, .bool false], x) ∧ RdF (x.getD h) r ∧ But h (x.getD h) r ∧ (x = none ∨ ∃ h', x = some h' ∧ h'.low ≤ r ∧ h'.low ≤ h.low)
theorem take_short (hσ : ∀ f a h, told f = false → σ f a h = none) {h : H} {r lid : Nat} {rest : List Nat} (R : RdAt h r lid rest) {n : Nat} (hn : ¬ n ≤ rest.length) :
    TakF h r ((lim Tryd.prog σ).call 70 [.ptr r 0, .int .i64 (Int.ofNat n)] h) := by
  obtain ⟨b, v, hb, hro, hbn, h0, h1, h2, RL, hne⟩ := R.blk
  have hlt := R.lt
  obtain ⟨h', ef, F1, F2, lo1, lo2⟩ := fail_run hσ (R.ext (Ext.lo h))
  rw [call_eq (hσ _ _ _ (by decide)) fn_70 rfl rfl, Tryd.ntmps70, Tryd.results70]
  have c1 : ¬ Int.ofNat n < 0 := by simp
  have c2 : Int.ofNat n > Int.ofNat rest.length := by simp; omega
  simp only [go_sem, hb, h0, h1, h2, hro, hbn, RL.len, c1, c2, ef]
  refine scope_go (Q := TakF h r) rfl ?_
  simp only [go_sem, hb, h0, h1, h2, hro, hbn, RL.len, c1, c2, ef]
  rw [fin_l _ _ _ (by omega)]
  exact ⟨_, rfl, ⟨F1.lt, F1.blk⟩, ⟨F2.nx, F2.gn, F2.old⟩, .inr ⟨_, rfl, by simp only [go_sem]; omega, by simp only [go_sem]; omega⟩⟩
theorem take_none (hσ : ∀ f a h, told f = false → σ f a h = none) {h : H} {r : Nat} (R : RdF h r) (n : Int) :
    TakF h r ((lim Tryd.prog σ).call 70 [.ptr r 0, .int .i64 n] h) := by
  obtain ⟨b, hb, hro, hbn, h0, h1, h2⟩ := R.blk
  rw [call_eq (hσ _ _ _ (by decide)) fn_70 rfl rfl, Tryd.ntmps70, Tryd.results70]
  simp only [go_sem, hb, h0, h1, h2, hro, hbn]
  rw [fin_q _ _ _ rfl rfl]
  exact ⟨none, rfl, R, ⟨rfl, rfl, fun _ _ => rfl⟩, .inl rfl⟩
end Go.Cl.Sh.W

namespace Go.Cl.Sh.W
variable {σ : Sums}
set_option maxRecDepth 1000000

def NumS (h : H) (r lid : Nat) (s : Option (List Nat)) (k : Nat) (o : Option (CV × Option H)) : Prop := ∃ x, o = some (.int .u64 (Int.ofNat (numV s k)), x) ∧ RdS (x.getD h) r lid (nxt s k) ∧ RFr h (x.getD h) r ∧ (x = none ∨ ∃ h', x = some h' ∧ h'.low ≤ r)
def Bts (s : Option (List Nat)) : Prop := ∀ rest, s = some rest → ∀ b ∈ rest, b < 256
theorem Bts.nxt {s : Option (List Nat)} (B : Bts s) (k : Nat) : Bts (nxt s k) := fun rest e b hb => by
  cases s with
  | none => cases e
  | some l =>
    simp only [W.nxt, Option.bind_some] at e
    split at e
    · cases e; exact B l rfl b (List.mem_of_mem_drop hb)
    · cases e
theorem Bts.byt {s : Option (List Nat)} (B : Bts s) (k : Nat) : ∀ b ∈ bytV s k, b < 256 := fun b hb => by
  cases s with
  | none => cases hb
  | some l =>
    simp only [bytV] at hb
    split at hb
    · exact B l rfl b (List.mem_of_mem_take hb)
    · cases hb
theorem bytV_len (s : Option (List Nat)) (k : Nat) : (bytV s k).length ≤ k := by
  cases s with
  | none => exact Nat.zero_le _
  | some l =>
    simp only [bytV]
    split
    · rw [List.length_take]; omega
    · exact Nat.zero_le _
theorem num_lt {s : Option (List Nat)} (B : Bts s) {k : Nat} : numV s k < 256 ^ k := by
  have h1 := valB_lt (bytV s k).length (bytV s k) rfl (B.byt k)
  exact Nat.lt_of_lt_of_le h1 (Nat.pow_le_pow_right (by decide) (bytV_len s k))
theorem num_bad (hσ : ∀ f a h, told f = false → σ f a h = none) {h : H} {r lid : Nat} {s : Option (List Nat)} {n : Nat} (hs : sizeOk (Int.ofNat n) = true) (hlt : r < h.nx) (hv : numV s n = 0) (hn : nxt s n = none)
    (T : TakF h.lo r ((lim Tryd.prog σ).call 70 [.ptr r 0, .int .i64 (Int.ofNat n)] h.lo)) : NumS h r lid s n ((lim Tryd.prog σ).call 42 [.ptr r 0, .int .i64 (Int.ofNat n)] h) := by
  have hw := wsize_run hσ h.lo (Int.ofNat n)
  have hw : (lim Tryd.prog σ).call 65 [.int .i64 (Int.ofNat n)] h.lo = some (.bool true, none) := hw.trans (by rw [show decide (Int.ofNat n = 1 ∨ Int.ofNat n = 2 ∨ Int.ofNat n = 4 ∨ Int.ofNat n = 8) = true from hs])
  obtain ⟨x, e, R, F, hx⟩ := T
  obtain ⟨Q, hQ⟩ : ∃ Q, Q = NumS h r lid s n := ⟨_, rfl⟩
  rw [← hQ]
  rw [call_eq (hσ _ _ _ (by decide)) fn_42 rfl rfl, Tryd.ntmps42, Tryd.results42]
  obtain ⟨Y, hY⟩ : ∃ Y, Y = x.getD h.lo := ⟨_, rfl⟩
  have lnil : ∀ h', builtinT Tryd.prog h' .len [24] [.nils] = some (.val (.int .i64 0)) := fun h' => by simp [builtinT, Tryd.underlying24, lenC]
  simp only [go_sem, hw, e, ← hY, lnil]
  refine loop_ind (Q := Q) (fun i env h' => evT env 7 = .int .u64 0 ∧ evT env 22 = .int .i64 0 ∧ evT env 23 = .int .i64 0 ∧ h' = Y) 0 0 ⟨by simp only [go_sem], by simp only [go_sem], by simp only [go_sem], hY.symm⟩ (Nat.le_refl _) (fun i env h' _ hi => absurd hi (Nat.not_lt_zero _)) ?_
  rintro env Z ⟨e7, e22, e23, rfl⟩
  simp only [go_sem, e7, e22, e23]
  rw [hQ]
  rw [← hY] at R F
  unfold NumS
  rw [hv, hn]
  rcases hx with rfl | ⟨h', rfl, lo1, lo2⟩
  · rw [fin_q _ _ _ (by rw [hY]; rfl) rfl]
    refine ⟨none, rfl, ?_, RFr.refl _ _, .inl rfl⟩
    have : RdF h.lo r := by rw [hY] at R; exact R
    exact ⟨this.lt, this.blk⟩
  · have hY' : Z = h' := hY
    subst hY'
    rw [fin_l _ _ _ (by omega)]
    exact ⟨_, rfl, ⟨R.lt, R.blk⟩, ⟨Nat.le_of_eq F.nx.symm, F.gn, fun k _ hk => F.old k hk⟩, .inr ⟨_, rfl, by simp only [go_sem]; omega⟩⟩
theorem num_s (hσ : ∀ f a h, told f = false → σ f a h = none) {h : H} {r lid : Nat} {s : Option (List Nat)} (R : RdS h r lid s) {n : Nat} (hs : sizeOk (Int.ofNat n) = true) (B : Bts s) :
    NumS h r lid s n ((lim Tryd.prog σ).call 42 [.ptr r 0, .int .i64 (Int.ofNat n)] h) := by
  cases s with
  | none => exact num_bad hσ hs R.lt rfl rfl (take_none hσ (RdF.lo R) _)
  | some rest =>
    by_cases hn : n ≤ rest.length
    · obtain ⟨h', e, R1, F, lo1, _⟩ := rnumber_run hσ R hn hs (B rest rfl)
      refine ⟨some h', ?_, ?_, ?_, .inr ⟨h', rfl, lo1⟩⟩
      · rw [show numV (some rest) n = valB (rest.take n) by simp [numV, bytV, hn]]; exact e
      · rw [show nxt (some rest) n = some (rest.drop n) by simp [nxt, hn]]; exact R1
      · exact RFr.but F
    · exact num_bad hσ hs R.lt (by simp [numV, bytV, hn, valB]) (by simp [nxt, hn]) (take_short hσ (RdAt.ext R (Ext.lo h)) hn)

def BytS (h : H) (r lid : Nat) (s : Option (List Nat)) (k : Nat) (o : Option (CV × Option H)) : Prop := ∃ v x, o = some (v, x) ∧ BSl (x.getD h) v (bc (bytV s k)) ∧ RdS (x.getD h) r lid (nxt s k) ∧ RFr h (x.getD h) r ∧ ((x = none ∧ v = .nils) ∨ ∃ h', x = some h' ∧ h'.low ≤ r) ∧ ∀ id off l c, v = .sl id off l c → h.nx ≤ id
theorem byt_bad (hσ : ∀ f a h, told f = false → σ f a h = none) {h : H} {r lid : Nat} {s : Option (List Nat)} {n : Nat} (hlt : r < h.nx) (hv : bytV s n = []) (hn : nxt s n = none)
    (T : TakF h.lo r ((lim Tryd.prog σ).call 70 [.ptr r 0, .int .i64 (Int.ofNat n)] h.lo)) : BytS h r lid s n ((lim Tryd.prog σ).call 41 [.ptr r 0, .int .i64 (Int.ofNat n)] h) := by
  obtain ⟨x, e, R, F, hx⟩ := T
  rw [call_eq (hσ _ _ _ (by decide)) fn_41 rfl rfl, Tryd.ntmps41, Tryd.results41]
  obtain ⟨Y, hY⟩ : ∃ Y, Y = x.getD h.lo := ⟨_, rfl⟩
  have anil : builtinT Tryd.prog Y .append [24, 24] [.nils, .nils] = some (.upd .nils Y) := by kernel_rfl
  simp only [go_sem, e, ← hY, anil]
  rw [← hY] at R F
  unfold BytS
  rw [hv, hn]
  rcases hx with rfl | ⟨h', rfl, lo1, lo2⟩
  · rw [fin_q _ _ _ (by rw [hY]; rfl) rfl]
    refine ⟨.nils, none, rfl, .inl ⟨rfl, rfl⟩, ?_, RFr.refl _ _, .inl ⟨rfl, rfl⟩, fun _ _ _ _ e => by cases e⟩
    have : RdF h.lo r := by rw [hY] at R; exact R
    exact ⟨this.lt, this.blk⟩
  · have hY' : Y = h' := hY
    subst hY'
    rw [fin_l _ _ _ (by omega)]
    exact ⟨_, _, rfl, .inl ⟨rfl, rfl⟩, ⟨R.lt, R.blk⟩, ⟨Nat.le_of_eq F.nx.symm, F.gn, fun k _ hk => F.old k hk⟩, .inr ⟨_, rfl, by simp only [go_sem]; omega⟩, fun _ _ _ _ e => by cases e⟩
theorem bytes_s (hσ : ∀ f a h, told f = false → σ f a h = none) {h : H} {r lid : Nat} {s : Option (List Nat)} (R : RdS h r lid s) {n : Nat} (hn0 : n ≤ 1000000) :
    BytS h r lid s n ((lim Tryd.prog σ).call 41 [.ptr r 0, .int .i64 (Int.ofNat n)] h) := by
  cases s with
  | none => exact byt_bad hσ R.lt rfl rfl (take_none hσ (RdF.lo R) _)
  | some rest =>
    by_cases hn : n ≤ rest.length
    · obtain ⟨v, h', e, B, R1, q1, q2, q3, lo1, _, fr⟩ := rbytes_run hσ R hn hn0
      refine ⟨v, some h', e, ?_, ?_, ⟨q1, q2, q3⟩, .inr ⟨h', rfl, lo1⟩, fr⟩
      · rw [show bytV (some rest) n = rest.take n by simp [bytV, hn]]; exact B
      · rw [show nxt (some rest) n = some (rest.drop n) by simp [nxt, hn]]; exact R1
    · exact byt_bad hσ R.lt (by simp [bytV, hn]) (by simp [nxt, hn]) (take_short hσ (RdAt.ext R (Ext.lo h)) hn)
end Go.Cl.Sh.W

namespace Go.Cl.Sh.W
variable {σ : Sums}
set_option maxRecDepth 1000000

def blobV (s : Option (List Nat)) : List Nat := bytV (nxt s 2) (numV s 2)
def nxtB (s : Option (List Nat)) : Option (List Nat) := nxt (nxt s 2) (numV s 2)
theorem RdS.lo {h : H} {r lid : Nat} {s : Option (List Nat)} (R : RdS h r lid s) : RdS h.lo r lid s := by
  cases s with
  | none => exact RdF.lo R
  | some l => exact RdAt.lo R
theorem RdS.unlo {h : H} {r lid : Nat} {s : Option (List Nat)} (R : RdS h.lo r lid s) : RdS h r lid s := by
  cases s with
  | none => have R' : RdF h.lo r := R; exact (⟨R'.lt, R'.blk⟩ : RdF h r)
  | some l => have R' : RdAt h.lo r lid l := R; exact (⟨R'.lt, R'.blk⟩ : RdAt h r lid l)
theorem RdS.up {h : H} {r lid : Nat} {s : Option (List Nat)} (R : RdS h r lid s) (m : Nat) : RdS (h.up m) r lid s := by
  cases s with
  | none => have R' : RdF h r := R; exact (⟨R'.lt, R'.blk⟩ : RdF (h.up m) r)
  | some l => have R' : RdAt h r lid l := R; exact (⟨R'.lt, R'.blk⟩ : RdAt (h.up m) r lid l)
theorem RdS.lt {h : H} {r lid : Nat} {s : Option (List Nat)} (R : RdS h r lid s) : r < h.nx := by
  cases s with
  | none => exact RdF.lt R
  | some l => exact RdAt.lt R
def BlobS (h : H) (r lid : Nat) (s : Option (List Nat)) (o : Option (CV × Option H)) : Prop := ∃ v x, o = some (v, x) ∧ BSl (x.getD h) v (bc (blobV s)) ∧ RdS (x.getD h) r lid (nxtB s) ∧ RFr h (x.getD h) r ∧ ∀ id off l c, v = .sl id off l c → h.nx ≤ id
theorem blob_s (hσ : ∀ f a h, told f = false → σ f a h = none) {h : H} {r lid : Nat} {s : Option (List Nat)} (R : RdS h r lid s) (B : Bts s) :
    BlobS h r lid s ((lim Tryd.prog σ).call 43 [.ptr r 0] h) := by
  obtain ⟨x1, e1, R1, F1, w1⟩ := num_s hσ R.lo (n := 2) rfl B
  have e1 : (lim Tryd.prog σ).call 42 [.ptr r 0, .int .i64 2] h.lo = some (.int .u64 (Int.ofNat (numV s 2)), x1) := e1
  have hn : numV s 2 < 65536 := num_lt B
  obtain ⟨Y, hY⟩ : ∃ Y, Y = x1.getD h.lo := ⟨_, rfl⟩
  rw [← hY] at R1 F1
  obtain ⟨v, x2, e2, B2, R2, F2, w2, fr⟩ := bytes_s hσ R1 (n := numV s 2) (by omega)
  have hw : IntKind.wrap .i64 (Int.ofNat (numV s 2)) = Int.ofNat (numV s 2) := wrap_i64 (by simp) (by simp; omega)
  have hlt := R.lt
  rw [call_eq (hσ _ _ _ (by decide)) fn_43 rfl rfl, Tryd.ntmps43, Tryd.results43]
  simp only [go_sem, e1, ← hY, hw, e2]
  obtain ⟨Z, hZ⟩ : ∃ Z, Z = x2.getD Y := ⟨_, rfl⟩
  rw [← hZ] at B2 R2 F2 ⊢
  have FZ : RFr h Z r := ⟨Nat.le_trans F1.nx F2.nx, F2.gn.trans F1.gn, fun k hk hkr => (F2.old k (Nat.lt_of_lt_of_le hk F1.nx) hkr).trans (F1.old k hk hkr)⟩
  by_cases hlow : Z.low < h.nx
  · rw [fin_l _ _ _ hlow]
    exact ⟨v, _, rfl, B2.ext (Ext.up _ _), R2.up _, ⟨FZ.nx, FZ.gn, FZ.old⟩, fun id off l c e => Nat.le_trans F1.nx (fr id off l c e)⟩
  · have hz : Z = h.lo ∧ v = .nils := by
      rcases w2 with ⟨rfl, hv⟩ | ⟨h', rfl, lo⟩
      · rcases w1 with rfl | ⟨h', rfl, lo⟩
        · exact ⟨by rw [hZ, hY]; rfl, hv⟩
        · have : Z = h' := by rw [hZ, hY]; rfl
          subst this; omega
      · have : Z = h' := hZ
        subst this; omega
    obtain ⟨hz1, rfl⟩ := hz
    rw [hz1] at R2
    rw [fin_q _ _ _ (by rw [hz1]; rfl) rfl]
    refine ⟨.nils, none, rfl, ?_, R2.unlo, RFr.refl _ _, fun _ _ _ _ e => by cases e⟩
    rcases B2 with ⟨h1, h2⟩ | ⟨_, _, _, _, _, h2⟩ | ⟨_, _, _, _, h2, _⟩
    · exact .inl ⟨h1, rfl⟩
    · cases h2
    · cases h2
def endV (s : Option (List Nat)) : Bool := match s with | some [] => true | _ => false
theorem end_s (hσ : ∀ f a h, told f = false → σ f a h = none) {h : H} {r lid : Nat} {s : Option (List Nat)} (R : RdS h r lid s) :
    Ret (.int .i64 (if endV s then 0 else 4)) ((lim Tryd.prog σ).call 44 [.ptr r 0] h) := by
  cases s with
  | none =>
    obtain ⟨b, hb, hro, hbn, h0, h1, h2⟩ := RdF.blk R
    rw [call_eq (hσ _ _ _ (by decide)) fn_44 rfl rfl, Tryd.ntmps44, Tryd.results44]
    simp only [go_sem, hb, h0, h1, h2]
    rw [fin_q _ _ _ rfl rfl]
    rfl
  | some l =>
    cases l with
    | nil => exact rend_run hσ R
    | cons y l =>
      obtain ⟨b, v, hb, hro, hbn, h0, h1, h2, RL, hne⟩ := RdAt.blk R
      have hl := RL.len
      have c0 : Int.ofNat (l.length + 1) > 0 := by simp
      rw [call_eq (hσ _ _ _ (by decide)) fn_44 rfl rfl, Tryd.ntmps44, Tryd.results44]
      simp only [go_sem, hb, h0, h1, h2, hl, c0]
      rw [fin_q _ _ _ rfl rfl]
      rfl
theorem equal_run (hσ : ∀ f a h, told f = false → σ f a h = none) {h : H} {v w : CV} {xs ys : List Nat} (A : BSl h v (bc xs)) (B : BSl h w (bc ys)) (hx : ∀ b ∈ xs, b < 256) (hy : ∀ b ∈ ys, b < 256) :
    Ret (.bool (decide (xs = ys))) ((lim Tryd.prog σ).call 45 [v, w] h) := by
  have cx := (A.ext (Ext.lo h)).str hx
  have cy := (B.ext (Ext.lo h)).str hy
  have ce : ∀ t xo yo, binT Tryd.prog .eql t xo yo (.str xs) (.str ys) = some (.bool (xs == ys)) := fun t xo yo => rfl
  rw [call_eq (hσ _ _ _ (by decide)) fn_45 rfl rfl, Tryd.ntmps45, Tryd.results45]
  simp only [go_sem, cx, cy, ce]
  rw [fin_q _ _ _ rfl rfl]
  unfold Ret
  by_cases q : xs = ys <;> simp [q]
end Go.Cl.Sh.W

namespace Go.Cl.Sh.W
variable {σ : Sums}
set_option maxRecDepth 1000000

theorem RdS.put {h : H} {r lid pid : Nat} {s : Option (List Nat)} (R : RdS h r lid s) (h1 : pid ≠ r) (h2 : pid ≠ lid) (o : CObj) : RdS (h.put pid o) r lid s := by
  cases s with
  | none =>
    have R' : RdF h r := R
    obtain ⟨b, q1, q2⟩ := R'.blk
    exact (⟨R'.lt, b, by rw [put_blk_ne _ _ _ _ (by omega)]; exact q1, q2⟩ : RdF (h.put pid o) r)
  | some l =>
    have R' : RdAt h r lid l := R
    obtain ⟨b, v, q1, q2, q3, q4, q5, q6, RL0, q7⟩ := R'.blk
    refine (⟨R'.lt, b, v, by rw [put_blk_ne _ _ _ _ (by omega)]; exact q1, q2, q3, q4, q5, q6, ?_, q7⟩ : RdAt (h.put pid o) r lid l)
    rcases RL0 with h3 | h3 | ⟨id, off, b, rfl, w2, w3, w4, w5, w6⟩
    · exact .inl h3
    · exact .inr (.inl h3)
    · have hid := (q7 _ _ _ _ rfl).1
      exact .inr (.inr ⟨id, off, b, rfl, w2, w3, by rw [put_blk_ne _ _ _ _ (by omega)]; exact w4, w5, w6⟩)
structure St (h Z : H) (r lid pid : Nat) (s : Option (List Nat)) (pb zb : Blk) : Prop where
  R : RdS Z r lid s
  E : Ext h Z
  p : Z.blk pid = some pb
  z : Z.blk h.nx = some zb
  pr : pid ≠ r
  pl : pid ≠ lid
  hp : h.nx < pid
  hr : h.nx < r
  pn : pid < Z.nx
theorem St.call {h Z Y : H} {r lid pid : Nat} {s s' : Option (List Nat)} {pb zb : Blk} (S : St h Z r lid pid s pb zb) (R' : RdS Y r lid s') (F : RFr Z Y r) : St h Y r lid pid s' pb zb :=
  ⟨R', F.ext S.E (Nat.le_of_lt S.hr), (blk_eq (F.old pid S.pn S.pr)).trans S.p, (blk_eq (F.old h.nx (Nat.lt_trans S.hp S.pn) (Nat.ne_of_lt S.hr))).trans S.z, S.pr, S.pl, S.hp, S.hr, Nat.lt_of_lt_of_le S.pn F.nx⟩
theorem St.put {h Z : H} {r lid pid : Nat} {s : Option (List Nat)} {pb zb : Blk} (S : St h Z r lid pid s pb zb) (pb' : Blk) : St h (Z.put pid (.cells pb')) r lid pid s pb' zb :=
  ⟨S.R.put S.pr S.pl _, S.E.put _ (Nat.le_of_lt S.hp), put_blk_same _ _ _, (put_blk_ne _ _ _ _ (Nat.ne_of_lt S.hp)).trans S.z, S.pr, S.pl, S.hp, S.hr, S.pn⟩
theorem bsl_put {h : H} {v : CV} {cs : List CV} {pid : Nat} (B : BSl h v cs) (hne : ∀ id off l c, v = .sl id off l c → id ≠ pid) (o : CObj) : BSl (h.put pid o) v cs := by
  rcases B with h1 | h1 | ⟨id, off, c, b, rfl, h2, h3, h4⟩
  · exact .inl h1
  · exact .inr (.inl h1)
  · exact .inr (.inr ⟨id, off, c, b, rfl, h2, by rw [put_blk_ne _ _ _ _ (hne _ _ _ _ rfl)]; exact h3, h4⟩)

/-! ### what it reads -/
def s1P (bs : List Nat) := nxt (some bs) 2
def s2P (bs : List Nat) := nxt (s1P bs) 1
def s3P (bs : List Nat) := nxt (s2P bs) 8
def s4P (bs : List Nat) := nxt (s3P bs) 8
def kP (bs : List Nat) : Int := Int.ofNat (numV (s1P bs) 1)
def s5P (bs : List Nat) := if ackK (kP bs) then nxt (s4P bs) 8 else s4P bs
def s6P (bs : List Nat) := if dataK (kP bs) then nxt (s5P bs) 8 else s5P bs
def s7P (bs : List Nat) := if dataK (kP bs) then nxtB (s6P bs) else s6P bs
def s8P (bs : List Nat) := nxt (s7P bs) 4
def pP (bs : List Nat) (v : CV) : Pk := ⟨kP bs, numV (s2P bs) 8, numV (s3P bs) 8, if ackK (kP bs) then numV (s4P bs) 8 else 0, if dataK (kP bs) then numV (s5P bs) 8 else 0, v, if dataK (kP bs) then blobV (s6P bs) else []⟩
def okP (bs : List Nat) : Bool := decide (bs.length ≤ 4041) && endV (s8P bs) && mayV (pP bs .nils) && decide (pack (pP bs .nils) = bs)
def z6 : List CV := [.int .i64 0, .int .u64 0, .int .u64 0, .int .u64 0, .int .u64 0, .nils]
def OfPR (h : H) (bs : List Nat) (o : Option (CV × Option H)) : Prop :=
  (okP bs = false ∧ ∃ x, o = some (.tup [.agg z6, .int .i64 4], x) ∧ Ext h (x.getD h)) ∨
  (okP bs = true ∧ ∃ v x, o = some (.tup [.agg (pP bs v).cs, .int .i64 0], x) ∧ Ext h (x.getD h) ∧ BSl (x.getD h) v (bc (pP bs .nils).xs) ∧ ∀ i off l c, v = .sl i off l c → h.nx ≤ i)
theorem of_bad {h Y : H} {bs : List Nat} (E : Ext h Y) (hok : okP bs = false) : OfPR h bs (some (fin h Y (.tup [.agg z6, .int .i64 4]))) := by
  obtain ⟨y, hy, Ey⟩ := fin_ext E (.tup [.agg z6, .int .i64 4])
  exact .inl ⟨hok, y, congrArg some hy, Ey⟩
theorem of_good {h Y : H} {bs : List Nat} {v : CV} (E : Ext h Y) (hok : okP bs = true) (B : BSl Y v (bc (pP bs .nils).xs)) (hnew : ∀ i off l c, v = .sl i off l c → h.nx ≤ i) : OfPR h bs (some (fin h Y (.tup [.agg (pP bs v).cs, .int .i64 0]))) := by
  refine .inr ⟨hok, v, ?_⟩
  unfold fin
  cases hq : (Nat.beq Y.low h.nx && okB h.nx (.tup [.agg (pP bs v).cs, .int .i64 0]))
  · exact ⟨_, rfl, E.up' _, B.ext (Ext.up _ _), hnew⟩
  · refine ⟨_, rfl, Ext.refl _, ?_, hnew⟩
    simp only [Bool.and_eq_true] at hq
    have ho := hq.2
    rcases B with h1 | h1 | ⟨id, off, c, b, rfl, h2, h3, h4⟩
    · exact .inl h1
    · exact .inr (.inl h1)
    · have hid : id < h.nx := by
        have := ok_of_okB _ ho
        simp [Pk.cs, pP, Go.Cl.ok, Go.Cl.okL] at this
        exact this.2.2.2.2
      exact .inr (.inr ⟨id, off, c, b, rfl, hid, (E.blk hid).symm.trans h3, h4⟩)
theorem kP_lt {bs : List Nat} (hb : ∀ b ∈ bs, b < 256) : numV (s1P bs) 1 < 256 := num_lt (Bts.nxt (fun r e b hm => by cases e; exact hb b hm) 2)

theorem bsl_rfr {h h' : H} {r : Nat} {v : CV} {cs : List CV} (B : BSl h v cs) (F : RFr h h' r) (hne : ∀ id off l c, v = .sl id off l c → id ≠ r) : BSl h' v cs := by
  rcases B with h1 | h1 | ⟨id, off, c, b, rfl, h2, h3, h4⟩
  · exact .inl h1
  · exact .inr (.inl h1)
  · exact .inr (.inr ⟨id, off, c, b, rfl, Nat.lt_of_lt_of_le h2 F.nx, (blk_eq (F.old id h2 (hne _ _ _ _ rfl))).trans h3, h4⟩)
theorem be_byte (n k : Nat) : ∀ b ∈ be n k, b < 256 := fun b hb => by
  unfold be at hb
  obtain ⟨i, _, rfl⟩ := List.mem_map.1 hb
  exact Nat.mod_lt _ (by decide)
theorem hdr_byte (p : Pk) (hx : ∀ b ∈ p.xs, b < 256) : ∀ b ∈ hdr p, b < 256 := fun b hb => by
  unfold hdr at hb
  simp only [List.mem_append] at hb
  rcases hb with ((((h | h) | h) | h) | h) | h
  · simp at h; omega
  · exact be_byte _ _ b h
  · exact be_byte _ _ b h
  · exact be_byte _ _ b h
  · split at h
    · exact be_byte _ _ b h
    · cases h
  · split at h
    · simp only [List.mem_append] at h
      rcases h with h | h | h
      · exact be_byte _ _ b h
      · exact be_byte _ _ b h
      · exact hx b h
    · cases h
theorem pack_byte' (p : Pk) (hx : ∀ b ∈ p.xs, b < 256) : ∀ b ∈ pack p, b < 256 := fun b hb => by
  unfold pack at hb
  rcases List.mem_append.1 hb with h | h
  · exact hdr_byte p hx b h
  · exact digest_byte _ b (List.mem_of_mem_take h)
theorem pP_xs {bs : List Nat} (hb : ∀ b ∈ bs, b < 256) (v : CV) : ∀ b ∈ (pP bs v).xs, b < 256 := fun b hm => by
  have B0 : Bts (some bs) := fun r e b hm => by cases e; exact hb b hm
  have B4 : Bts (s4P bs) := (((B0.nxt 2).nxt 1).nxt 8).nxt 8
  have B5 : Bts (s5P bs) := by unfold s5P; split; exact B4.nxt 8; exact B4
  have B6 : Bts (s6P bs) := by unfold s6P; split; exact B5.nxt 8; exact B5
  unfold pP at hm
  simp only at hm
  split at hm
  · exact Bts.byt (B6.nxt 2) _ b hm
  · cases hm
theorem pack_byte {bs : List Nat} (hb : ∀ b ∈ bs, b < 256) (_ : mayV (pP bs .nils) = true) : ∀ b ∈ pack (pP bs .nils), b < 256 := pack_byte' _ (pP_xs hb _)
theorem of_run (hσ : ∀ f a h, σ f a h = none) {h : H} (g : HG h) {v0 : CV} {bs : List Nat} (B : BSl h v0 (bc bs)) (hb : ∀ b ∈ bs, b < 256) (hlen : bs.length ≤ 9000) : OfPR h bs ((lim Tryd.prog σ).call 10 [v0] h) := by
  have hσ' : ∀ f a h, told f = false → σ f a h = none := fun f a h _ => hσ f a h
  obtain ⟨Q, hQ⟩ : ∃ Q, Q = OfPR h bs := ⟨_, rfl⟩
  rw [← hQ]
  rw [call_eq (hσ _ _ _) fn_10 rfl rfl, Tryd.ntmps10, Tryd.results10]
  obtain ⟨zb, hzb⟩ : ∃ zb, zb = newBlk z6 := ⟨_, rfl⟩
  have zn : zb.n = 6 := by rw [hzb, wnewBlk_n]; rfl
  have zr : zb.ro = false := by rw [hzb, newBlk_ro]
  have zg0 : zb.get 0 = some (.int .i64 0) := by rw [hzb, newBlk_get]; rfl
  have zg1 : zb.get 1 = some (.int .u64 0) := by rw [hzb, newBlk_get]; rfl
  have zg2 : zb.get 2 = some (.int .u64 0) := by rw [hzb, newBlk_get]; rfl
  have zg3 : zb.get 3 = some (.int .u64 0) := by rw [hzb, newBlk_get]; rfl
  have zg4 : zb.get 4 = some (.int .u64 0) := by rw [hzb, newBlk_get]; rfl
  have zg5 : zb.get 5 = some .nils := by rw [hzb, newBlk_get]; rfl
  have hzb' : newBlk [CV.int .i64 0, .int .u64 0, .int .u64 0, .int .u64 0, .int .u64 0, .nils] = zb := hzb.symm
  obtain ⟨W0, hW0⟩ : ∃ X, X = h.lo.alloc (.cells zb) := ⟨_, rfl⟩
  obtain ⟨W1, hW1⟩ : ∃ X, X = W0.alloc (.cells zb) := ⟨_, rfl⟩
  have W0nx : W0.nx = h.nx + 1 := by rw [hW0]; rfl
  have W0z : W0.blk h.nx = some zb := by rw [hW0]; simp only [go_sem]
  have W0E : Ext h W0 := by rw [hW0]; exact (Ext.lo h).alloc' _
  have W1nx : W1.nx = h.nx + 2 := by rw [hW1]; simp only [go_sem]; omega
  have W1E : Ext h W1 := by rw [hW1]; exact W0E.alloc' _
  have W1z : W1.blk h.nx = some zb := by rw [hW1, alloc_blk_ne _ _ _ (by omega)]; exact W0z
  have W1p : W1.blk (h.nx + 1) = some zb := by rw [hW1]; exact alloc_blk_same _ _ _ W0nx.symm
  have bl := B.len
  rw [bc_len] at bl
  have Bs : Bts (some bs) := fun r e b hm => by cases e; exact hb b hm
  have endZ : ∀ (Z : H) (hz : Z.blk h.nx = some zb) (E : Ext h Z) (hok : okP bs = false) (b' : Blk), b'.loadN 0 6 = some z6 → Q (some (fin h (Z.put h.nx (.cells b')) (.tup [.agg z6, .int .i64 4]))) := fun Z hz E hok b' hl => by
    rw [hQ]; exact of_bad (E.put _ (Nat.le_refl _)) hok
  simp only [go_sem, hzb', ← hW0, W0nx, bl]
  by_cases hbig : bs.length > 4041
  · have c0 : Int.ofNat bs.length > 4041 := by simp; omega
    have hok : okP bs = false := by unfold okP; rw [decide_eq_false (by omega)]; rfl
    simp only [go_sem, hzb', ← hW0, W0nx, bl, c0, W0z, zr, zn]
    refine store_step (Q := Q) (by rw [zn]; rfl) rfl fun b' hn' hr' hl' hg' => ?_
    rw [zn] at hl'
    simp only [go_sem, hl']
    exact endZ W0 W0z W0E hok b' hl'
  have c0 : ¬ Int.ofNat bs.length > 4041 := by simp; omega
  obtain ⟨r, lid, Y0, q0, hr0, hl0, hl1, R0, E0⟩ := read_run hσ' (B.ext W1E) (by omega)
  have S0 : St h Y0 r lid (h.nx + 1) (some bs) zb zb := ⟨R0, W1E.trans E0, (E0.blk (by omega)).trans W1p, (E0.blk (by omega)).trans W1z, by omega, by omega, by omega, by omega, by have := E0.nx; omega⟩
  obtain ⟨v1, x1, q1, _, R1, F1, _, _⟩ := bytes_s hσ' S0.R (n := 2) (by omega)
  have q1 : (lim Tryd.prog σ).call 41 [.ptr r 0, .int .i64 2] Y0 = some (v1, x1) := q1
  obtain ⟨Y1, hY1⟩ : ∃ Y, Y = x1.getD Y0 := ⟨_, rfl⟩
  rw [← hY1] at R1 F1
  have S1 : St h Y1 r lid (h.nx + 1) (s1P bs) zb zb := S0.call R1 F1
  have B1 : Bts (s1P bs) := Bs.nxt 2
  obtain ⟨x2, q2, R2, F2, _⟩ := num_s hσ' S1.R (n := 1) rfl B1
  have q2 : (lim Tryd.prog σ).call 42 [.ptr r 0, .int .i64 1] Y1 = some (u64 (numV (s1P bs) 1), x2) := q2
  obtain ⟨Y2, hY2⟩ : ∃ Y, Y = x2.getD Y1 := ⟨_, rfl⟩
  rw [← hY2] at R2 F2
  have S2 := S1.call R2 F2
  obtain ⟨p2, hp2⟩ : ∃ p, p = zb.st 0 (.int .i64 (kP bs)) := ⟨_, rfl⟩
  have pn2 : p2.n = 6 := by rw [hp2, st_n]; exact zn
  have pr2 : p2.ro = false := by rw [hp2, st_ro]; exact zr
  obtain ⟨Z2, hZ2⟩ : ∃ Z, Z = Y2.put (h.nx + 1) (.cells p2) := ⟨_, rfl⟩
  have T2 : St h Z2 r lid (h.nx + 1) (s2P bs) p2 zb := by rw [hZ2]; exact S2.put p2
  have Yp2 := S2.p
  have Zp2 := T2.p
  have B2 : Bts (s2P bs) := B1.nxt 1
  obtain ⟨x3, q3, R3, F3, _⟩ := num_s hσ' T2.R (n := 8) rfl B2
  have q3 : (lim Tryd.prog σ).call 42 [.ptr r 0, .int .i64 8] Z2 = some (u64 (numV (s2P bs) 8), x3) := q3
  obtain ⟨Y3, hY3⟩ : ∃ Y, Y = x3.getD Z2 := ⟨_, rfl⟩
  rw [← hY3] at R3 F3
  have S3 := T2.call R3 F3
  obtain ⟨p3, hp3⟩ : ∃ p, p = p2.st 1 (u64 (numV (s2P bs) 8)) := ⟨_, rfl⟩
  have pn3 : p3.n = 6 := by rw [hp3, st_n]; exact pn2
  have pr3 : p3.ro = false := by rw [hp3, st_ro]; exact pr2
  obtain ⟨Z3, hZ3⟩ : ∃ Z, Z = Y3.put (h.nx + 1) (.cells p3) := ⟨_, rfl⟩
  have T3 : St h Z3 r lid (h.nx + 1) (s3P bs) p3 zb := by rw [hZ3]; exact S3.put p3
  have Yp3 := S3.p
  have Zp3 := T3.p
  have B3 : Bts (s3P bs) := B2.nxt 8
  obtain ⟨x4, q4, R4, F4, _⟩ := num_s hσ' T3.R (n := 8) rfl B3
  have q4 : (lim Tryd.prog σ).call 42 [.ptr r 0, .int .i64 8] Z3 = some (u64 (numV (s3P bs) 8), x4) := q4
  obtain ⟨Y4, hY4⟩ : ∃ Y, Y = x4.getD Z3 := ⟨_, rfl⟩
  rw [← hY4] at R4 F4
  have S4 := T3.call R4 F4
  obtain ⟨p4, hp4⟩ : ∃ p, p = p3.st 2 (u64 (numV (s3P bs) 8)) := ⟨_, rfl⟩
  have pn4 : p4.n = 6 := by rw [hp4, st_n]; exact pn3
  have pr4 : p4.ro = false := by rw [hp4, st_ro]; exact pr3
  obtain ⟨Z4, hZ4⟩ : ∃ Z, Z = Y4.put (h.nx + 1) (.cells p4) := ⟨_, rfl⟩
  have T4 : St h Z4 r lid (h.nx + 1) (s4P bs) p4 zb := by rw [hZ4]; exact S4.put p4
  have Yp4 := S4.p
  have Zp4 := T4.p
  have B4 : Bts (s4P bs) := B3.nxt 8
  have klt := kP_lt hb
  have ck : ∀ W, convT Tryd.prog W 23 22 (u64 (numV (s1P bs) 1)) = some (.val (.int .i64 (kP bs))) := fun W => by
    have e := cv_23_22 W .u64 (Int.ofNat (numV (s1P bs) 1))
    rw [wrap_i64 (by simp) (by simp; omega)] at e
    exact e
  have p2g : p2.get 0 = some (.int .i64 (kP bs)) := by rw [hp2, st_get_same _ _ _ (by rw [zn]; decide)]
  have p4g : p4.get 0 = some (.int .i64 (kP bs)) := by rw [hp4, st_get_ne _ _ _ _ (by decide), hp3, st_get_ne _ _ _ _ (by decide), p2g]
  have nm : ∀ Y, (lim Tryd.prog σ).call 34 [.int .i64 (kP bs)] Y = some (.tup [.bool (isK (kP bs)), .bool (ackK (kP bs)), .bool (dataK (kP bs))], none) := fun Y => names_run hσ' Y (kP bs)
  simp only [go_sem, hzb', ← hW0, W0nx, bl, c0, ← hW1, W1nx, q0, q1, ← hY1, q2, ← hY2, ck, zr, zn, ← hp2, ← hZ2, q3, ← hY3, ← hp3, ← hZ3, q4, ← hY4, ← hp4, ← hZ4, Yp2, Zp2, Yp3, Zp3, Yp4, Zp4, pn2, pr2, pn3, pr3, pn4, pr4, p4g, nm]
  cases ea : ackK (kP bs)
  · have ed : dataK (kP bs) = false := by unfold dataK; unfold ackK at ea; simp at ea ⊢; omega
    have s7e : s4P bs = s7P bs := by unfold s7P s6P s5P; simp [ea, ed]
    have T4 : St h Z4 r lid (h.nx + 1) (s7P bs) p4 zb := s7e ▸ T4
    have B5 : Bts (s5P bs) := by unfold s5P; simp only [ea]; exact B4
    have c0g : p4.get 0 = some (.int .i64 (kP bs)) := p4g
    have c1g : p4.get 1 = some (u64 (numV (s2P bs) 8)) := by rw [hp4, st_get_ne _ _ _ _ (by decide), hp3, st_get_same _ _ _ (by rw [pn2]; decide)]
    have c2g : p4.get 2 = some (u64 (numV (s3P bs) 8)) := by rw [hp4, st_get_same _ _ _ (by rw [pn3]; decide)]
    have c3g : p4.get 3 = some (u64 0) := by rw [hp4, st_get_ne _ _ _ _ (by decide), hp3, st_get_ne _ _ _ _ (by decide), hp2, st_get_ne _ _ _ _ (by decide)]; exact zg3
    have c4g : p4.get 4 = some (u64 0) := by rw [hp4, st_get_ne _ _ _ _ (by decide), hp3, st_get_ne _ _ _ _ (by decide), hp2, st_get_ne _ _ _ _ (by decide)]; exact zg4
    have c5g : p4.get 5 = some .nils := by rw [hp4, st_get_ne _ _ _ _ (by decide), hp3, st_get_ne _ _ _ _ (by decide), hp2, st_get_ne _ _ _ _ (by decide)]; exact zg5
    obtain ⟨v9, x9, q9, _, R9, F9, _, _⟩ := bytes_s hσ' T4.R (n := 4) (by omega)
    have q9 : (lim Tryd.prog σ).call 41 [.ptr r 0, .int .i64 4] Z4 = some (v9, x9) := q9
    obtain ⟨Y9, hY9⟩ : ∃ Y, Y = x9.getD Z4 := ⟨_, rfl⟩
    rw [← hY9] at R9 F9
    have S9 := T4.call R9 F9
    have s8e : nxt (s7P bs) 4 = s8P bs := rfl
    rw [s8e] at S9
    have S9p := S9.p
    have S9z := S9.z
    have en := end_s hσ' S9.R
    have BV9 : BSl Y9 (.nils) (bc (pP bs .nils).xs) := .inl ⟨by unfold pP; simp [ed, bc], rfl⟩
    cases ee : endV (s8P bs)
    · rw [ee] at en
      have en : (lim Tryd.prog σ).call 44 [.ptr r 0] Y9 = some (.int .i64 4, none) := en
      have hok : okP bs = false := by unfold okP; simp [ee]
      simp only [go_sem, hzb', ← hW0, W0nx, bl, c0, ← hW1, W1nx, q0, q1, ← hY1, q2, ← hY2, ck, zr, zn, ← hp2, ← hZ2, q3, ← hY3, ← hp3, ← hZ3, q4, ← hY4, ← hp4, ← hZ4, Yp2, Zp2, Yp3, Zp3, Yp4, Zp4, pn2, pr2, pn3, pr3, pn4, pr4, p4g, nm, ea, ed, c0g, c1g, c2g, c3g, c4g, c5g, q9, ← hY9, en, S9p, S9z]
      refine store_step (Q := Q) (by rw [zn]; rfl) rfl fun b' hn' hr' hl' hg' => ?_
      rw [zn] at hl'
      simp only [go_sem, hl']
      exact endZ Y9 S9z S9.E hok b' hl'
    rw [ee] at en
    have en : (lim Tryd.prog σ).call 44 [.ptr r 0] Y9 = some (.int .i64 0, none) := en
    have csq : (pP bs (.nils)).cs = [.int .i64 (kP bs), u64 (numV (s2P bs) 8), u64 (numV (s3P bs) 8), u64 (0), u64 (0), .nils] := by unfold pP Pk.cs; simp only [ea, ed]; rfl
    have k8 : (256 : Nat) ^ 8 = 2 ^ 64 := by decide
    have pok : PkOk (pP bs (.nils)) := by
      have h2 := num_lt B2 (k := 8)
      have h3 := num_lt B3 (k := 8)
      have h4 := num_lt B4 (k := 8)
      have h5 := num_lt B5 (k := 8)
      rw [k8] at h2 h3 h4 h5
      have hif : ∀ (c : Bool) (n : Nat), n < 2 ^ 64 → (if c = true then n else 0) < 2 ^ 64 := fun c n hn => by
        cases c
        · exact (by decide : 0 < 2 ^ 64)
        · exact hn
      exact ⟨h2, h3, hif _ _ h4, hif _ _ h5⟩
    have len9 : bs.length ≤ 4041 := by omega
    rcases bytes_pk hσ (g.ext S9.E) (pP bs (.nils)) pok BV9 with ⟨hm, e1⟩ | ⟨hm, v10, x10, e1, E10, B10⟩
    · have hm' : mayV (pP bs .nils) = false := hm
      rw [csq] at e1
      have hok : okP bs = false := by unfold okP; simp [hm']
      simp only [go_sem, hzb', ← hW0, W0nx, bl, c0, ← hW1, W1nx, q0, q1, ← hY1, q2, ← hY2, ck, zr, zn, ← hp2, ← hZ2, q3, ← hY3, ← hp3, ← hZ3, q4, ← hY4, ← hp4, ← hZ4, Yp2, Zp2, Yp3, Zp3, Yp4, Zp4, pn2, pr2, pn3, pr3, pn4, pr4, p4g, nm, ea, ed, c0g, c1g, c2g, c3g, c4g, c5g, q9, ← hY9, en, S9p, S9z, e1]
      refine store_step (Q := Q) (by rw [zn]; rfl) rfl fun b' hn' hr' hl' hg' => ?_
      rw [zn] at hl'
      simp only [go_sem, hl']
      exact endZ Y9 S9z S9.E hok b' hl'
    have hm' : mayV (pP bs .nils) = true := hm
    rw [csq] at e1
    obtain ⟨Y10, hY10⟩ : ∃ Y, Y = x10.getD Y9 := ⟨_, rfl⟩
    rw [← hY10] at E10 B10
    have E9 : Ext h Y10 := S9.E.trans E10
    have Y10p : Y10.blk (h.nx + 1) = some p4 := (E10.blk S9.pn).trans S9p
    have Y10z : Y10.blk h.nx = some zb := (E10.blk (by have := S9.pn; omega)).trans S9z
    have pk256 : ∀ b ∈ pack (pP bs .nils), b < 256 := pack_byte hb hm'
    have B10 : BSl Y10 v10 (bc (pack (pP bs .nils))) := B10
    have eqq := equal_run hσ' B10 (B.ext E9) pk256 hb
    by_cases hq : pack (pP bs .nils) = bs
    · rw [decide_eq_true hq] at eqq
      have eqq : (lim Tryd.prog σ).call 45 [v10, v0] Y10 = some (.bool true, none) := eqq
      have hok : okP bs = true := by unfold okP; simp [hm', ee, hq, len9]
      simp only [go_sem, hzb', ← hW0, W0nx, bl, c0, ← hW1, W1nx, q0, q1, ← hY1, q2, ← hY2, ck, zr, zn, ← hp2, ← hZ2, q3, ← hY3, ← hp3, ← hZ3, q4, ← hY4, ← hp4, ← hZ4, Yp2, Zp2, Yp3, Zp3, Yp4, Zp4, pn2, pr2, pn3, pr3, pn4, pr4, p4g, nm, ea, ed, c0g, c1g, c2g, c3g, c4g, c5g, q9, ← hY9, en, S9p, S9z, e1, ← hY10, Y10p, Y10z, eqq]
      refine store_step (Q := Q) (by rw [zn]; rfl) (rfl) fun b' hn' hr' hl' hg' => ?_
      rw [zn] at hl'
      simp only [go_sem, hl']
      rw [hQ]
      have fz := of_good (v := .nils) (E9.put (.cells b') (Nat.le_refl h.nx)) hok (bsl_put (BV9.ext E10) (fun _ _ _ _ e => by cases e) _) (by intro i off l c e; first | (cases e; done) | (have := fr7 i off l c e; omega))
      rw [csq] at fz
      exact fz
    · rw [decide_eq_false hq] at eqq
      have eqq : (lim Tryd.prog σ).call 45 [v10, v0] Y10 = some (.bool false, none) := eqq
      have hok : okP bs = false := by unfold okP; simp [hq]
      simp only [go_sem, hzb', ← hW0, W0nx, bl, c0, ← hW1, W1nx, q0, q1, ← hY1, q2, ← hY2, ck, zr, zn, ← hp2, ← hZ2, q3, ← hY3, ← hp3, ← hZ3, q4, ← hY4, ← hp4, ← hZ4, Yp2, Zp2, Yp3, Zp3, Yp4, Zp4, pn2, pr2, pn3, pr3, pn4, pr4, p4g, nm, ea, ed, c0g, c1g, c2g, c3g, c4g, c5g, q9, ← hY9, en, S9p, S9z, e1, ← hY10, Y10p, Y10z, eqq]
      refine store_step (Q := Q) (by rw [zn]; rfl) rfl fun b' hn' hr' hl' hg' => ?_
      rw [zn] at hl'
      simp only [go_sem, hl']
      exact endZ Y10 Y10z E9 hok b' hl'
  obtain ⟨x5, q5, R5, F5, _⟩ := num_s hσ' T4.R (n := 8) rfl B4
  have q5 : (lim Tryd.prog σ).call 42 [.ptr r 0, .int .i64 8] Z4 = some (u64 (numV (s4P bs) 8), x5) := q5
  obtain ⟨Y5, hY5⟩ : ∃ Y, Y = x5.getD Z4 := ⟨_, rfl⟩
  rw [← hY5] at R5 F5
  have s5e : nxt (s4P bs) 8 = s5P bs := by unfold s5P; simp [ea]
  rw [s5e] at R5
  have S5 := T4.call R5 F5
  obtain ⟨p5, hp5⟩ : ∃ p, p = p4.st 3 (u64 (numV (s4P bs) 8)) := ⟨_, rfl⟩
  have pn5 : p5.n = 6 := by rw [hp5, st_n]; exact pn4
  have pr5 : p5.ro = false := by rw [hp5, st_ro]; exact pr4
  obtain ⟨Z5, hZ5⟩ : ∃ Z, Z = Y5.put (h.nx + 1) (.cells p5) := ⟨_, rfl⟩
  have T5 : St h Z5 r lid (h.nx + 1) (s5P bs) p5 zb := by rw [hZ5]; exact S5.put p5
  have Yp5 := S5.p
  have Zp5 := T5.p
  have B5 : Bts (s5P bs) := by unfold s5P; simp only [ea]; exact B4.nxt 8
  cases ed : dataK (kP bs)
  · have s7e : s5P bs = s7P bs := by unfold s7P s6P; simp [ed]
    have T5 : St h Z5 r lid (h.nx + 1) (s7P bs) p5 zb := s7e ▸ T5
    have c0g : p5.get 0 = some (.int .i64 (kP bs)) := by rw [hp5, st_get_ne _ _ _ _ (by decide)]; exact p4g
    have c1g : p5.get 1 = some (u64 (numV (s2P bs) 8)) := by rw [hp5, st_get_ne _ _ _ _ (by decide), hp4, st_get_ne _ _ _ _ (by decide), hp3, st_get_same _ _ _ (by rw [pn2]; decide)]
    have c2g : p5.get 2 = some (u64 (numV (s3P bs) 8)) := by rw [hp5, st_get_ne _ _ _ _ (by decide), hp4, st_get_same _ _ _ (by rw [pn3]; decide)]
    have c3g : p5.get 3 = some (u64 (numV (s4P bs) 8)) := by rw [hp5, st_get_same _ _ _ (by rw [pn4]; decide)]
    have c4g : p5.get 4 = some (u64 0) := by rw [hp5, st_get_ne _ _ _ _ (by decide), hp4, st_get_ne _ _ _ _ (by decide), hp3, st_get_ne _ _ _ _ (by decide), hp2, st_get_ne _ _ _ _ (by decide)]; exact zg4
    have c5g : p5.get 5 = some .nils := by rw [hp5, st_get_ne _ _ _ _ (by decide), hp4, st_get_ne _ _ _ _ (by decide), hp3, st_get_ne _ _ _ _ (by decide), hp2, st_get_ne _ _ _ _ (by decide)]; exact zg5
    obtain ⟨v9, x9, q9, _, R9, F9, _, _⟩ := bytes_s hσ' T5.R (n := 4) (by omega)
    have q9 : (lim Tryd.prog σ).call 41 [.ptr r 0, .int .i64 4] Z5 = some (v9, x9) := q9
    obtain ⟨Y9, hY9⟩ : ∃ Y, Y = x9.getD Z5 := ⟨_, rfl⟩
    rw [← hY9] at R9 F9
    have S9 := T5.call R9 F9
    have s8e : nxt (s7P bs) 4 = s8P bs := rfl
    rw [s8e] at S9
    have S9p := S9.p
    have S9z := S9.z
    have en := end_s hσ' S9.R
    have BV9 : BSl Y9 (.nils) (bc (pP bs .nils).xs) := .inl ⟨by unfold pP; simp [ed, bc], rfl⟩
    cases ee : endV (s8P bs)
    · rw [ee] at en
      have en : (lim Tryd.prog σ).call 44 [.ptr r 0] Y9 = some (.int .i64 4, none) := en
      have hok : okP bs = false := by unfold okP; simp [ee]
      simp only [go_sem, hzb', ← hW0, W0nx, bl, c0, ← hW1, W1nx, q0, q1, ← hY1, q2, ← hY2, ck, zr, zn, ← hp2, ← hZ2, q3, ← hY3, ← hp3, ← hZ3, q4, ← hY4, ← hp4, ← hZ4, Yp2, Zp2, Yp3, Zp3, Yp4, Zp4, pn2, pr2, pn3, pr3, pn4, pr4, p4g, nm, ea, q5, ← hY5, ← hp5, ← hZ5, Yp5, Zp5, pn5, pr5, ed, c0g, c1g, c2g, c3g, c4g, c5g, q9, ← hY9, en, S9p, S9z]
      refine store_step (Q := Q) (by rw [zn]; rfl) rfl fun b' hn' hr' hl' hg' => ?_
      rw [zn] at hl'
      simp only [go_sem, hl']
      exact endZ Y9 S9z S9.E hok b' hl'
    rw [ee] at en
    have en : (lim Tryd.prog σ).call 44 [.ptr r 0] Y9 = some (.int .i64 0, none) := en
    have csq : (pP bs (.nils)).cs = [.int .i64 (kP bs), u64 (numV (s2P bs) 8), u64 (numV (s3P bs) 8), u64 (numV (s4P bs) 8), u64 (0), .nils] := by unfold pP Pk.cs; simp only [ea, ed]; rfl
    have k8 : (256 : Nat) ^ 8 = 2 ^ 64 := by decide
    have pok : PkOk (pP bs (.nils)) := by
      have h2 := num_lt B2 (k := 8)
      have h3 := num_lt B3 (k := 8)
      have h4 := num_lt B4 (k := 8)
      have h5 := num_lt B5 (k := 8)
      rw [k8] at h2 h3 h4 h5
      have hif : ∀ (c : Bool) (n : Nat), n < 2 ^ 64 → (if c = true then n else 0) < 2 ^ 64 := fun c n hn => by
        cases c
        · exact (by decide : 0 < 2 ^ 64)
        · exact hn
      exact ⟨h2, h3, hif _ _ h4, hif _ _ h5⟩
    have len9 : bs.length ≤ 4041 := by omega
    rcases bytes_pk hσ (g.ext S9.E) (pP bs (.nils)) pok BV9 with ⟨hm, e1⟩ | ⟨hm, v10, x10, e1, E10, B10⟩
    · have hm' : mayV (pP bs .nils) = false := hm
      rw [csq] at e1
      have hok : okP bs = false := by unfold okP; simp [hm']
      simp only [go_sem, hzb', ← hW0, W0nx, bl, c0, ← hW1, W1nx, q0, q1, ← hY1, q2, ← hY2, ck, zr, zn, ← hp2, ← hZ2, q3, ← hY3, ← hp3, ← hZ3, q4, ← hY4, ← hp4, ← hZ4, Yp2, Zp2, Yp3, Zp3, Yp4, Zp4, pn2, pr2, pn3, pr3, pn4, pr4, p4g, nm, ea, q5, ← hY5, ← hp5, ← hZ5, Yp5, Zp5, pn5, pr5, ed, c0g, c1g, c2g, c3g, c4g, c5g, q9, ← hY9, en, S9p, S9z, e1]
      refine store_step (Q := Q) (by rw [zn]; rfl) rfl fun b' hn' hr' hl' hg' => ?_
      rw [zn] at hl'
      simp only [go_sem, hl']
      exact endZ Y9 S9z S9.E hok b' hl'
    have hm' : mayV (pP bs .nils) = true := hm
    rw [csq] at e1
    obtain ⟨Y10, hY10⟩ : ∃ Y, Y = x10.getD Y9 := ⟨_, rfl⟩
    rw [← hY10] at E10 B10
    have E9 : Ext h Y10 := S9.E.trans E10
    have Y10p : Y10.blk (h.nx + 1) = some p5 := (E10.blk S9.pn).trans S9p
    have Y10z : Y10.blk h.nx = some zb := (E10.blk (by have := S9.pn; omega)).trans S9z
    have pk256 : ∀ b ∈ pack (pP bs .nils), b < 256 := pack_byte hb hm'
    have B10 : BSl Y10 v10 (bc (pack (pP bs .nils))) := B10
    have eqq := equal_run hσ' B10 (B.ext E9) pk256 hb
    by_cases hq : pack (pP bs .nils) = bs
    · rw [decide_eq_true hq] at eqq
      have eqq : (lim Tryd.prog σ).call 45 [v10, v0] Y10 = some (.bool true, none) := eqq
      have hok : okP bs = true := by unfold okP; simp [hm', ee, hq, len9]
      simp only [go_sem, hzb', ← hW0, W0nx, bl, c0, ← hW1, W1nx, q0, q1, ← hY1, q2, ← hY2, ck, zr, zn, ← hp2, ← hZ2, q3, ← hY3, ← hp3, ← hZ3, q4, ← hY4, ← hp4, ← hZ4, Yp2, Zp2, Yp3, Zp3, Yp4, Zp4, pn2, pr2, pn3, pr3, pn4, pr4, p4g, nm, ea, q5, ← hY5, ← hp5, ← hZ5, Yp5, Zp5, pn5, pr5, ed, c0g, c1g, c2g, c3g, c4g, c5g, q9, ← hY9, en, S9p, S9z, e1, ← hY10, Y10p, Y10z, eqq]
      refine store_step (Q := Q) (by rw [zn]; rfl) (rfl) fun b' hn' hr' hl' hg' => ?_
      rw [zn] at hl'
      simp only [go_sem, hl']
      rw [hQ]
      have fz := of_good (v := .nils) (E9.put (.cells b') (Nat.le_refl h.nx)) hok (bsl_put (BV9.ext E10) (fun _ _ _ _ e => by cases e) _) (by intro i off l c e; first | (cases e; done) | (have := fr7 i off l c e; omega))
      rw [csq] at fz
      exact fz
    · rw [decide_eq_false hq] at eqq
      have eqq : (lim Tryd.prog σ).call 45 [v10, v0] Y10 = some (.bool false, none) := eqq
      have hok : okP bs = false := by unfold okP; simp [hq]
      simp only [go_sem, hzb', ← hW0, W0nx, bl, c0, ← hW1, W1nx, q0, q1, ← hY1, q2, ← hY2, ck, zr, zn, ← hp2, ← hZ2, q3, ← hY3, ← hp3, ← hZ3, q4, ← hY4, ← hp4, ← hZ4, Yp2, Zp2, Yp3, Zp3, Yp4, Zp4, pn2, pr2, pn3, pr3, pn4, pr4, p4g, nm, ea, q5, ← hY5, ← hp5, ← hZ5, Yp5, Zp5, pn5, pr5, ed, c0g, c1g, c2g, c3g, c4g, c5g, q9, ← hY9, en, S9p, S9z, e1, ← hY10, Y10p, Y10z, eqq]
      refine store_step (Q := Q) (by rw [zn]; rfl) rfl fun b' hn' hr' hl' hg' => ?_
      rw [zn] at hl'
      simp only [go_sem, hl']
      exact endZ Y10 Y10z E9 hok b' hl'
  · obtain ⟨x6, q6, R6, F6, _⟩ := num_s hσ' T5.R (n := 8) rfl B5
    have q6 : (lim Tryd.prog σ).call 42 [.ptr r 0, .int .i64 8] Z5 = some (u64 (numV (s5P bs) 8), x6) := q6
    obtain ⟨Y6, hY6⟩ : ∃ Y, Y = x6.getD Z5 := ⟨_, rfl⟩
    rw [← hY6] at R6 F6
    have s6e : nxt (s5P bs) 8 = s6P bs := by unfold s6P; simp [ed]
    rw [s6e] at R6
    have S6 := T5.call R6 F6
    obtain ⟨p6, hp6⟩ : ∃ p, p = p5.st 4 (u64 (numV (s5P bs) 8)) := ⟨_, rfl⟩
    have pn6 : p6.n = 6 := by rw [hp6, st_n]; exact pn5
    have pr6 : p6.ro = false := by rw [hp6, st_ro]; exact pr5
    obtain ⟨Z6, hZ6⟩ : ∃ Z, Z = Y6.put (h.nx + 1) (.cells p6) := ⟨_, rfl⟩
    have T6 : St h Z6 r lid (h.nx + 1) (s6P bs) p6 zb := by rw [hZ6]; exact S6.put p6
    have Yp6 := S6.p
    have Zp6 := T6.p
    have B6 : Bts (s6P bs) := by unfold s6P; simp only [ed]; exact B5.nxt 8
    obtain ⟨v7, x7, q7, BV7, R7, F7, fr7⟩ := blob_s hσ' T6.R B6
    obtain ⟨Y7, hY7⟩ : ∃ Y, Y = x7.getD Z6 := ⟨_, rfl⟩
    rw [← hY7] at R7 F7 BV7
    have s7e : nxtB (s6P bs) = s7P bs := by unfold s7P; simp [ed]
    rw [s7e] at R7
    have S7 := T6.call R7 F7
    obtain ⟨p7, hp7⟩ : ∃ p, p = p6.st 5 v7 := ⟨_, rfl⟩
    have pn7 : p7.n = 6 := by rw [hp7, st_n]; exact pn6
    have pr7 : p7.ro = false := by rw [hp7, st_ro]; exact pr6
    obtain ⟨Z7, hZ7⟩ : ∃ Z, Z = Y7.put (h.nx + 1) (.cells p7) := ⟨_, rfl⟩
    have T7 : St h Z7 r lid (h.nx + 1) (s7P bs) p7 zb := by rw [hZ7]; exact S7.put p7
    have Yp7 := S7.p
    have Zp7 := T7.p
    have ov := BV7.one.1
    have oc := BV7.one.2
    have rlt : r < Z6.nx := T6.R.lt
    have plt : h.nx + 1 < Z6.nx := T6.pn
    have BZ7 : BSl Z7 v7 (bc (blobV (s6P bs))) := by rw [hZ7]; exact bsl_put BV7 (fun id off l c e => by have := fr7 id off l c e; omega) _
    have xse : (pP bs .nils).xs = blobV (s6P bs) := by unfold pP; simp [ed]
    have c0g : p7.get 0 = some (.int .i64 (kP bs)) := by rw [hp7, st_get_ne _ _ _ _ (by decide), hp6, st_get_ne _ _ _ _ (by decide), hp5, st_get_ne _ _ _ _ (by decide)]; exact p4g
    have c1g : p7.get 1 = some (u64 (numV (s2P bs) 8)) := by rw [hp7, st_get_ne _ _ _ _ (by decide), hp6, st_get_ne _ _ _ _ (by decide), hp5, st_get_ne _ _ _ _ (by decide), hp4, st_get_ne _ _ _ _ (by decide), hp3, st_get_same _ _ _ (by rw [pn2]; decide)]
    have c2g : p7.get 2 = some (u64 (numV (s3P bs) 8)) := by rw [hp7, st_get_ne _ _ _ _ (by decide), hp6, st_get_ne _ _ _ _ (by decide), hp5, st_get_ne _ _ _ _ (by decide), hp4, st_get_same _ _ _ (by rw [pn3]; decide)]
    have c3g : p7.get 3 = some (u64 (numV (s4P bs) 8)) := by rw [hp7, st_get_ne _ _ _ _ (by decide), hp6, st_get_ne _ _ _ _ (by decide), hp5, st_get_same _ _ _ (by rw [pn4]; decide)]
    have c4g : p7.get 4 = some (u64 (numV (s5P bs) 8)) := by rw [hp7, st_get_ne _ _ _ _ (by decide), hp6, st_get_same _ _ _ (by rw [pn5]; decide)]
    have c5g : p7.get 5 = some v7 := by rw [hp7, st_get_same _ _ _ (by rw [pn6]; decide)]
    obtain ⟨v9, x9, q9, _, R9, F9, _, _⟩ := bytes_s hσ' T7.R (n := 4) (by omega)
    have q9 : (lim Tryd.prog σ).call 41 [.ptr r 0, .int .i64 4] Z7 = some (v9, x9) := q9
    obtain ⟨Y9, hY9⟩ : ∃ Y, Y = x9.getD Z7 := ⟨_, rfl⟩
    rw [← hY9] at R9 F9
    have S9 := T7.call R9 F9
    have s8e : nxt (s7P bs) 4 = s8P bs := rfl
    rw [s8e] at S9
    have S9p := S9.p
    have S9z := S9.z
    have en := end_s hσ' S9.R
    have BV9 : BSl Y9 (v7) (bc (pP bs .nils).xs) := by rw [xse]; exact bsl_rfr BZ7 F9 (fun id off l c e => by have := fr7 id off l c e; omega)
    cases ee : endV (s8P bs)
    · rw [ee] at en
      have en : (lim Tryd.prog σ).call 44 [.ptr r 0] Y9 = some (.int .i64 4, none) := en
      have hok : okP bs = false := by unfold okP; simp [ee]
      simp only [go_sem, hzb', ← hW0, W0nx, bl, c0, ← hW1, W1nx, q0, q1, ← hY1, q2, ← hY2, ck, zr, zn, ← hp2, ← hZ2, q3, ← hY3, ← hp3, ← hZ3, q4, ← hY4, ← hp4, ← hZ4, Yp2, Zp2, Yp3, Zp3, Yp4, Zp4, pn2, pr2, pn3, pr3, pn4, pr4, p4g, nm, ea, q5, ← hY5, ← hp5, ← hZ5, Yp5, Zp5, pn5, pr5, ed, q6, ← hY6, ← hp6, ← hZ6, Yp6, Zp6, pn6, pr6, q7, ← hY7, ← hp7, ← hZ7, Yp7, Zp7, pn7, pr7, ov, oc, c0g, c1g, c2g, c3g, c4g, c5g, q9, ← hY9, en, S9p, S9z]
      refine store_step (Q := Q) (by rw [zn]; rfl) rfl fun b' hn' hr' hl' hg' => ?_
      rw [zn] at hl'
      simp only [go_sem, hl']
      exact endZ Y9 S9z S9.E hok b' hl'
    rw [ee] at en
    have en : (lim Tryd.prog σ).call 44 [.ptr r 0] Y9 = some (.int .i64 0, none) := en
    have csq : (pP bs (v7)).cs = [.int .i64 (kP bs), u64 (numV (s2P bs) 8), u64 (numV (s3P bs) 8), u64 (numV (s4P bs) 8), u64 (numV (s5P bs) 8), v7] := by unfold pP Pk.cs; simp only [ea, ed]; rfl
    have k8 : (256 : Nat) ^ 8 = 2 ^ 64 := by decide
    have pok : PkOk (pP bs (v7)) := by
      have h2 := num_lt B2 (k := 8)
      have h3 := num_lt B3 (k := 8)
      have h4 := num_lt B4 (k := 8)
      have h5 := num_lt B5 (k := 8)
      rw [k8] at h2 h3 h4 h5
      have hif : ∀ (c : Bool) (n : Nat), n < 2 ^ 64 → (if c = true then n else 0) < 2 ^ 64 := fun c n hn => by
        cases c
        · exact (by decide : 0 < 2 ^ 64)
        · exact hn
      exact ⟨h2, h3, hif _ _ h4, hif _ _ h5⟩
    have len9 : bs.length ≤ 4041 := by omega
    rcases bytes_pk hσ (g.ext S9.E) (pP bs (v7)) pok BV9 with ⟨hm, e1⟩ | ⟨hm, v10, x10, e1, E10, B10⟩
    · have hm' : mayV (pP bs .nils) = false := hm
      rw [csq] at e1
      have hok : okP bs = false := by unfold okP; simp [hm']
      simp only [go_sem, hzb', ← hW0, W0nx, bl, c0, ← hW1, W1nx, q0, q1, ← hY1, q2, ← hY2, ck, zr, zn, ← hp2, ← hZ2, q3, ← hY3, ← hp3, ← hZ3, q4, ← hY4, ← hp4, ← hZ4, Yp2, Zp2, Yp3, Zp3, Yp4, Zp4, pn2, pr2, pn3, pr3, pn4, pr4, p4g, nm, ea, q5, ← hY5, ← hp5, ← hZ5, Yp5, Zp5, pn5, pr5, ed, q6, ← hY6, ← hp6, ← hZ6, Yp6, Zp6, pn6, pr6, q7, ← hY7, ← hp7, ← hZ7, Yp7, Zp7, pn7, pr7, ov, oc, c0g, c1g, c2g, c3g, c4g, c5g, q9, ← hY9, en, S9p, S9z, e1]
      refine store_step (Q := Q) (by rw [zn]; rfl) rfl fun b' hn' hr' hl' hg' => ?_
      rw [zn] at hl'
      simp only [go_sem, hl']
      exact endZ Y9 S9z S9.E hok b' hl'
    have hm' : mayV (pP bs .nils) = true := hm
    rw [csq] at e1
    obtain ⟨Y10, hY10⟩ : ∃ Y, Y = x10.getD Y9 := ⟨_, rfl⟩
    rw [← hY10] at E10 B10
    have E9 : Ext h Y10 := S9.E.trans E10
    have Y10p : Y10.blk (h.nx + 1) = some p7 := (E10.blk S9.pn).trans S9p
    have Y10z : Y10.blk h.nx = some zb := (E10.blk (by have := S9.pn; omega)).trans S9z
    have pk256 : ∀ b ∈ pack (pP bs .nils), b < 256 := pack_byte hb hm'
    have B10 : BSl Y10 v10 (bc (pack (pP bs .nils))) := B10
    have eqq := equal_run hσ' B10 (B.ext E9) pk256 hb
    by_cases hq : pack (pP bs .nils) = bs
    · rw [decide_eq_true hq] at eqq
      have eqq : (lim Tryd.prog σ).call 45 [v10, v0] Y10 = some (.bool true, none) := eqq
      have hok : okP bs = true := by unfold okP; simp [hm', ee, hq, len9]
      simp only [go_sem, hzb', ← hW0, W0nx, bl, c0, ← hW1, W1nx, q0, q1, ← hY1, q2, ← hY2, ck, zr, zn, ← hp2, ← hZ2, q3, ← hY3, ← hp3, ← hZ3, q4, ← hY4, ← hp4, ← hZ4, Yp2, Zp2, Yp3, Zp3, Yp4, Zp4, pn2, pr2, pn3, pr3, pn4, pr4, p4g, nm, ea, q5, ← hY5, ← hp5, ← hZ5, Yp5, Zp5, pn5, pr5, ed, q6, ← hY6, ← hp6, ← hZ6, Yp6, Zp6, pn6, pr6, q7, ← hY7, ← hp7, ← hZ7, Yp7, Zp7, pn7, pr7, ov, oc, c0g, c1g, c2g, c3g, c4g, c5g, q9, ← hY9, en, S9p, S9z, e1, ← hY10, Y10p, Y10z, eqq]
      refine store_step (Q := Q) (by rw [zn]; rfl) (by show (true && (true && (true && (true && (true && (CV.one v7 && true)))))) = true; rw [ov]; rfl) fun b' hn' hr' hl' hg' => ?_
      rw [zn] at hl'
      simp only [go_sem, hl']
      rw [hQ]
      have fz := of_good (v := v7) (E9.put (.cells b') (Nat.le_refl h.nx)) hok (bsl_put (BV9.ext E10) (fun id off l c e => by have := fr7 id off l c e; omega) _) (by intro i off l c e; first | (cases e; done) | (have := fr7 i off l c e; omega))
      rw [csq] at fz
      exact fz
    · rw [decide_eq_false hq] at eqq
      have eqq : (lim Tryd.prog σ).call 45 [v10, v0] Y10 = some (.bool false, none) := eqq
      have hok : okP bs = false := by unfold okP; simp [hq]
      simp only [go_sem, hzb', ← hW0, W0nx, bl, c0, ← hW1, W1nx, q0, q1, ← hY1, q2, ← hY2, ck, zr, zn, ← hp2, ← hZ2, q3, ← hY3, ← hp3, ← hZ3, q4, ← hY4, ← hp4, ← hZ4, Yp2, Zp2, Yp3, Zp3, Yp4, Zp4, pn2, pr2, pn3, pr3, pn4, pr4, p4g, nm, ea, q5, ← hY5, ← hp5, ← hZ5, Yp5, Zp5, pn5, pr5, ed, q6, ← hY6, ← hp6, ← hZ6, Yp6, Zp6, pn6, pr6, q7, ← hY7, ← hp7, ← hZ7, Yp7, Zp7, pn7, pr7, ov, oc, c0g, c1g, c2g, c3g, c4g, c5g, q9, ← hY9, en, S9p, S9z, e1, ← hY10, Y10p, Y10z, eqq]
      refine store_step (Q := Q) (by rw [zn]; rfl) rfl fun b' hn' hr' hl' hg' => ?_
      rw [zn] at hl'
      simp only [go_sem, hl']
      exact endZ Y10 Y10z E9 hok b' hl'
end Go.Cl.Sh.W

namespace Go.Cl.Sh.W
variable {σ : Sums}
set_option maxRecDepth 1000000

def RB (h : H) (id : Nat) (v : CV) (rest : List Nat) : Prop := ∃ off c b, v = .sl id off rest.length (.exact c) ∧ rest.length ≤ c ∧ id < h.nx ∧ h.blk id = some b ∧ b.loadN off rest.length = some (bc rest)
structure RrAt (h : H) (r id : Nat) (rest : List Nat) (bad : Bool) : Prop where
  lt : r < h.nx
  ne : id ≠ r
  blk : ∃ b v, h.blk r = some b ∧ b.ro = false ∧ b.n = 2 ∧ b.get 0 = some v ∧ b.get 1 = some (.bool bad) ∧ RB h id v rest
theorem RB.len {h : H} {id : Nat} {v : CV} {rest : List Nat} (R : RB h id v rest) (h' : H) : builtinT Tryd.prog h' .len [24] [v] = some (.val (.int .i64 (Int.ofNat rest.length))) := by
  obtain ⟨off, c, b, rfl, _⟩ := R
  exact len_24 _ _ _ _ _ _ _
theorem RB.one {h : H} {id : Nat} {v : CV} {rest : List Nat} (R : RB h id v rest) : v.one = true ∧ v.cells = [v] := by
  obtain ⟨off, c, b, rfl, _⟩ := R
  exact ⟨rfl, rfl⟩
theorem RB.mono {h h' : H} {id : Nat} {v : CV} {rest : List Nat} (R : RB h id v rest) (hn : h.nx ≤ h'.nx) (hb : h'.blk id = h.blk id) : RB h' id v rest := by
  obtain ⟨off, c, b, h1, h2, h3, h4, h5⟩ := R
  exact ⟨off, c, b, h1, h2, Nat.lt_of_lt_of_le h3 hn, hb.trans h4, h5⟩
theorem RB.cut {h : H} {id : Nat} {v : CV} {rest : List Nat} (R : RB h id v rest) {n : Nat} (hn : n ≤ rest.length) (X : H) :
    ∃ a b, sliceT Tryd.prog X 24 v none (some (.int .i64 (Int.ofNat n))) none = some a ∧ sliceT Tryd.prog X 24 v (some (.int .i64 (Int.ofNat n))) none none = some b ∧ RB h id a (rest.take n) ∧ RB h id b (rest.drop n) := by
  obtain ⟨off, c, b, rfl, h2, h3, h4, h5⟩ := R
  obtain ⟨d1, d2⟩ := drop_load h5 hn
  have l1 : (rest.take n).length = n := by rw [List.length_take]; omega
  have l2 : (rest.drop n).length = rest.length - n := List.length_drop
  refine ⟨.sl id off n (.exact c), .sl id (if c = n then off else off + n) (rest.length - n) (.exact (c - n)), ?_, ?_, ⟨off, c, b, by rw [l1], by omega, h3, h4, by rw [l1]; exact d1⟩, ?_⟩
  · simp only [sliceT, Tryd.underlying24, Option.bind_some, sz_5, sliceExact, bnd, toN, Int.ofNat_eq_natCast, Nat.mul_one]
    simp [ble_eq', beq_eq', show n ≤ c by omega]
  · simp only [sliceT, Tryd.underlying24, Option.bind_some, sz_5, sliceExact, bnd, toN, Int.ofNat_eq_natCast, Nat.mul_one]
    simp [ble_eq', beq_eq', h2, hn]
  · by_cases q : c = n
    · have hz : rest.length - n = 0 := by omega
      refine ⟨off, c - n, b, by rw [if_pos q, l2], by omega, h3, h4, ?_⟩
      rw [l2, hz]
      have : rest.drop n = [] := List.length_eq_zero_iff.1 (by omega)
      rw [this]; rfl
    · exact ⟨off + n, c - n, b, by rw [if_neg q, l2], by omega, h3, h4, by rw [l2]; exact d2⟩
theorem RB.bsl {h : H} {id : Nat} {v : CV} {rest : List Nat} (R : RB h id v rest) : BSl h v (bc rest) := by
  obtain ⟨off, c, b, rfl, h2, h3, h4, h5⟩ := R
  exact .inr (.inr ⟨id, off, .exact c, b, by rw [bc_len], h3, h4, by rw [bc_len]; exact h5⟩)

def cutV (rest : List Nat) (bad : Bool) (n : Nat) : List Nat := if bad = false ∧ n ≤ rest.length then rest.take n else []
def cutR (rest : List Nat) (bad : Bool) (n : Nat) : List Nat := if bad = false ∧ n ≤ rest.length then rest.drop n else rest
def cutB (rest : List Nat) (bad : Bool) (n : Nat) : Bool := if bad = false ∧ n ≤ rest.length then false else true
def CutS (h : H) (r id : Nat) (rest : List Nat) (bad : Bool) (n : Nat) (o : Option (CV × Option H)) : Prop :=
  ∃ v h', o = some (v, some h') ∧ BSl h' v (bc (cutV rest bad n)) ∧ RrAt h' r id (cutR rest bad n) (cutB rest bad n) ∧ RFr h h' r ∧ h'.low ≤ r ∧ ∀ i off l c, v = .sl i off l c → i = id
theorem cut_run (hσ : ∀ f a h, told f = false → σ f a h = none) {h : H} {r id : Nat} {rest : List Nat} {bad : Bool} (R : RrAt h r id rest bad) (n : Nat) :
    CutS h r id rest bad n ((lim Tryd.prog σ).call 73 [.ptr r 0, .int .i64 (Int.ofNat n)] h) := by
  obtain ⟨b, v, hb, hro, hbn, h0, h1, RB0⟩ := R.blk
  have hlt := R.lt
  have hne := R.ne
  obtain ⟨Q, hQ⟩ : ∃ Q, Q = CutS h r id rest bad n := ⟨_, rfl⟩
  rw [← hQ]
  rw [call_eq (hσ _ _ _ (by decide)) fn_73 rfl rfl, Tryd.ntmps73, Tryd.results73]
  have c1 : ¬ Int.ofNat n < 0 := by simp
  have hl := RB0.len
  have badE : (¬ (bad = false ∧ n ≤ rest.length)) → Q (some (fin h (h.lo.put r (.cells (b.st 1 (.bool true)))) .nils)) := fun hb' => by
    rw [hQ, fin_l _ _ _ (by simp only [go_sem]; omega)]
    refine ⟨.nils, _, rfl, .inl ⟨by unfold cutV; rw [if_neg hb']; rfl, rfl⟩, ⟨by simp only [go_sem]; exact hlt, hne, _, v, put_blk_same _ _ _, by simp only [go_sem, hro], by simp only [go_sem, hbn], by simp only [go_sem, hbn, h0], by unfold cutB; rw [if_neg hb']; simp only [go_sem, hbn], ?_⟩, ⟨Nat.le_refl _, rfl, fun k hk hkr => put_get_ne _ _ _ _ hkr⟩, by simp only [go_sem]; omega, fun _ _ _ _ e => by cases e⟩
    unfold cutR; rw [if_neg hb']
    exact RB.mono (h' := (h.lo.put r (.cells (b.st 1 (.bool true)))).up _) RB0 (Nat.le_refl _) (put_blk_ne h.lo r _ id hne)
  cases bad
  · by_cases hn : n ≤ rest.length
    · have c2 : ¬ Int.ofNat n > Int.ofNat rest.length := by simp; omega
      obtain ⟨x, y, e1, e2, Bx, By⟩ := RB0.cut hn h.lo
      have oy := By.one
      simp only [go_sem, hb, h0, h1, hro, hbn, hl, c1, c2, e1, e2, oy]
      rw [hQ, fin_l _ _ _ (by simp only [go_sem]; omega)]
      have hc : (false = false ∧ n ≤ rest.length) := ⟨rfl, hn⟩
      refine ⟨x, _, rfl, ?_, ⟨by simp only [go_sem]; exact hlt, hne, _, y, put_blk_same _ _ _, by simp only [go_sem, hro], by simp only [go_sem, hbn], by simp only [go_sem, hbn], by unfold cutB; rw [if_pos hc]; simp only [go_sem, hbn, h1], ?_⟩, ⟨Nat.le_refl _, rfl, fun k hk hkr => put_get_ne _ _ _ _ hkr⟩, by simp only [go_sem]; omega, fun i off l c e => ?_⟩
      · unfold cutV; rw [if_pos hc]
        exact (RB.mono (h' := (h.lo.put r (.cells (b.st 0 y))).up _) Bx (Nat.le_refl _) (put_blk_ne h.lo r _ id hne)).bsl
      · unfold cutR; rw [if_pos hc]
        exact RB.mono (h' := (h.lo.put r (.cells (b.st 0 y))).up _) By (Nat.le_refl _) (put_blk_ne h.lo r _ id hne)
      · obtain ⟨_, _, _, h9, _⟩ := Bx
        rw [h9] at e; cases e; rfl
    · have c2 : Int.ofNat n > Int.ofNat rest.length := by simp; omega
      simp only [go_sem, hb, h0, h1, hro, hbn, hl, c1, c2]
      exact badE fun q => hn q.2
  · simp only [go_sem, hb, h0, h1, hro, hbn, hl, c1]
    exact badE fun q => by cases q.1
end Go.Cl.Sh.W

namespace Go.Cl.Sh.W
variable {σ : Sums}
set_option maxRecDepth 1000000

theorem rsize_run (hσ : ∀ f a h, told f = false → σ f a h = none) (h : H) (n : Int) : (lim Tryd.prog σ).call 72 [.int .i64 n] h = some (.bool (decide (n = 1 ∨ n = 2 ∨ n = 4 ∨ n = 8)), none) := by
  rw [call_eq (hσ _ _ _ (by decide)) fn_72 rfl rfl, Tryd.ntmps72, Tryd.results72]
  by_cases h1 : n = 1
  · subst h1; simp only [go_sem, true_or]; rw [fin_q _ _ _ rfl rfl]
  by_cases h2 : n = 2
  · subst h2; simp only [go_sem, true_or, or_true]; rw [fin_q _ _ _ rfl rfl]
  by_cases h4 : n = 4
  · subst h4; simp only [go_sem, true_or, or_true]; rw [fin_q _ _ _ rfl rfl]
  by_cases h8 : n = 8
  · subst h8; simp only [go_sem, true_or, or_true]; rw [fin_q _ _ _ rfl rfl]
  simp only [go_sem, h1, h2, h4, h8, or_self]
  rw [fin_q _ _ _ rfl rfl]
theorem rsh_valk {l : List Nat} (hl : l.length ≤ 8) (hb : ∀ b ∈ l, b < 256) : rshV l l.length = BitVec.ofNat 64 (valB l) := by
  apply BitVec.eq_of_toNat_eq
  have h1 := rshV_nat hb l.length hl
  have h2 := natV_lt hb l.length
  have e : (256 : Nat) ^ 8 = 2 ^ 64 := by decide
  have h3 : 256 ^ l.length ≤ 256 ^ 8 := Nat.pow_le_pow_right (by decide) hl
  rw [h1, natV_app l l.length (Nat.le_refl _), List.take_length, BitVec.toNat_ofNat]
  rw [natV_app l l.length (Nat.le_refl _), List.take_length] at h2
  rw [Nat.mod_eq_of_lt (by omega)]
theorem rsh_u64 {l : List Nat} (hl : l.length ≤ 8) (hb : ∀ b ∈ l, b < 256) : w64 (rshV l l.length) = u64 (valB l) := by
  have h2 := valB_lt l.length l rfl hb
  have h3 : 256 ^ l.length ≤ 256 ^ 8 := Nat.pow_le_pow_right (by decide) hl
  have e : (256 : Nat) ^ 8 = 2 ^ 64 := by decide
  rw [rsh_valk hl hb]
  unfold w64 u64
  rw [BitVec.toNat_ofNat, Nat.mod_eq_of_lt (by omega)]
theorem cutV_len (rest : List Nat) (bad : Bool) (n : Nat) : (cutV rest bad n).length ≤ n := by
  unfold cutV; split
  · rw [List.length_take]; omega
  · exact Nat.zero_le _
theorem cutV_byte {rest : List Nat} (hb : ∀ b ∈ rest, b < 256) (bad : Bool) (n : Nat) : ∀ b ∈ cutV rest bad n, b < 256 := fun b hm => by
  unfold cutV at hm; split at hm
  · exact hb b (List.mem_of_mem_take hm)
  · cases hm
theorem cutR_byte {rest : List Nat} (hb : ∀ b ∈ rest, b < 256) (bad : Bool) (n : Nat) : ∀ b ∈ cutR rest bad n, b < 256 := fun b hm => by
  unfold cutR at hm; split at hm
  · exact hb b (List.mem_of_mem_drop hm)
  · exact hb b hm
def RNumS (h : H) (r id : Nat) (rest : List Nat) (bad : Bool) (n : Nat) (o : Option (CV × Option H)) : Prop :=
  ∃ h', o = some (u64 (valB (cutV rest bad n)), some h') ∧ RrAt h' r id (cutR rest bad n) (cutB rest bad n) ∧ RFr h h' r ∧ h'.low ≤ r
theorem RrAt.lo {h : H} {r id : Nat} {rest : List Nat} {bad : Bool} (R : RrAt h r id rest bad) : RrAt h.lo r id rest bad := by
  obtain ⟨b, v, q1, q2, q3, q4, q5, q6⟩ := R.blk
  exact ⟨R.lt, R.ne, b, v, q1, q2, q3, q4, q5, q6.mono (Nat.le_refl _) rfl⟩
theorem RrAt.up {h : H} {r id : Nat} {rest : List Nat} {bad : Bool} (R : RrAt h r id rest bad) (m : Nat) : RrAt (h.up m) r id rest bad := by
  obtain ⟨b, v, q1, q2, q3, q4, q5, q6⟩ := R.blk
  exact ⟨R.lt, R.ne, b, v, q1, q2, q3, q4, q5, q6.mono (Nat.le_refl _) rfl⟩
theorem rnum_s (hσ : ∀ f a h, told f = false → σ f a h = none) {h : H} {r id : Nat} {rest : List Nat} {bad : Bool} (R : RrAt h r id rest bad) (hb : ∀ b ∈ rest, b < 256) {n : Nat} (hs : sizeOk (Int.ofNat n) = true) :
    RNumS h r id rest bad n ((lim Tryd.prog σ).call 46 [.ptr r 0, .int .i64 (Int.ofNat n)] h) := by
  have hw := rsize_run hσ h.lo (Int.ofNat n)
  have hw : (lim Tryd.prog σ).call 72 [.int .i64 (Int.ofNat n)] h.lo = some (.bool true, none) := hw.trans (by rw [show decide (Int.ofNat n = 1 ∨ Int.ofNat n = 2 ∨ Int.ofNat n = 4 ∨ Int.ofNat n = 8) = true from hs])
  have hn8 : n ≤ 8 := by
    have : Int.ofNat n = 1 ∨ Int.ofNat n = 2 ∨ Int.ofNat n = 4 ∨ Int.ofNat n = 8 := of_decide_eq_true hs
    simp at this; omega
  obtain ⟨v, Y, e, B, R1, F, lo1, _⟩ := cut_run hσ R.lo n
  have hlt := R.lt
  obtain ⟨cs, hcs⟩ : ∃ cs, cs = cutV rest bad n := ⟨_, rfl⟩
  have hcl : cs.length ≤ n := by rw [hcs]; exact cutV_len _ _ _
  have hcb : ∀ b ∈ cs, b < 256 := by rw [hcs]; exact cutV_byte hb _ _
  rw [← hcs] at B
  obtain ⟨Q, hQ⟩ : ∃ Q, Q = RNumS h r id rest bad n := ⟨_, rfl⟩
  rw [← hQ]
  rw [call_eq (hσ _ _ _ (by decide)) fn_46 rfl rfl, Tryd.ntmps46, Tryd.results46]
  have l0 : CV.int .u64 0 = w64 (BitVec.ofNat 64 0) := rfl
  have l256 : CV.int .u64 256 = w64 (BitVec.ofNat 64 256) := rfl
  have hlen := B.len
  rw [bc_len] at hlen
  simp only [go_sem, wadd32, wmul32, wadd64, wmul64, wand32, wor32, wxor32, wand64, wor64, wnot32, wsub32, wsub64, wshr32l, wshl32l, wshr64l, wshl64l, wshr32w, wshl32w, wshr64w, wlt64, wgt64, weq64, wne64, hw, e, l0]
  refine loop_ind (Q := Q) (fun i env h' => evT env 5 = w64 (rshV cs i) ∧ evT env 6 = v ∧ evT env 7 = .int .i64 (Int.ofNat i) ∧ h' = Y) cs.length 0 ?_ (Nat.zero_le _) ?_ ?_
  · exact ⟨by simp only [go_sem]; rfl, by simp only [go_sem], by simp only [go_sem]; rfl, rfl⟩
  · rintro i env h' ⟨e5, e6, e7, rfl⟩ hi next
    have hbl : nth (bc cs) i = some (u8 (cs[i]?.getD 0)) := nth_lt hi
    obtain ⟨id', off, b0, ia, hb0, hg0, _⟩ := B.at_ hbl
    have c0 : Int.ofNat i < Int.ofNat cs.length := by simp; omega
    have w1 : IntKind.wrap .i64 (Int.ofNat i + 1) = Int.ofNat (i + 1) := wrap_n (by simp) (by omega)
    simp only [go_sem, wadd32, wmul32, wadd64, wmul64, wand32, wor32, wxor32, wand64, wor64, wnot32, wsub32, wsub64, wshr32l, wshl32l, wshr64l, wshl64l, wshr32w, wshl32w, wshr64w, wlt64, wgt64, weq64, wne64, l0, l256, e5, e6, e7, hlen, c0, w1, ia, hb0, hg0, cv531, Nat.mul_one, Nat.zero_add]
    exact next _ _ ⟨by simp only [go_sem, rshV], by simp only [go_sem, e6], by simp only [go_sem], rfl⟩
  · rintro env h' ⟨e5, e6, e7, rfl⟩
    have c0 : ¬ Int.ofNat cs.length < Int.ofNat cs.length := Int.lt_irrefl _
    simp only [go_sem, wadd32, wmul32, wadd64, wmul64, wand32, wor32, wxor32, wand64, wor64, wnot32, wsub32, wsub64, wshr32l, wshl32l, wshr64l, wshl64l, wshr32w, wshl32w, wshr64w, wlt64, wgt64, weq64, wne64, e5, e6, e7, hlen, c0]
    rw [hQ, fin_l _ _ _ (by omega), rsh_u64 (by omega) hcb, hcs]
    exact ⟨_, rfl, R1.up _, ⟨F.nx, F.gn, F.old⟩, by simp only [go_sem]; omega⟩
def rblobV (rest : List Nat) (bad : Bool) : List Nat := cutV (cutR rest bad 2) (cutB rest bad 2) (valB (cutV rest bad 2))
def rblobR (rest : List Nat) (bad : Bool) : List Nat := cutR (cutR rest bad 2) (cutB rest bad 2) (valB (cutV rest bad 2))
def rblobB (rest : List Nat) (bad : Bool) : Bool := cutB (cutR rest bad 2) (cutB rest bad 2) (valB (cutV rest bad 2))
theorem rblob_s (hσ : ∀ f a h, told f = false → σ f a h = none) {h : H} {r id : Nat} {rest : List Nat} {bad : Bool} (R : RrAt h r id rest bad) (hb : ∀ b ∈ rest, b < 256) :
    ∃ v h', (lim Tryd.prog σ).call 47 [.ptr r 0] h = some (v, some h') ∧ BSl h' v (bc (rblobV rest bad)) ∧ RrAt h' r id (rblobR rest bad) (rblobB rest bad) ∧ RFr h h' r ∧ ∀ i off l c, v = .sl i off l c → i = id := by
  obtain ⟨Y, e1, R1, F1, lo1⟩ := rnum_s hσ R.lo hb (n := 2) rfl
  have e1 : (lim Tryd.prog σ).call 46 [.ptr r 0, .int .i64 2] h.lo = some (.int .u64 (Int.ofNat (valB (cutV rest bad 2))), some Y) := e1
  obtain ⟨v, Z, e2, B2, R2, F2, lo2, hid⟩ := cut_run hσ R1 (valB (cutV rest bad 2))
  have hn : valB (cutV rest bad 2) < 65536 := by
    have h1 := valB_lt (cutV rest bad 2).length (cutV rest bad 2) rfl (cutV_byte hb _ _)
    exact Nat.lt_of_lt_of_le h1 (Nat.pow_le_pow_right (n := 256) (by decide) (cutV_len rest bad 2))
  have hw : IntKind.wrap .i64 (Int.ofNat (valB (cutV rest bad 2))) = Int.ofNat (valB (cutV rest bad 2)) := wrap_i64 (by simp) (by simp; omega)
  have hlt := R.lt
  rw [call_eq (hσ _ _ _ (by decide)) fn_47 rfl rfl, Tryd.ntmps47, Tryd.results47]
  simp only [go_sem, e1, hw, e2]
  rw [fin_l _ _ _ (by omega)]
  exact ⟨v, _, rfl, B2.ext (Ext.up _ _), R2.up _, ⟨Nat.le_trans F1.nx F2.nx, F2.gn.trans F1.gn, fun k hk hkr => (F2.old k (Nat.lt_of_lt_of_le hk F1.nx) hkr).trans (F1.old k hk hkr)⟩, hid⟩
theorem done_run (hσ : ∀ f a h, told f = false → σ f a h = none) {h : H} {r id : Nat} {rest : List Nat} {bad : Bool} (R : RrAt h r id rest bad) :
    Ret (.bool (!bad && decide (rest.length = 0))) ((lim Tryd.prog σ).call 48 [.ptr r 0] h) := by
  obtain ⟨b, v, hb, hro, hbn, h0, h1, RB0⟩ := R.blk
  have hl := RB0.len
  rw [call_eq (hσ _ _ _ (by decide)) fn_48 rfl rfl, Tryd.ntmps48, Tryd.results48]
  cases bad
  · by_cases q : rest.length = 0
    · have c0 : Int.ofNat rest.length = 0 := by rw [q]; rfl
      simp only [go_sem, hb, h0, h1, hl, c0]
      rw [fin_q _ _ _ rfl rfl]
      unfold Ret; simp [q]
    · have c0 : ¬ Int.ofNat rest.length = 0 := by simp; exact fun e => q (by rw [e]; rfl)
      simp only [go_sem, hb, h0, h1, hl, c0]
      rw [fin_q _ _ _ rfl rfl]
      unfold Ret; simp [q]
  · simp only [go_sem, hb, h0, h1, hl]
    rw [fin_q _ _ _ rfl rfl]
    rfl
end Go.Cl.Sh.W

namespace Go.Cl.Sh.W
variable {σ : Sums}
set_option maxRecDepth 1000000

theorem mk8 (h : H) {K : Nat} (hK : K ≤ 1000000) : mkS h 1 1 (some (.int .u8 0)) K K = some (.sl h.nx 0 K (.exact K), h.alloc (.cells { n := K * 1, d := [.int .u8 0], t := .nil })) := by
  unfold mkS
  rw [bind_some']
  have hg : (Nat.ble K K && Nat.ble (K * 1) 70368744177664 && Nat.ble K 70368744177664 && Nat.beq (CV.cells (.int .u8 0)).length 1 && Nat.blt 0 1 && (CV.cells (.int .u8 0)).all CV.one) = true := by
    simp only [blt_eq', ble_eq', beq_eq', Bool.and_eq_true, decide_eq_true_eq]
    refine ⟨⟨⟨⟨⟨by omega, by omega⟩, by omega⟩, rfl⟩, by decide⟩, rfl⟩
  rw [hg, cond_true]
  rfl
theorem tmod_nat (n : Nat) : (Int.ofNat n).tmod 256 = Int.ofNat (n % 256) := rfl
theorem tdiv_nat (n : Nat) : (Int.ofNat n).tdiv 256 = Int.ofNat (n / 256) := rfl
theorem tmod2_nat (n : Nat) : (Int.ofNat n).tmod 2 = Int.ofNat (n % 2) := rfl
theorem fin_bsl {h s : H} (E : Ext h s) {v : CV} {cs : List CV} (B : BSl s v cs) : ∃ x, fin h s v = (v, x) ∧ Ext h (x.getD h) ∧ BSl (x.getD h) v cs := by
  unfold fin
  cases q : (Nat.beq s.low h.nx && okB h.nx v)
  · exact ⟨_, rfl, E.up' _, B.ext (Ext.up _ _)⟩
  · refine ⟨_, rfl, Ext.refl h, ?_⟩
    rw [Bool.and_eq_true] at q
    rcases B with h1 | h1 | ⟨id, off, c, b, rfl, h2, h3, h4⟩
    · exact .inl h1
    · exact .inr (.inl h1)
    · have : id < h.nx := by have := q.2; simpa [okB, blt_eq'] using this
      exact .inr (.inr ⟨id, off, c, b, rfl, this, (E.blk this).symm.trans h3, h4⟩)
theorem fin_bslT {h s : H} (E : Ext h s) {v : CV} {cs : List CV} (B : BSl s v cs) (g : Bool) : ∃ x, fin h s (.tup [v, .bool g]) = (.tup [v, .bool g], x) ∧ Ext h (x.getD h) ∧ BSl (x.getD h) v cs := by
  unfold fin
  cases q : (Nat.beq s.low h.nx && okB h.nx (.tup [v, .bool g]))
  · exact ⟨_, rfl, E.up' _, B.ext (Ext.up _ _)⟩
  · refine ⟨_, rfl, Ext.refl h, ?_⟩
    rw [Bool.and_eq_true] at q
    rcases B with h1 | h1 | ⟨id, off, c, b, rfl, h2, h3, h4⟩
    · exact .inl h1
    · exact .inr (.inl h1)
    · have : id < h.nx := by have := q.2; simpa [okB, okBL, blt_eq'] using this
      exact .inr (.inr ⟨id, off, c, b, rfl, this, (E.blk this).symm.trans h3, h4⟩)
/-- what a function answers: bytes of one's own or read only, and what it leaves besides -/
def BOk (h : H) (xs : List Nat) (g : Bool) (r : Option (CV × Option H)) : Prop := ∃ v x, r = some (.tup [v, .bool g], x) ∧ Ext h (x.getD h) ∧ BSl (x.getD h) v (bc xs)
def POk (h : H) (xs : List Nat) (g : Bool) (z : Bool) (r : Option (CV × Option H)) : Prop := ∃ v x, r = some (.tup [v, .bool g], x) ∧ Ext h (x.getD h) ∧ BSl (x.getD h) v (bc xs) ∧ (z = true → ∃ id, h.nx ≤ id ∧ v = .sl id 0 xs.length (.exact xs.length))
theorem put_run (hσ : ∀ f a h, told f = false → σ f a h = none) (h : H) (n : Nat) (hn : n < 2 ^ 64) (k : Int) :
    POk h (if sizeOk k then be n k.toNat else []) (sizeOk k && decide (n / 256 ^ k.toNat = 0)) (sizeOk k) ((lim Tryd.prog σ).call 87 [.int .u64 (Int.ofNat n), .int .i64 k] h) := by
  have hw := rsize_run hσ h.lo k
  rw [call_eq (hσ _ _ _ (by decide)) fn_87 rfl rfl, Tryd.ntmps87, Tryd.results87]
  by_cases hs : k = 1 ∨ k = 2 ∨ k = 4 ∨ k = 8
  · have hso : sizeOk k = true := decide_eq_true hs
    rw [decide_eq_true hs] at hw
    obtain ⟨K, rfl, hK, hK8⟩ : ∃ K : Nat, k = Int.ofNat K ∧ 1 ≤ K ∧ K ≤ 8 := by
      rcases hs with rfl | rfl | rfl | rfl
      · exact ⟨1, rfl, by decide, by decide⟩
      · exact ⟨2, rfl, by decide, by decide⟩
      · exact ⟨4, rfl, by decide, by decide⟩
      · exact ⟨8, rfl, by decide, by decide⟩
    have e2 : IntKind.wrap .i64 (Int.ofNat K - 1) = Int.ofNat K - 1 := by
      rw [wrap_i64 (by simp; omega) (by simp; omega)]
    rw [hso, if_pos rfl, Bool.true_and]
    have hd0 : ∀ (x j : Nat), j < K → ({ n := K * 1, d := [CV.int .u8 0], t := .nil } : Blk).get j = some (.int .u8 0) := fun x j hj => by
      simp only [Blk.get, T.get]
      rw [blt_eq', decide_eq_true (by omega)]
      simp [Nat.mod_one]
      rfl
    simp only [go_sem, hw, e2, mk8 _ (show K ≤ 1000000 by omega)]
    refine loop_ind (Q := POk h (be n K) (decide (n / 256 ^ K = 0)) true) (fun i env h' => evT env 0 = .int .u64 (Int.ofNat (n / 256 ^ i)) ∧ evT env 6 = .sl h.nx 0 K (.exact K) ∧ evT env 7 = .int .i64 (Int.ofNat K - 1 - Int.ofNat i) ∧ Ext h h' ∧ h.nx < h'.nx ∧ h'.low ≤ h.nx ∧
      ∃ b, h'.blk h.nx = some b ∧ b.ro = false ∧ b.n = K ∧ ∀ j, j < K → K ≤ j + i → b.get j = some (.int .u8 (Int.ofNat (dig n K j)))) K 0 ?_ (Nat.zero_le _) ?_ ?_
    · refine ⟨by simp only [go_sem]; simp, by simp only [go_sem], ?_, (Ext.lo h).alloc' _, by simp only [go_sem], by simp only [go_sem]; exact Nat.le_refl _, _, alloc_blk_same _ _ _ rfl, rfl, Nat.mul_one _, fun j h1 h2 => by omega⟩
      simp only [go_sem]; congr 1; simp
    · rintro i env h' ⟨q0, q6, q7, E, hnx, hlow, b, hb, hro, hbn, hget⟩ hi next
      obtain ⟨j, hj⟩ : ∃ j, K - 1 - i = j := ⟨_, rfl⟩
      have q7' : evT env 7 = .int .i64 (Int.ofNat j) := by rw [q7]; congr 1; simp; omega
      have c1 : Int.ofNat j ≥ 0 := Int.natCast_nonneg _
      have c3 : IntKind.wrap .i64 (Int.ofNat j - 1) = Int.ofNat K - 1 - Int.ofNat (i + 1) := by
        rw [wrap_i64 (by simp; omega) (by simp; omega)]; simp; omega
      have c4 : IntKind.wrap .u64 (Int.ofNat (n / 256 ^ i / 256)) = Int.ofNat (n / 256 ^ (i + 1)) := by
        rw [Nat.div_div_eq_div_mul, ← Nat.pow_succ]
        exact wrap_u64 (Nat.lt_of_le_of_lt (Nat.div_le_self _ _) hn)
      have c5 : j < K := by omega
      simp only [go_sem, q0, q6, q7', c1, c3, c4, c5, hb, hro, hbn, tmod_nat, tdiv_nat, wrap_u8, Nat.mul_one]
      refine next _ _ ⟨by simp only [go_sem], by simp only [go_sem, q6], by simp only [go_sem], E.put _ (Nat.le_refl _), by simp only [go_sem, hnx], by simp only [go_sem]; omega, _, put_blk_same _ _ _, by simp only [go_sem, hro], by simp only [go_sem, hbn], fun j' h1 h2 => ?_⟩
      by_cases hjj : j' = j
      · subst hjj
        rw [st_get_same _ _ _ (by omega)]
        congr 2
        unfold dig
        rw [Nat.mod_mod, Nat.pow_mul, show K - 1 - j' = i by omega]
      · rw [st_get_ne _ _ _ _ hjj]
        exact hget j' h1 (by omega)
    · rintro env h' ⟨q0, q6, q7, E, hnx, hlow, b, hb, hro, hbn, hget⟩
      have q7' : evT env 7 = .int .i64 (-1) := by rw [q7]; congr 1; simp; omega
      simp only [go_sem, q0, q6, q7']
      rw [show decide (Int.ofNat (n / 256 ^ K) = 0) = decide (n / 256 ^ K = 0) from by
        by_cases q : n / 256 ^ K = 0
        · rw [q]; rfl
        · rw [decide_eq_false q]; exact decide_eq_false fun e => q (Int.ofNat.inj e)]
      have B : BSl h' (.sl h.nx 0 K (.exact K)) (bc (be n K)) := .inr (.inr ⟨h.nx, 0, .exact K, b, by rw [bc_len, be_len], hnx, hb, loadN_of _ _ _ rfl fun i v hv => by
        have hi : i < K := by
          have : i < (bc (be n K)).length := by
            by_cases q : i < (bc (be n K)).length
            · exact q
            · rw [nth_none _ _ (by omega)] at hv; cases hv
          rwa [bc_len, be_len] at this
        rw [Nat.zero_add, hget i hi (by omega), ← hv, nth_eq]
        simp [bc, be, hi]⟩)
      obtain ⟨x, e, E2, B2⟩ := fin_bslT E B (decide (n / 256 ^ K = 0))
      rw [e]
      exact ⟨_, _, rfl, E2, B2, fun _ => ⟨h.nx, Nat.le_refl _, by rw [be_len]⟩⟩
  · have hso : sizeOk k = false := decide_eq_false hs
    rw [decide_eq_false hs] at hw
    rw [hso]
    simp only [go_sem, hw]
    rw [fin_q _ _ _ rfl rfl]
    exact ⟨_, _, rfl, Ext.refl _, .inl ⟨rfl, rfl⟩, fun q => by cases q⟩
def SOk (h : H) (xs : List Nat) (r : Option (CV × Option H)) : Prop := ∃ v x, r = some (v, x) ∧ Ext h (x.getD h) ∧ BSl (x.getD h) v (bc xs)
def SOkN (h : H) (xs : List Nat) (r : Option (CV × Option H)) : Prop := ∃ i l c Y, r = some (.sl i 0 l c, some Y) ∧ h.nx ≤ i ∧ Ext h Y ∧ BSl Y (.sl i 0 l c) (bc xs)
def NumOk (h : H) (xs : List Nat) (r : Option (CV × Option H)) : Prop := ∃ id x, r = some (.sl id 0 2 (.exact 2), some x) ∧ h.nx ≤ id ∧ Ext h x ∧ BSl x (.sl id 0 2 (.exact 2)) (bc xs)
theorem rnum_run (hσ : ∀ f a h, told f = false → σ f a h = none) (h : H) (n : Nat) (hn : n < 65536) : NumOk h (be n 2) ((lim Tryd.prog σ).call 74 [.int .u64 (Int.ofNat n), .int .i64 2] h) := by
  obtain ⟨v, x, e, E, B, hv⟩ := put_run hσ h.lo n (by omega) 2
  obtain ⟨id, hge, hv⟩ := hv rfl
  have hv : v = .sl id 0 2 (.exact 2) := hv
  subst hv
  rw [call_eq (hσ _ _ _ (by decide)) fn_74 rfl rfl, Tryd.ntmps74, Tryd.results74]
  simp only [go_sem, e]
  rw [fin_new _ _ _ (by have : h.nx ≤ id := hge; simp [okB, blt_eq']; omega)]
  exact ⟨id, _, rfl, hge, ((Ext.lo h).trans E).up' _, B.ext (Ext.up _ _)⟩
theorem copy_of' {h : H} {v : CV} {id m : Nat} {b : Blk} {cs : List CV} (B : BSl h v cs) (ho : cs.all CV.one = true) (hb : h.blk id = some b) (hro : b.ro = false) (hbn : b.n = m) {β : Type} {Q : Option β → Prop} {K : Out → Option β}
    (k : ∀ b' : Blk, b'.n = b.n → b'.ro = b.ro → (∀ i, b'.get i = if i < (cs.take m).length then nth cs i else b.get i) → Q (K (.upd (.int .i64 (Int.ofNat (min cs.length m))) (h.put id (.cells b'))))) : Q (@thn _ β (builtinT Tryd.prog h .copy [24, 24] [.sl id 0 m (.exact m), v]) ⟨K⟩) := by
  have hl : lenC v = some cs.length := by
    rcases B with ⟨rfl, rfl⟩ | ⟨rfl, _, _, _, _, rfl⟩ | ⟨_, _, _, _, rfl, _⟩ <;> rfl
  have hf : firstC h 1 (Nat.min cs.length m) v = some (cs.take m) := by
    rcases B with ⟨rfl, rfl⟩ | ⟨rfl, _, _, _, _, rfl⟩ | ⟨id', off, c, b', rfl, h1, h2, h3⟩
    · simp [firstC]
    · simp [firstC]
    · rw [firstC_sl, h2, bind_some', Nat.mul_one]
      obtain ⟨hl3, hg3⟩ := loadN_spec h3
      exact loadN_of _ _ _ (by rw [List.length_take, Nat.min_comm]) fun i v hv => by
        rw [nth_eq, List.getElem?_take] at hv
        split at hv
        · rename_i q
          have : i < cs.length := (List.getElem?_eq_some_iff.1 hv).1
          rw [hg3 i this, hv]
        · cases hv
  obtain ⟨b', e, hn', hr', hg'⟩ := storeN_ok (cs.take m) b 0 (by rw [List.length_take]; omega) (List.all_eq_true.2 fun x hx => List.all_eq_true.1 ho x (List.mem_of_mem_take hx))
  have : builtinT Tryd.prog h .copy [24, 24] [.sl id 0 m (.exact m), v] = uv (some (.int .i64 (Int.ofNat (min cs.length m)), h.put id (.cells b'))) := by
    simp only [builtinT, copyT, Tryd.underlying24, bind_some', sz_5, hl, lenC_sl, hf, hb, hro, cond_false, e]
    rfl
  rw [this]
  exact k b' hn' hr' fun i => by
    rw [hg']
    by_cases q : i < (cs.take m).length
    · rw [if_pos q, if_pos ⟨Nat.zero_le _, by omega⟩, nth_eq, nth_eq, List.getElem?_take, if_pos (by rw [List.length_take] at q; omega)]; rfl
    · rw [if_neg q, if_neg (by omega)]
theorem appE_step {h : H} {v : CV} {id n : Nat} {old cs : List CV} (O : BSl h (.sl id 0 n (.exact n)) old) (B : BSl h v cs) (ho : cs.all CV.one = true) (hr : n + cs.length ≤ 70368744177664) {β : Type} {Q : Option β → Prop} {K : Out → Option β}
    (k : ∀ s' h', Ext h h' → BSl h' s' (old ++ cs) → (∃ i l c, s' = .sl i 0 l c ∧ (i = id ∨ h.nx ≤ i)) → Q (K (.upd s' h'))) : Q (@thn _ β (builtinT Tryd.prog h .append [24, 24] [.sl id 0 n (.exact n), v]) ⟨K⟩) := by
  obtain ⟨b, hn, hid, hb, hld⟩ : ∃ b, n = old.length ∧ id < h.nx ∧ h.blk id = some b ∧ b.loadN 0 n = some old := by
    rcases O with ⟨_, h⟩ | ⟨_, _, _, _, _, h⟩ | ⟨id', off, c, b, e, h1, h2, h3⟩
    · cases h
    · cases h
    · cases e; exact ⟨b, rfl, h1, h2, h3⟩
  rw [B.app]
  have hg : (Nat.blt 0 1 && Nat.ble ((n + cs.length) * 1) 70368744177664 && Nat.ble (n + cs.length) 70368744177664 && Nat.beq 1 1 && Nat.beq cs.length (cs.length * 1) && cs.all CV.one) = true := by
    simp only [blt_eq', ble_eq', beq_eq', Bool.and_eq_true, decide_eq_true_eq]
    refine ⟨⟨⟨⟨⟨by decide, by omega⟩, by omega⟩, trivial⟩, by omega⟩, ho⟩
  by_cases h0 : cs = []
  · subst h0
    have : appS h 1 1 1 (.sl id 0 n (.exact n)) ([] : List CV).length (some []) = some (.sl id 0 n (.exact n), h) := by
      unfold appS
      rw [lenC_sl, bind_some', bind_some', hg, cond_true]
      dsimp only [List.length_nil]
      rw [ble_eq', decide_eq_true (by omega)]
      rfl
    rw [this]
    exact k _ _ (Ext.refl _) (by rw [List.append_nil]; exact O) ⟨_, _, _, rfl, .inl rfl⟩
  · have hm : 0 < cs.length := List.length_pos_iff.2 h0
    have : appS h 1 1 1 (.sl id 0 n (.exact n)) cs.length (some cs) = some (.sl h.nx 0 (n + cs.length) (.opn 1), h.alloc (.cells (fillB ((n + cs.length) * 1) (old ++ cs)))) := by
      unfold appS
      rw [lenC_sl, bind_some', bind_some', hg, cond_true]
      dsimp only
      rw [ble_eq', decide_eq_false (by omega), cond_false, hb, bind_some', Nat.mul_one, hld, bind_some']
      rfl
    rw [this]
    refine k _ _ (Ext.alloc _ _) (.inr (.inr ⟨h.nx, 0, .opn 1, _, by rw [List.length_append, hn], by rw [alloc_nx]; omega, alloc_blk_same _ _ _ rfl, loadN_of _ _ _ rfl fun i v hv => ?_⟩)) ⟨_, _, _, rfl, .inr (Nat.le_refl _)⟩
    rw [Nat.zero_add, fillB_get _ _ _ (by rw [List.length_append, hn]; omega), hv]
theorem rblob_run (hσ : ∀ f a h, told f = false → σ f a h = none) {h : H} {v : CV} {xs : List Nat} (B : BSl h v (bc xs)) (h2 : xs.length ≤ 65535) : SOkN h (be xs.length 2 ++ xs) ((lim Tryd.prog σ).call 75 [v] h) := by
  obtain ⟨id, x, e, hge, E, B1⟩ := rnum_run hσ h.lo xs.length (by omega)
  rw [call_eq (hσ _ _ _ (by decide)) fn_75 rfl rfl, Tryd.ntmps75, Tryd.results75]
  have q2 : IntKind.wrap .u64 (Int.ofNat (bc xs).length) = Int.ofNat xs.length := by rw [bc_len]; exact nat_wrap (by omega)
  have E1 := (Ext.lo h).trans E
  simp only [go_sem, B.len, q2, e]
  refine appE_step (Q := SOkN h _) B1 (B.ext E1) (bc_one _) (by rw [bc_len]; omega) ?_
  rintro s' h' E3 B3 ⟨i, l, c, rfl, hi⟩
  simp only [go_sem]
  rw [← bc_app] at B3
  have hge' : h.nx ≤ id := hge
  have hx : h.nx ≤ x.nx := E.nx
  rw [fin_new _ _ _ (by simp [okB, blt_eq']; omega)]
  exact ⟨i, l, c, _, rfl, by omega, (E1.trans E3).up' _, B3.ext (Ext.up _ _)⟩
end Go.Cl.Sh.W

namespace Go.Cl.Sh.W
variable {σ : Sums}
set_option maxRecDepth 1000000

theorem num8_run (hσ : ∀ f a h, told f = false → σ f a h = none) (h : H) (n : Nat) (hn : n < 2 ^ 64) : SOkN h (be n 8) ((lim Tryd.prog σ).call 74 [u64 n, .int .i64 8] h) := by
  obtain ⟨v, x, e, E, B, hv⟩ := put_run hσ h.lo n hn 8
  obtain ⟨id, hge, hv⟩ := hv rfl
  have hv : v = .sl id 0 8 (.exact 8) := hv
  subst hv
  have e : (lim Tryd.prog σ).call 87 [u64 n, .int .i64 8] h.lo = some (.tup [.sl id 0 8 (.exact 8), .bool (sizeOk 8 && decide (n / 256 ^ (8 : Int).toNat = 0))], x) := e
  have B : BSl (x.getD h.lo) (.sl id 0 8 (.exact 8)) (bc (be n 8)) := B
  rw [call_eq (hσ _ _ _ (by decide)) fn_74 rfl rfl, Tryd.ntmps74, Tryd.results74]
  simp only [go_sem, e]
  rw [fin_new _ _ _ (by have : h.nx ≤ id := hge; simp [okB, blt_eq']; omega)]
  exact ⟨id, 8, _, _, rfl, hge, ((Ext.lo h).trans E).up' _, B.ext (Ext.up _ _)⟩
theorem appx_step {β : Type} {Q : Option β → Prop} {X : H} {id n : Nat} {b : Blk} {v : CV} {ys cs : List Nat} {K : Out → Option β} (hb : X.blk id = some b) (hld : b.loadN 0 n = some (bc ys)) (hy : ys.length = n) (B : BSl X v (bc cs)) (hc : 0 < cs.length) (hr : ys.length + cs.length ≤ 1000000)
    (k : ∀ s' lid' h', Lst h' 1 s' lid' (n + cs.length) (bc ys ++ bc cs) → Ext X h' → X.nx ≤ lid' → h'.low ≤ X.low → Q (K (.upd s' h'))) :
    Q (@thn _ β (builtinT Tryd.prog X .append [24, 24] [.sl id 0 n (.exact n), v]) ⟨K⟩) := by
  rw [B.app, bc_len]
  have hg : (Nat.blt 0 1 && Nat.ble ((n + cs.length) * 1) 70368744177664 && Nat.ble (n + cs.length) 70368744177664 && Nat.beq 1 1 && Nat.beq (bc cs).length (cs.length * 1) && (bc cs).all CV.one) = true := by
    simp only [blt_eq', ble_eq', beq_eq', Bool.and_eq_true, decide_eq_true_eq, bc_len]
    refine ⟨⟨⟨⟨⟨by decide, by omega⟩, by omega⟩, trivial⟩, by omega⟩, bc_one _⟩
  have e : appS X 1 1 1 (.sl id 0 n (.exact n)) cs.length (some (bc cs)) = some (.sl X.nx 0 (n + cs.length) (.opn 1), X.alloc (.cells (fillB ((n + cs.length) * 1) (bc ys ++ bc cs)))) := by
    unfold appS
    rw [lenC_sl, bind_some', bind_some', hg, cond_true]
    dsimp only
    rw [ble_eq', decide_eq_false (by omega), cond_false, hb, bind_some', Nat.mul_one, hld, bind_some']
    rfl
  rw [e]
  have hl : (bc ys ++ bc cs).length = n + cs.length := by rw [List.length_append, bc_len, bc_len, hy]
  exact k _ X.nx _ ⟨by rw [hl, Nat.mul_one], .inr ⟨by omega, rfl, by rw [alloc_nx]; omega, _, alloc_blk_same _ _ _ rfl, fillB_ro _ _, by rw [fillB_n], fun i => by rw [fillB_get _ _ _ (by rw [hl]; omega)]⟩⟩ (Ext.alloc _ _) (Nat.le_refl _) (Nat.le_refl _)

def rmayV (p : Pk) : Bool := mayV p
theorem rmay_run (hσ : ∀ f a h, told f = false → σ f a h = none) {h : H} (p : Pk) (hk0 : 0 ≤ p.kind) (B : BSl h p.v (bc p.xs)) : Ret (.bool (mayV p)) ((lim Tryd.prog σ).call 49 [.agg p.cs] h) := by
  obtain ⟨Q, hQ⟩ : ∃ Q, Q = Ret (.bool (mayV p)) := ⟨_, rfl⟩
  rw [← hQ]
  rw [call_eq (hσ _ _ _ (by decide)) fn_49 rfl rfl, Tryd.ntmps49, Tryd.results49]
  obtain ⟨pb, hpb⟩ : ∃ pb, pb = newBlk p.cs := ⟨_, rfl⟩
  have pb' : newBlk [.int .i64 p.kind, u64 p.mine, u64 p.theirs, u64 p.ack, u64 p.seq, p.v] = pb := hpb.symm
  obtain ⟨X, hX⟩ : ∃ X, X = h.lo.alloc (.cells pb) := ⟨_, rfl⟩
  have Xlow : X.low = h.nx := by rw [hX]; rfl
  have Xp : X.blk h.nx = some pb := by rw [hX]; simp only [go_sem]
  have ov := B.one.1
  have oc := B.one.2
  have bl := B.len
  rw [bc_len] at bl
  have g0 : pb.get 0 = some (.int .i64 p.kind) := by rw [hpb]; simp only [go_sem, Pk.cs]
  have g1 : pb.get 1 = some (u64 p.mine) := by rw [hpb]; simp only [go_sem, Pk.cs]
  have g2 : pb.get 2 = some (u64 p.theirs) := by rw [hpb]; simp only [go_sem, Pk.cs]
  have g3 : pb.get 3 = some (u64 p.ack) := by rw [hpb]; simp only [go_sem, Pk.cs]
  have g4 : pb.get 4 = some (u64 p.seq) := by rw [hpb]; simp only [go_sem, Pk.cs]
  have g5 : pb.get 5 = some p.v := by rw [hpb]; simp only [go_sem, Pk.cs]
  have l0 : CV.int .u64 0 = u64 0 := rfl
  have gt64 : ∀ t xo yo a b, binT Tryd.prog .gtr t xo yo (u64 a) (u64 b) = some (.bool (decide (b < a))) := fun t xo yo a b => Go.Cl.gt64 t xo yo a b
  have ge1 : (Int.ofNat p.xs.length ≥ 1) = (0 < p.xs.length) := by
    refine propext ?_
    show (1 : Int) ≤ (p.xs.length : Int) ↔ _
    omega
  have fin : ∀ (Y : H) (v : Bool), Y.low = h.nx → v = mayV p → Q (some (fin h Y (.bool v))) := fun Y v hl hv => by
    rw [hQ, fin_q _ _ _ hl rfl, hv]; rfl
  unfold Pk.cs
  simp only [go_sem, pb', ← hX, Xp, ov, oc, g0, g1, g2, g3, g4, g5, bl, l0, eq64, ne64, gt64, gt0, le4000, ge1, eqz]
  by_cases k0 : p.kind < 1
  · have k9 : ¬ (p.kind = 1 ∨ p.kind = 2 ∨ p.kind = 3 ∨ p.kind = 4) := by omega
    simp only [go_sem, pb', ← hX, Xp, ov, oc, g0, g1, g2, g3, g4, g5, bl, l0, eq64, ne64, gt64, gt0, le4000, ge1, eqz, k0]
    refine fin _ _ Xlow ?_
    unfold mayV isK; simp [k9]
  by_cases k5 : p.kind > 4
  · have k9 : ¬ (p.kind = 1 ∨ p.kind = 2 ∨ p.kind = 3 ∨ p.kind = 4) := by omega
    simp only [go_sem, pb', ← hX, Xp, ov, oc, g0, g1, g2, g3, g4, g5, bl, l0, eq64, ne64, gt64, gt0, le4000, ge1, eqz, k0, k5]
    refine fin _ _ Xlow ?_
    unfold mayV isK; simp [k9]
  have hk : p.kind = 1 ∨ p.kind = 2 ∨ p.kind = 3 ∨ p.kind = 4 := by omega
  rcases hk with hk | hk | hk | hk
  · by_cases m0 : p.mine = 0
    · simp only [go_sem, pb', ← hX, Xp, ov, oc, g0, g1, g2, g3, g4, g5, bl, l0, eq64, ne64, gt64, gt0, le4000, ge1, eqz, hk, m0]
      refine fin _ _ rfl ?_
      unfold mayV isK ackK dataK; simp [hk, m0]
    · by_cases t0 : p.theirs = 0
      · by_cases s0 : p.seq = 0
        · by_cases x1 : p.xs.length = 0
          · by_cases a0 : p.ack = 0
            · simp only [go_sem, pb', ← hX, Xp, ov, oc, g0, g1, g2, g3, g4, g5, bl, l0, eq64, ne64, gt64, gt0, le4000, ge1, eqz, hk, m0, t0, s0, x1, a0]
              refine fin _ _ rfl ?_
              unfold mayV isK ackK dataK; simp [hk, m0, t0, s0, x1, a0]
            · simp only [go_sem, pb', ← hX, Xp, ov, oc, g0, g1, g2, g3, g4, g5, bl, l0, eq64, ne64, gt64, gt0, le4000, ge1, eqz, hk, m0, t0, s0, x1, a0]
              refine fin _ _ rfl ?_
              unfold mayV isK ackK dataK; simp [hk, m0, t0, s0, x1, a0]
          · by_cases a0 : p.ack = 0
            · simp only [go_sem, pb', ← hX, Xp, ov, oc, g0, g1, g2, g3, g4, g5, bl, l0, eq64, ne64, gt64, gt0, le4000, ge1, eqz, hk, m0, t0, s0, x1, a0]
              refine fin _ _ rfl ?_
              unfold mayV isK ackK dataK; simp [hk, m0, t0, s0, x1, a0]
            · simp only [go_sem, pb', ← hX, Xp, ov, oc, g0, g1, g2, g3, g4, g5, bl, l0, eq64, ne64, gt64, gt0, le4000, ge1, eqz, hk, m0, t0, s0, x1, a0]
              refine fin _ _ rfl ?_
              unfold mayV isK ackK dataK; simp [hk, m0, t0, s0, x1, a0]
        · by_cases a0 : p.ack = 0
          · simp only [go_sem, pb', ← hX, Xp, ov, oc, g0, g1, g2, g3, g4, g5, bl, l0, eq64, ne64, gt64, gt0, le4000, ge1, eqz, hk, m0, t0, s0, a0]
            refine fin _ _ rfl ?_
            unfold mayV isK ackK dataK; simp [hk, m0, t0, s0, a0]
          · simp only [go_sem, pb', ← hX, Xp, ov, oc, g0, g1, g2, g3, g4, g5, bl, l0, eq64, ne64, gt64, gt0, le4000, ge1, eqz, hk, m0, t0, s0, a0]
            refine fin _ _ rfl ?_
            unfold mayV isK ackK dataK; simp [hk, m0, t0, s0, a0]
      · by_cases s0 : p.seq = 0
        · by_cases x1 : p.xs.length = 0
          · by_cases a0 : p.ack = 0
            · simp only [go_sem, pb', ← hX, Xp, ov, oc, g0, g1, g2, g3, g4, g5, bl, l0, eq64, ne64, gt64, gt0, le4000, ge1, eqz, hk, m0, t0, s0, x1, a0]
              refine fin _ _ rfl ?_
              unfold mayV isK ackK dataK; simp [hk, m0, t0, s0, x1, a0]
            · simp only [go_sem, pb', ← hX, Xp, ov, oc, g0, g1, g2, g3, g4, g5, bl, l0, eq64, ne64, gt64, gt0, le4000, ge1, eqz, hk, m0, t0, s0, x1, a0]
              refine fin _ _ rfl ?_
              unfold mayV isK ackK dataK; simp [hk, m0, t0, s0, x1, a0]
          · by_cases a0 : p.ack = 0
            · simp only [go_sem, pb', ← hX, Xp, ov, oc, g0, g1, g2, g3, g4, g5, bl, l0, eq64, ne64, gt64, gt0, le4000, ge1, eqz, hk, m0, t0, s0, x1, a0]
              refine fin _ _ rfl ?_
              unfold mayV isK ackK dataK; simp [hk, m0, t0, s0, x1, a0]
            · simp only [go_sem, pb', ← hX, Xp, ov, oc, g0, g1, g2, g3, g4, g5, bl, l0, eq64, ne64, gt64, gt0, le4000, ge1, eqz, hk, m0, t0, s0, x1, a0]
              refine fin _ _ rfl ?_
              unfold mayV isK ackK dataK; simp [hk, m0, t0, s0, x1, a0]
        · by_cases a0 : p.ack = 0
          · simp only [go_sem, pb', ← hX, Xp, ov, oc, g0, g1, g2, g3, g4, g5, bl, l0, eq64, ne64, gt64, gt0, le4000, ge1, eqz, hk, m0, t0, s0, a0]
            refine fin _ _ rfl ?_
            unfold mayV isK ackK dataK; simp [hk, m0, t0, s0, a0]
          · simp only [go_sem, pb', ← hX, Xp, ov, oc, g0, g1, g2, g3, g4, g5, bl, l0, eq64, ne64, gt64, gt0, le4000, ge1, eqz, hk, m0, t0, s0, a0]
            refine fin _ _ rfl ?_
            unfold mayV isK ackK dataK; simp [hk, m0, t0, s0, a0]
  · by_cases m0 : p.mine = 0
    · simp only [go_sem, pb', ← hX, Xp, ov, oc, g0, g1, g2, g3, g4, g5, bl, l0, eq64, ne64, gt64, gt0, le4000, ge1, eqz, hk, m0]
      refine fin _ _ rfl ?_
      unfold mayV isK ackK dataK; simp [hk, m0]
    · by_cases t0 : p.theirs = 0
      · simp only [go_sem, pb', ← hX, Xp, ov, oc, g0, g1, g2, g3, g4, g5, bl, l0, eq64, ne64, gt64, gt0, le4000, ge1, eqz, hk, m0, t0]
        refine fin _ _ rfl ?_
        unfold mayV isK ackK dataK; simp [hk, m0, t0]
      · by_cases s0 : p.seq = 0
        · simp only [go_sem, pb', ← hX, Xp, ov, oc, g0, g1, g2, g3, g4, g5, bl, l0, eq64, ne64, gt64, gt0, le4000, ge1, eqz, hk, m0, t0, s0]
          refine fin _ _ rfl ?_
          unfold mayV isK ackK dataK; simp [hk, m0, t0, s0]
        · by_cases x1 : 0 < p.xs.length
          · by_cases x2 : p.xs.length ≤ 4000
            · simp only [go_sem, pb', ← hX, Xp, ov, oc, g0, g1, g2, g3, g4, g5, bl, l0, eq64, ne64, gt64, gt0, le4000, ge1, eqz, hk, m0, t0, s0, x1, x2, Nat.pos_of_ne_zero s0]
              refine fin _ _ rfl ?_
              unfold mayV isK ackK dataK; simp [hk, m0, t0, s0, x1, x2, Nat.pos_of_ne_zero s0]
            · simp only [go_sem, pb', ← hX, Xp, ov, oc, g0, g1, g2, g3, g4, g5, bl, l0, eq64, ne64, gt64, gt0, le4000, ge1, eqz, hk, m0, t0, s0, x1, x2, Nat.pos_of_ne_zero s0]
              refine fin _ _ rfl ?_
              unfold mayV isK ackK dataK; simp [hk, m0, t0, s0, x1, x2, Nat.pos_of_ne_zero s0]
          · simp only [go_sem, pb', ← hX, Xp, ov, oc, g0, g1, g2, g3, g4, g5, bl, l0, eq64, ne64, gt64, gt0, le4000, ge1, eqz, hk, m0, t0, s0, x1, Nat.pos_of_ne_zero s0]
            refine fin _ _ rfl ?_
            unfold mayV isK ackK dataK; simp [hk, m0, t0, s0, x1, Nat.pos_of_ne_zero s0]
  · by_cases m0 : p.mine = 0
    · simp only [go_sem, pb', ← hX, Xp, ov, oc, g0, g1, g2, g3, g4, g5, bl, l0, eq64, ne64, gt64, gt0, le4000, ge1, eqz, hk, m0]
      refine fin _ _ rfl ?_
      unfold mayV isK ackK dataK; simp [hk, m0]
    · by_cases t0 : p.theirs = 0
      · simp only [go_sem, pb', ← hX, Xp, ov, oc, g0, g1, g2, g3, g4, g5, bl, l0, eq64, ne64, gt64, gt0, le4000, ge1, eqz, hk, m0, t0]
        refine fin _ _ rfl ?_
        unfold mayV isK ackK dataK; simp [hk, m0, t0]
      · by_cases s0 : p.seq = 0
        · by_cases x1 : p.xs.length = 0
          · simp only [go_sem, pb', ← hX, Xp, ov, oc, g0, g1, g2, g3, g4, g5, bl, l0, eq64, ne64, gt64, gt0, le4000, ge1, eqz, hk, m0, t0, s0, x1]
            refine fin _ _ rfl ?_
            unfold mayV isK ackK dataK; simp [hk, m0, t0, s0, x1]
          · simp only [go_sem, pb', ← hX, Xp, ov, oc, g0, g1, g2, g3, g4, g5, bl, l0, eq64, ne64, gt64, gt0, le4000, ge1, eqz, hk, m0, t0, s0, x1]
            refine fin _ _ rfl ?_
            unfold mayV isK ackK dataK; simp [hk, m0, t0, s0, x1]
        · simp only [go_sem, pb', ← hX, Xp, ov, oc, g0, g1, g2, g3, g4, g5, bl, l0, eq64, ne64, gt64, gt0, le4000, ge1, eqz, hk, m0, t0, s0]
          refine fin _ _ rfl ?_
          unfold mayV isK ackK dataK; simp [hk, m0, t0, s0]
  · by_cases m0 : p.mine = 0
    · simp only [go_sem, pb', ← hX, Xp, ov, oc, g0, g1, g2, g3, g4, g5, bl, l0, eq64, ne64, gt64, gt0, le4000, ge1, eqz, hk, m0]
      refine fin _ _ rfl ?_
      unfold mayV isK ackK dataK; simp [hk, m0]
    · by_cases t0 : p.theirs = 0
      · simp only [go_sem, pb', ← hX, Xp, ov, oc, g0, g1, g2, g3, g4, g5, bl, l0, eq64, ne64, gt64, gt0, le4000, ge1, eqz, hk, m0, t0]
        refine fin _ _ rfl ?_
        unfold mayV isK ackK dataK; simp [hk, m0, t0]
      · by_cases s0 : p.seq = 0
        · by_cases x1 : p.xs.length = 0
          · by_cases a0 : p.ack = 0
            · simp only [go_sem, pb', ← hX, Xp, ov, oc, g0, g1, g2, g3, g4, g5, bl, l0, eq64, ne64, gt64, gt0, le4000, ge1, eqz, hk, m0, t0, s0, x1, a0]
              refine fin _ _ rfl ?_
              unfold mayV isK ackK dataK; simp [hk, m0, t0, s0, x1, a0]
            · simp only [go_sem, pb', ← hX, Xp, ov, oc, g0, g1, g2, g3, g4, g5, bl, l0, eq64, ne64, gt64, gt0, le4000, ge1, eqz, hk, m0, t0, s0, x1, a0]
              refine fin _ _ rfl ?_
              unfold mayV isK ackK dataK; simp [hk, m0, t0, s0, x1, a0]
          · by_cases a0 : p.ack = 0
            · simp only [go_sem, pb', ← hX, Xp, ov, oc, g0, g1, g2, g3, g4, g5, bl, l0, eq64, ne64, gt64, gt0, le4000, ge1, eqz, hk, m0, t0, s0, x1, a0]
              refine fin _ _ rfl ?_
              unfold mayV isK ackK dataK; simp [hk, m0, t0, s0, x1, a0]
            · simp only [go_sem, pb', ← hX, Xp, ov, oc, g0, g1, g2, g3, g4, g5, bl, l0, eq64, ne64, gt64, gt0, le4000, ge1, eqz, hk, m0, t0, s0, x1, a0]
              refine fin _ _ rfl ?_
              unfold mayV isK ackK dataK; simp [hk, m0, t0, s0, x1, a0]
        · by_cases a0 : p.ack = 0
          · simp only [go_sem, pb', ← hX, Xp, ov, oc, g0, g1, g2, g3, g4, g5, bl, l0, eq64, ne64, gt64, gt0, le4000, ge1, eqz, hk, m0, t0, s0, a0]
            refine fin _ _ rfl ?_
            unfold mayV isK ackK dataK; simp [hk, m0, t0, s0, a0]
          · simp only [go_sem, pb', ← hX, Xp, ov, oc, g0, g1, g2, g3, g4, g5, bl, l0, eq64, ne64, gt64, gt0, le4000, ge1, eqz, hk, m0, t0, s0, a0]
            refine fin _ _ rfl ?_
            unfold mayV isK ackK dataK; simp [hk, m0, t0, s0, a0]
end Go.Cl.Sh.W

namespace Go.Cl.Sh.W
variable {σ : Sums}
set_option maxRecDepth 1000000

structure PkSt (h Y : H) (pb : Blk) (s : CV) (lid : Nat) (ys : List Nat) : Prop where
  E : Ext h Y
  p : Y.blk h.nx = some pb
  pn : h.nx < Y.nx
  l : Lst Y 1 s lid ys.length (bc ys)
  lg : h.nx < lid
theorem PkSt.ext {h Y Z : H} {pb : Blk} {s : CV} {lid : Nat} {ys : List Nat} (S : PkSt h Y pb s lid ys) (E : Ext Y Z) : PkSt h Z pb s lid ys :=
  ⟨S.E.trans E, (E.blk S.pn).trans S.p, Nat.lt_of_lt_of_le S.pn E.nx, S.l.ext E, S.lg⟩
theorem PkSt.app {h Y : H} {pb : Blk} {s v : CV} {lid : Nat} {ys cs : List Nat} (S : PkSt h Y pb s lid ys) (B : BSl Y v (bc cs)) (hr : ys.length + cs.length ≤ 1000000) :
    ∃ s' lid' h', builtinT Tryd.prog Y .append [24, 24] [s, v] = some (.upd s' h') ∧ PkSt h h' pb s' lid' (ys ++ cs) := by
  obtain ⟨s', lid', h', e, L, F, _⟩ := app_any S.l (bc_one cs) (by rw [bc_len]; omega)
  refine ⟨s', lid', h', by rw [B.app, e]; rfl, ?_⟩
  have hn := S.pn
  have hg := S.lg
  refine ⟨⟨Nat.le_trans S.E.nx F.nx, F.gn.trans S.E.gn, fun k hk => (F.old k (by omega) fun _ => by omega).trans (S.E.old k hk)⟩, (blk_eq (F.old h.nx hn fun _ => by omega)).trans S.p, Nat.lt_of_lt_of_le hn F.nx, ?_, ?_⟩
  · rw [bc_len] at L
    rw [List.length_append, bc_app]; exact L
  · rcases F.id with ⟨h1, _⟩ | h1
    · omega
    · omega
def SOkS (h : H) (xs : List Nat) (r : Option (CV × Option H)) : Prop := ∃ v Y, r = some (v, some Y) ∧ Ext h Y ∧ BSl Y v (bc xs)
theorem lst_bq {h : H} {b_ : Nat} {s : CV} {lid n : Nat} {cs : List CV} (L : Lst h b_ s lid n cs) : beqC s s = true := by
  rcases L with ⟨_, L⟩
  rcases L with ⟨_, h1⟩ | ⟨_, rfl, _⟩
  · first | (rw [h1]; exact beqC_nils) | (rw [h1.1]; exact beqC_nils)
  · simp [beqC]
theorem bsl_bq {h : H} {s : CV} {cs : List CV} (B : BSl h s cs) : beqC s s = true := by
  rcases B with ⟨_, rfl⟩ | ⟨_, _, _, _, _, rfl⟩ | ⟨id, off, c, b, rfl, _⟩
  · exact beqC_nils
  · simp [beqC]
  · cases c <;> simp [beqC]
theorem appx_eq {h X : H} {id n : Nat} {b pb : Blk} {v : CV} {ys cs : List Nat} (E : Ext h X) (hp : X.blk h.nx = some pb) (hn : h.nx < X.nx) (hb : X.blk id = some b) (hld : b.loadN 0 n = some (bc ys)) (hy : ys.length = n) (B : BSl X v (bc cs)) (hc : 0 < cs.length) (hr : ys.length + cs.length ≤ 1000000) :
    ∃ s' lid' h', builtinT Tryd.prog X .append [24, 24] [.sl id 0 n (.exact n), v] = some (.upd s' h') ∧ PkSt h h' pb s' lid' (ys ++ cs) := by
  have hg : (Nat.blt 0 1 && Nat.ble ((n + cs.length) * 1) 70368744177664 && Nat.ble (n + cs.length) 70368744177664 && Nat.beq 1 1 && Nat.beq (bc cs).length (cs.length * 1) && (bc cs).all CV.one) = true := by
    simp only [blt_eq', ble_eq', beq_eq', Bool.and_eq_true, decide_eq_true_eq, bc_len]
    refine ⟨⟨⟨⟨⟨by decide, by omega⟩, by omega⟩, trivial⟩, by omega⟩, bc_one _⟩
  have e : appS X 1 1 1 (.sl id 0 n (.exact n)) cs.length (some (bc cs)) = some (.sl X.nx 0 (n + cs.length) (.opn 1), X.alloc (.cells (fillB ((n + cs.length) * 1) (bc ys ++ bc cs)))) := by
    unfold appS
    rw [lenC_sl, bind_some', bind_some', hg, cond_true]
    dsimp only
    rw [ble_eq', decide_eq_false (by omega), cond_false, hb, bind_some', Nat.mul_one, hld, bind_some']
    rfl
  have hl : (bc ys ++ bc cs).length = n + cs.length := by rw [List.length_append, bc_len, bc_len, hy]
  refine ⟨.sl X.nx 0 (n + cs.length) (.opn 1), X.nx, X.alloc (.cells (fillB ((n + cs.length) * 1) (bc ys ++ bc cs))), by rw [B.app, bc_len, e]; rfl, ⟨E.alloc' _, (alloc_blk_ne _ _ _ (by omega)).trans hp, by rw [alloc_nx]; omega, ?_, hn⟩⟩
  rw [List.length_append, hy, bc_app]
  exact ⟨by rw [hl, Nat.mul_one], .inr ⟨by omega, rfl, by rw [alloc_nx]; omega, _, alloc_blk_same _ _ _ rfl, fillB_ro _ _, by rw [fillB_n], fun i => by rw [fillB_get _ _ _ (by rw [hl]; omega)]⟩⟩
theorem pack_run (hσ : ∀ f a h, told f = false → σ f a h = none) (hσ0 : ∀ f a h, σ f a h = none) {h : H} (p : Pk) (hm : mayV p = true) (ok : PkOk p) (B : BSl h p.v (bc p.xs)) (hxb : ∀ b ∈ p.xs, b < 256) : SOkS h (pack p) ((lim Tryd.prog σ).call 50 [.agg p.cs] h) := by
  obtain ⟨Q, hQ⟩ : ∃ Q, Q = SOkS h (pack p) := ⟨_, rfl⟩
  rw [← hQ]
  rw [call_eq (hσ _ _ _ (by decide)) fn_50 rfl rfl, Tryd.ntmps50, Tryd.results50]
  obtain ⟨pb, hpb⟩ : ∃ pb, pb = newBlk p.cs := ⟨_, rfl⟩
  have pb' : newBlk [.int .i64 p.kind, u64 p.mine, u64 p.theirs, u64 p.ack, u64 p.seq, p.v] = pb := hpb.symm
  obtain ⟨X, hX⟩ : ∃ X, X = h.lo.alloc (.cells pb) := ⟨_, rfl⟩
  have Xnx : X.nx = h.nx + 1 := by rw [hX]; rfl
  have XE : Ext h X := by rw [hX]; exact (Ext.lo h).alloc' _
  have Xp : X.blk h.nx = some pb := by rw [hX]; simp only [go_sem]
  have ov := B.one.1
  have oc := B.one.2
  have g0 : pb.get 0 = some (.int .i64 p.kind) := by rw [hpb]; simp only [go_sem, Pk.cs]
  have g1 : pb.get 1 = some (u64 p.mine) := by rw [hpb]; simp only [go_sem, Pk.cs]
  have g2 : pb.get 2 = some (u64 p.theirs) := by rw [hpb]; simp only [go_sem, Pk.cs]
  have g3 : pb.get 3 = some (u64 p.ack) := by rw [hpb]; simp only [go_sem, Pk.cs]
  have g4 : pb.get 4 = some (u64 p.seq) := by rw [hpb]; simp only [go_sem, Pk.cs]
  have g5 : pb.get 5 = some p.v := by rw [hpb]; simp only [go_sem, Pk.cs]
  have hk4 : p.kind = 1 ∨ p.kind = 2 ∨ p.kind = 3 ∨ p.kind = 4 := by
    have : isK p.kind = true := by
      cases e1 : isK p.kind with
      | true => rfl
      | false => unfold mayV at hm; simp [e1] at hm
    unfold isK at this; simpa using this
  have hx4 : dataK p.kind = true → p.xs.length ≤ 4000 := fun e => by
    unfold mayV at hm
    rw [e] at hm
    split at hm
    · cases hm
    · split at hm
      · cases hm
      · simp at hm; exact hm.2.2
  obtain ⟨kb, hkb⟩ : ∃ kb, kb = dig p.kind.toNat 1 0 := ⟨_, rfl⟩
  have ckb : ∀ W, convT Tryd.prog W 22 5 (.int .i64 p.kind) = some (.val (.int .u8 (Int.ofNat kb))) := fun W => by
    have e := cv_22_5 W .i64 p.kind
    rw [e, hkb]
    rcases hk4 with e | e | e | e <;> rw [e] <;> rfl
  obtain ⟨mb, hmb⟩ : ∃ mb, mb = ((({ n := 3, d := [CV.int .u8 0], t := T.nil } : Blk).st 0 (.int .u8 71)).st 1 (.int .u8 80)).st 2 (.int .u8 (Int.ofNat kb)) := ⟨_, rfl⟩
  have hml : mb.loadN 0 3 = some (bc [71, 80, kb]) := by rw [hmb]; rfl
  obtain ⟨X1, hX1⟩ : ∃ X1, X1 = X.alloc (.cells mb) := ⟨_, rfl⟩
  have X1nx : X1.nx = h.nx + 2 := by rw [hX1]; simp only [go_sem]; omega
  have X1E : Ext h X1 := by rw [hX1]; exact XE.alloc' _
  have X1p : X1.blk h.nx = some pb := by rw [hX1, alloc_blk_ne _ _ _ (by omega)]; exact Xp
  have X1m : X1.blk (h.nx + 1) = some mb := by rw [hX1]; exact alloc_blk_same _ _ _ Xnx.symm
  obtain ⟨i1, n1, c1, Y1, q1, hge1, E1, B1⟩ := num8_run hσ X1 p.mine ok.m
  have Y1m : Y1.blk (h.nx + 1) = some mb := (E1.blk (by omega)).trans X1m
  have Y1p : Y1.blk h.nx = some pb := (E1.blk (by omega)).trans X1p
  have Y1n := E1.nx
  obtain ⟨s2, l2, Y2, a2, S2⟩ := appx_eq (X1E.trans E1) Y1p (by omega) Y1m hml rfl B1 (by rw [be_len]; decide) (by simp [be_len])
  obtain ⟨i3, n3, c3, Y3, q3, hge3, E3, B3⟩ := num8_run hσ Y2 p.theirs ok.t
  have S3 := S2.ext E3
  obtain ⟨s4, l4, Y4, a4, S4⟩ := S3.app B3 (by simp [be_len])
  have Y2p := S2.p
  have Y3p := S3.p
  have bq4 := lst_bq S4.l
  have Y4p := S4.p
  unfold Pk.cs
  simp only [go_sem, pb', ← hX, Xnx, Xp, ov, oc, g0, ckb, ← hmb, ← hX1, X1p, g1, q1]
  refine cnd_go (Q := Q) (by kernel_rfl) ?_
  simp only [go_sem, pb', ← hX, Xnx, Xp, ov, oc, g0, ckb, ← hmb, ← hX1, X1p, g1, q1, Y1p, g2, a2, q3, a4, Y2p, Y3p, Y4p, bq4, Bool.cond_self]
  refine cnd_go (Q := Q) (by kernel_rfl) ?_
  simp only [go_sem, pb', ← hX, Xnx, Xp, ov, oc, g0, ckb, ← hmb, ← hX1, X1p, g1, q1, Y1p, g2, a2, q3, a4, Y2p, Y3p, Y4p, bq4, Bool.cond_self]
  have kb1 : be p.kind.toNat 1 = [dig p.kind.toNat 1 0] := rfl
  rcases hk4 with hk | hk | hk | hk
  · have ea : ackK p.kind = false := by unfold ackK; simp [hk]
    have ed : dataK p.kind = false := by unfold dataK; simp [hk]
    have hL : (([71, 80, kb] ++ be p.mine 8) ++ be p.theirs 8) = hdr p := by unfold hdr; rw [hkb]; simp [ea, ed, kb1]
    have hlen : (hdr p).length ≤ 5000 := hdr_len hm
    have L9 : Lst Y4 1 s4 l4 (hdr p).length (bc (hdr p)) := by rw [← hL]; exact S4.l
    have qs : (lim Tryd.prog σ).call 76 [s4] Y4 = some (.agg (Go.Cl.Sh.bc (digest (hdr p))), none) := by rw [← digest_same]; exact rsum_run hσ0 (lst_bv L9) (by omega) (hdr_byte p hxb)
    have hd32 : (Go.Cl.Sh.bc (digest (hdr p))).length = 32 := by rw [Go.Cl.Sh.bc_len]; exact digest_len _
    simp only [go_sem, pb', ← hX, Xnx, Xp, ov, oc, g0, ckb, ← hmb, ← hX1, X1p, g1, q1, Y1p, g2, a2, q3, a4, Y2p, Y3p, Y4p, bq4, Bool.cond_self, hk, qs, hd32]
    refine store_step (Q := Q) (L := Go.Cl.Sh.bc (digest (hdr p))) ?_ (Go.Cl.Sh.bc_one _) fun b9 hn9 hr9 hl9 hg9 => ?_
    · rw [hd32]; rfl
    obtain ⟨Z1, hZ1⟩ : ∃ Z1, Z1 = (Y4.alloc (.cells (newBlk (List.replicate 32 (CV.int .u8 0))))).put Y4.nx (.cells b9) := ⟨_, rfl⟩
    have hZ1' := hZ1
    simp only [List.replicate] at hZ1'
    have EZ1 : Ext Y4 Z1 := by rw [hZ1]; exact ((Ext.refl Y4).alloc' _).put _ (Nat.le_refl _)
    have Z1nx : Z1.nx = Y4.nx + 1 := by rw [hZ1]; rfl
    have Z1b : Z1.blk Y4.nx = some b9 := by rw [hZ1]; exact put_blk_same _ _ _
    obtain ⟨d0, d1, d2, d3, dr, hd⟩ := four_of (digest (hdr p)) (by rw [digest_len]; omega)
    have hq0 := hg9 0
    have hq1 := hg9 1
    have hq2 := hg9 2
    have hq3 := hg9 3
    rw [hd] at hq0 hq1 hq2 hq3
    simp only [Go.Cl.Sh.bc, List.map_cons, nth] at hq0 hq1 hq2 hq3
    have ix0 : ∀ j kd, indexAddrT Tryd.prog 77 (.ptr j 0) (.int kd 0) = some (.ptr j 0) := fun j kd => ia_77 j 0 0 kd
    have ix1 : ∀ j kd, indexAddrT Tryd.prog 77 (.ptr j 0) (.int kd 1) = some (.ptr j 1) := fun j kd => ia_77 j 0 1 kd
    have ix2 : ∀ j kd, indexAddrT Tryd.prog 77 (.ptr j 0) (.int kd 2) = some (.ptr j 2) := fun j kd => ia_77 j 0 2 kd
    have ix3 : ∀ j kd, indexAddrT Tryd.prog 77 (.ptr j 0) (.int kd 3) = some (.ptr j 3) := fun j kd => ia_77 j 0 3 kd
    simp only [go_sem, ← hZ1', Z1b, ix0, ix1, ix2, ix3, hq0, hq1, hq2, hq3]
    obtain ⟨s9, l9, W9, e9, L10, F9, lw9⟩ := app_any ((L9.ext EZ1).ext (Ext.alloc Z1 (.cells ((((({ n := 4, d := [CV.int .u8 0], t := .nil } : Blk).st 0 (u8 d0)).st 1 (u8 d1)).st 2 (u8 d2)).st 3 (u8 d3))))) (new := [u8 d0, u8 d1, u8 d2, u8 d3]) rfl (by show _ + 4 ≤ _; omega)
    have e9 : appS (Z1.alloc (.cells ((((({ n := 4, d := [CV.int .u8 0], t := .nil } : Blk).st 0 (u8 d0)).st 1 (u8 d1)).st 2 (u8 d2)).st 3 (u8 d3)))) 1 1 1 s4 4 (some [u8 d0, u8 d1, u8 d2, u8 d3]) = some (s9, W9) := e9
    rw [e9]
    simp only [go_sem]
    have EZ2 : Ext h (Z1.alloc (.cells ((((({ n := 4, d := [CV.int .u8 0], t := .nil } : Blk).st 0 (u8 d0)).st 1 (u8 d1)).st 2 (u8 d2)).st 3 (u8 d3)))) := (S4.E.trans EZ1).alloc' _
    have lg := S4.lg
    have EW : Ext h W9 := ⟨Nat.le_trans EZ2.nx F9.nx, F9.gn.trans EZ2.gn, fun k hk => (F9.old k (Nat.lt_of_lt_of_le hk EZ2.nx) fun _ => by omega).trans (EZ2.old k hk)⟩
    have e4 : (digest (hdr p)).take 4 = [d0, d1, d2, d3] := by rw [hd]; rfl
    have BW : BSl W9 s9 (bc (pack p)) := by
      have : bc (pack p) = bc (hdr p) ++ [u8 d0, u8 d1, u8 d2, u8 d3] := by unfold pack; rw [bc_app, e4]; rfl
      rw [this]; exact lst_bsl L10
    have l9g : h.nx ≤ l9 := by
      have hz1 := EZ2.nx
      rcases F9.id with ⟨h1, _⟩ | h1
      · omega
      · omega
    rcases L10 with ⟨_, LL⟩
    rcases LL with ⟨h0, _⟩ | ⟨_, rfl, _⟩
    · exfalso; simp at h0
    rw [fin_new _ _ _ (by simp [okB, blt_eq']; omega), hQ]
    exact ⟨_, _, rfl, EW.up' _, BW.ext (Ext.up _ _)⟩
  · have ed : dataK p.kind = true := by unfold dataK; simp [hk]
    have ea : ackK p.kind = true := by unfold ackK; simp [hk]
    obtain ⟨i5, n5, c5, Y5, q5, hge5, E5, B5⟩ := num8_run hσ Y4 p.ack ok.a
    obtain ⟨s6, l6, Y6, a6, S6⟩ := (S4.ext E5).app B5 (by simp [be_len])
    have Y6p := S6.p
    have Y5p := (S4.ext E5).p
    have bq6 := lst_bq S6.l
    simp only [go_sem, pb', ← hX, Xnx, Xp, ov, oc, g0, ckb, ← hmb, ← hX1, X1p, g1, q1, Y1p, g2, a2, q3, a4, Y2p, Y3p, Y4p, bq4, Bool.cond_self, g3, q5, a6, Y6p, Y5p, bq6, hk]
    refine cnd_go (Q := Q) (by kernel_rfl) ?_
    obtain ⟨i7, n7, c7, Y7, q7, hge7, E7, B7⟩ := num8_run hσ Y6 p.seq ok.s
    obtain ⟨s8, l8, Y8, a8, S8⟩ := (S6.ext E7).app B7 (by simp [be_len])
    have Y8p := S8.p
    have x40 := hx4 ed
    obtain ⟨i9, n9, c9, Y9, q9, hge9, E9, B9⟩ := rblob_run hσ (B.ext S8.E) (by omega)
    obtain ⟨sA, lA, YA, aA, SA⟩ := (S8.ext E9).app B9 (by simp [be_len]; omega)
    have YAp := SA.p
    have Y7p := (S6.ext E7).p
    have Y9p := (S8.ext E9).p
    have bqA := lst_bq SA.l
    have bqv := bsl_bq B
    simp only [go_sem, pb', ← hX, Xnx, Xp, ov, oc, g0, ckb, ← hmb, ← hX1, X1p, g1, q1, Y1p, g2, a2, q3, a4, Y2p, Y3p, Y4p, bq4, Bool.cond_self, g3, q5, a6, Y6p, Y5p, bq6, g4, g5, q7, a8, Y8p, q9, aA, YAp, Y7p, Y9p, bqA, bqv, hk]
    refine cnd_go (Q := Q) (by kernel_rfl) ?_
    have hL : ((((([71, 80, kb] ++ be p.mine 8) ++ be p.theirs 8) ++ be p.ack 8) ++ be p.seq 8) ++ (be p.xs.length 2 ++ p.xs)) = hdr p := by unfold hdr; rw [hkb]; simp [ea, ed, kb1]
    have hlen : (hdr p).length ≤ 5000 := hdr_len hm
    have L9 : Lst YA 1 sA lA (hdr p).length (bc (hdr p)) := by rw [← hL]; exact SA.l
    have qs : (lim Tryd.prog σ).call 76 [sA] YA = some (.agg (Go.Cl.Sh.bc (digest (hdr p))), none) := by rw [← digest_same]; exact rsum_run hσ0 (lst_bv L9) (by omega) (hdr_byte p hxb)
    have hd32 : (Go.Cl.Sh.bc (digest (hdr p))).length = 32 := by rw [Go.Cl.Sh.bc_len]; exact digest_len _
    simp only [go_sem, pb', ← hX, Xnx, Xp, ov, oc, g0, ckb, ← hmb, ← hX1, X1p, g1, q1, Y1p, g2, a2, q3, a4, Y2p, Y3p, Y4p, bq4, Bool.cond_self, g3, q5, a6, Y6p, Y5p, bq6, g4, g5, q7, a8, Y8p, q9, aA, YAp, Y7p, Y9p, bqA, bqv, hk, qs, hd32]
    refine store_step (Q := Q) (L := Go.Cl.Sh.bc (digest (hdr p))) ?_ (Go.Cl.Sh.bc_one _) fun b9 hn9 hr9 hl9 hg9 => ?_
    · rw [hd32]; rfl
    obtain ⟨Z1, hZ1⟩ : ∃ Z1, Z1 = (YA.alloc (.cells (newBlk (List.replicate 32 (CV.int .u8 0))))).put YA.nx (.cells b9) := ⟨_, rfl⟩
    have hZ1' := hZ1
    simp only [List.replicate] at hZ1'
    have EZ1 : Ext YA Z1 := by rw [hZ1]; exact ((Ext.refl YA).alloc' _).put _ (Nat.le_refl _)
    have Z1nx : Z1.nx = YA.nx + 1 := by rw [hZ1]; rfl
    have Z1b : Z1.blk YA.nx = some b9 := by rw [hZ1]; exact put_blk_same _ _ _
    obtain ⟨d0, d1, d2, d3, dr, hd⟩ := four_of (digest (hdr p)) (by rw [digest_len]; omega)
    have hq0 := hg9 0
    have hq1 := hg9 1
    have hq2 := hg9 2
    have hq3 := hg9 3
    rw [hd] at hq0 hq1 hq2 hq3
    simp only [Go.Cl.Sh.bc, List.map_cons, nth] at hq0 hq1 hq2 hq3
    have ix0 : ∀ j kd, indexAddrT Tryd.prog 77 (.ptr j 0) (.int kd 0) = some (.ptr j 0) := fun j kd => ia_77 j 0 0 kd
    have ix1 : ∀ j kd, indexAddrT Tryd.prog 77 (.ptr j 0) (.int kd 1) = some (.ptr j 1) := fun j kd => ia_77 j 0 1 kd
    have ix2 : ∀ j kd, indexAddrT Tryd.prog 77 (.ptr j 0) (.int kd 2) = some (.ptr j 2) := fun j kd => ia_77 j 0 2 kd
    have ix3 : ∀ j kd, indexAddrT Tryd.prog 77 (.ptr j 0) (.int kd 3) = some (.ptr j 3) := fun j kd => ia_77 j 0 3 kd
    simp only [go_sem, ← hZ1', Z1b, ix0, ix1, ix2, ix3, hq0, hq1, hq2, hq3]
    obtain ⟨s9, l9, W9, e9, L10, F9, lw9⟩ := app_any ((L9.ext EZ1).ext (Ext.alloc Z1 (.cells ((((({ n := 4, d := [CV.int .u8 0], t := .nil } : Blk).st 0 (u8 d0)).st 1 (u8 d1)).st 2 (u8 d2)).st 3 (u8 d3))))) (new := [u8 d0, u8 d1, u8 d2, u8 d3]) rfl (by show _ + 4 ≤ _; omega)
    have e9 : appS (Z1.alloc (.cells ((((({ n := 4, d := [CV.int .u8 0], t := .nil } : Blk).st 0 (u8 d0)).st 1 (u8 d1)).st 2 (u8 d2)).st 3 (u8 d3)))) 1 1 1 sA 4 (some [u8 d0, u8 d1, u8 d2, u8 d3]) = some (s9, W9) := e9
    rw [e9]
    simp only [go_sem]
    have EZ2 : Ext h (Z1.alloc (.cells ((((({ n := 4, d := [CV.int .u8 0], t := .nil } : Blk).st 0 (u8 d0)).st 1 (u8 d1)).st 2 (u8 d2)).st 3 (u8 d3)))) := (SA.E.trans EZ1).alloc' _
    have lg := SA.lg
    have EW : Ext h W9 := ⟨Nat.le_trans EZ2.nx F9.nx, F9.gn.trans EZ2.gn, fun k hk => (F9.old k (Nat.lt_of_lt_of_le hk EZ2.nx) fun _ => by omega).trans (EZ2.old k hk)⟩
    have e4 : (digest (hdr p)).take 4 = [d0, d1, d2, d3] := by rw [hd]; rfl
    have BW : BSl W9 s9 (bc (pack p)) := by
      have : bc (pack p) = bc (hdr p) ++ [u8 d0, u8 d1, u8 d2, u8 d3] := by unfold pack; rw [bc_app, e4]; rfl
      rw [this]; exact lst_bsl L10
    have l9g : h.nx ≤ l9 := by
      have hz1 := EZ2.nx
      rcases F9.id with ⟨h1, _⟩ | h1
      · omega
      · omega
    rcases L10 with ⟨_, LL⟩
    rcases LL with ⟨h0, _⟩ | ⟨_, rfl, _⟩
    · exfalso; simp at h0
    rw [fin_new _ _ _ (by simp [okB, blt_eq']; omega), hQ]
    exact ⟨_, _, rfl, EW.up' _, BW.ext (Ext.up _ _)⟩
  · have ed : dataK p.kind = false := by unfold dataK; simp [hk]
    have ea : ackK p.kind = true := by unfold ackK; simp [hk]
    obtain ⟨i5, n5, c5, Y5, q5, hge5, E5, B5⟩ := num8_run hσ Y4 p.ack ok.a
    obtain ⟨s6, l6, Y6, a6, S6⟩ := (S4.ext E5).app B5 (by simp [be_len])
    have Y6p := S6.p
    have Y5p := (S4.ext E5).p
    have bq6 := lst_bq S6.l
    simp only [go_sem, pb', ← hX, Xnx, Xp, ov, oc, g0, ckb, ← hmb, ← hX1, X1p, g1, q1, Y1p, g2, a2, q3, a4, Y2p, Y3p, Y4p, bq4, Bool.cond_self, g3, q5, a6, Y6p, Y5p, bq6, hk]
    try refine cnd_go (Q := Q) (by kernel_rfl) ?_
    have hL : ((([71, 80, kb] ++ be p.mine 8) ++ be p.theirs 8) ++ be p.ack 8) = hdr p := by unfold hdr; rw [hkb]; simp [ea, ed, kb1]
    have hlen : (hdr p).length ≤ 5000 := hdr_len hm
    have L9 : Lst Y6 1 s6 l6 (hdr p).length (bc (hdr p)) := by rw [← hL]; exact S6.l
    have qs : (lim Tryd.prog σ).call 76 [s6] Y6 = some (.agg (Go.Cl.Sh.bc (digest (hdr p))), none) := by rw [← digest_same]; exact rsum_run hσ0 (lst_bv L9) (by omega) (hdr_byte p hxb)
    have hd32 : (Go.Cl.Sh.bc (digest (hdr p))).length = 32 := by rw [Go.Cl.Sh.bc_len]; exact digest_len _
    simp only [go_sem, pb', ← hX, Xnx, Xp, ov, oc, g0, ckb, ← hmb, ← hX1, X1p, g1, q1, Y1p, g2, a2, q3, a4, Y2p, Y3p, Y4p, bq4, Bool.cond_self, g3, q5, a6, Y6p, Y5p, bq6, hk, qs, hd32]
    refine store_step (Q := Q) (L := Go.Cl.Sh.bc (digest (hdr p))) ?_ (Go.Cl.Sh.bc_one _) fun b9 hn9 hr9 hl9 hg9 => ?_
    · rw [hd32]; rfl
    obtain ⟨Z1, hZ1⟩ : ∃ Z1, Z1 = (Y6.alloc (.cells (newBlk (List.replicate 32 (CV.int .u8 0))))).put Y6.nx (.cells b9) := ⟨_, rfl⟩
    have hZ1' := hZ1
    simp only [List.replicate] at hZ1'
    have EZ1 : Ext Y6 Z1 := by rw [hZ1]; exact ((Ext.refl Y6).alloc' _).put _ (Nat.le_refl _)
    have Z1nx : Z1.nx = Y6.nx + 1 := by rw [hZ1]; rfl
    have Z1b : Z1.blk Y6.nx = some b9 := by rw [hZ1]; exact put_blk_same _ _ _
    obtain ⟨d0, d1, d2, d3, dr, hd⟩ := four_of (digest (hdr p)) (by rw [digest_len]; omega)
    have hq0 := hg9 0
    have hq1 := hg9 1
    have hq2 := hg9 2
    have hq3 := hg9 3
    rw [hd] at hq0 hq1 hq2 hq3
    simp only [Go.Cl.Sh.bc, List.map_cons, nth] at hq0 hq1 hq2 hq3
    have ix0 : ∀ j kd, indexAddrT Tryd.prog 77 (.ptr j 0) (.int kd 0) = some (.ptr j 0) := fun j kd => ia_77 j 0 0 kd
    have ix1 : ∀ j kd, indexAddrT Tryd.prog 77 (.ptr j 0) (.int kd 1) = some (.ptr j 1) := fun j kd => ia_77 j 0 1 kd
    have ix2 : ∀ j kd, indexAddrT Tryd.prog 77 (.ptr j 0) (.int kd 2) = some (.ptr j 2) := fun j kd => ia_77 j 0 2 kd
    have ix3 : ∀ j kd, indexAddrT Tryd.prog 77 (.ptr j 0) (.int kd 3) = some (.ptr j 3) := fun j kd => ia_77 j 0 3 kd
    simp only [go_sem, ← hZ1', Z1b, ix0, ix1, ix2, ix3, hq0, hq1, hq2, hq3]
    obtain ⟨s9, l9, W9, e9, L10, F9, lw9⟩ := app_any ((L9.ext EZ1).ext (Ext.alloc Z1 (.cells ((((({ n := 4, d := [CV.int .u8 0], t := .nil } : Blk).st 0 (u8 d0)).st 1 (u8 d1)).st 2 (u8 d2)).st 3 (u8 d3))))) (new := [u8 d0, u8 d1, u8 d2, u8 d3]) rfl (by show _ + 4 ≤ _; omega)
    have e9 : appS (Z1.alloc (.cells ((((({ n := 4, d := [CV.int .u8 0], t := .nil } : Blk).st 0 (u8 d0)).st 1 (u8 d1)).st 2 (u8 d2)).st 3 (u8 d3)))) 1 1 1 s6 4 (some [u8 d0, u8 d1, u8 d2, u8 d3]) = some (s9, W9) := e9
    rw [e9]
    simp only [go_sem]
    have EZ2 : Ext h (Z1.alloc (.cells ((((({ n := 4, d := [CV.int .u8 0], t := .nil } : Blk).st 0 (u8 d0)).st 1 (u8 d1)).st 2 (u8 d2)).st 3 (u8 d3)))) := (S6.E.trans EZ1).alloc' _
    have lg := S6.lg
    have EW : Ext h W9 := ⟨Nat.le_trans EZ2.nx F9.nx, F9.gn.trans EZ2.gn, fun k hk => (F9.old k (Nat.lt_of_lt_of_le hk EZ2.nx) fun _ => by omega).trans (EZ2.old k hk)⟩
    have e4 : (digest (hdr p)).take 4 = [d0, d1, d2, d3] := by rw [hd]; rfl
    have BW : BSl W9 s9 (bc (pack p)) := by
      have : bc (pack p) = bc (hdr p) ++ [u8 d0, u8 d1, u8 d2, u8 d3] := by unfold pack; rw [bc_app, e4]; rfl
      rw [this]; exact lst_bsl L10
    have l9g : h.nx ≤ l9 := by
      have hz1 := EZ2.nx
      rcases F9.id with ⟨h1, _⟩ | h1
      · omega
      · omega
    rcases L10 with ⟨_, LL⟩
    rcases LL with ⟨h0, _⟩ | ⟨_, rfl, _⟩
    · exfalso; simp at h0
    rw [fin_new _ _ _ (by simp [okB, blt_eq']; omega), hQ]
    exact ⟨_, _, rfl, EW.up' _, BW.ext (Ext.up _ _)⟩
  · have ea : ackK p.kind = false := by unfold ackK; simp [hk]
    have ed : dataK p.kind = false := by unfold dataK; simp [hk]
    have hL : (([71, 80, kb] ++ be p.mine 8) ++ be p.theirs 8) = hdr p := by unfold hdr; rw [hkb]; simp [ea, ed, kb1]
    have hlen : (hdr p).length ≤ 5000 := hdr_len hm
    have L9 : Lst Y4 1 s4 l4 (hdr p).length (bc (hdr p)) := by rw [← hL]; exact S4.l
    have qs : (lim Tryd.prog σ).call 76 [s4] Y4 = some (.agg (Go.Cl.Sh.bc (digest (hdr p))), none) := by rw [← digest_same]; exact rsum_run hσ0 (lst_bv L9) (by omega) (hdr_byte p hxb)
    have hd32 : (Go.Cl.Sh.bc (digest (hdr p))).length = 32 := by rw [Go.Cl.Sh.bc_len]; exact digest_len _
    simp only [go_sem, pb', ← hX, Xnx, Xp, ov, oc, g0, ckb, ← hmb, ← hX1, X1p, g1, q1, Y1p, g2, a2, q3, a4, Y2p, Y3p, Y4p, bq4, Bool.cond_self, hk, qs, hd32]
    refine store_step (Q := Q) (L := Go.Cl.Sh.bc (digest (hdr p))) ?_ (Go.Cl.Sh.bc_one _) fun b9 hn9 hr9 hl9 hg9 => ?_
    · rw [hd32]; rfl
    obtain ⟨Z1, hZ1⟩ : ∃ Z1, Z1 = (Y4.alloc (.cells (newBlk (List.replicate 32 (CV.int .u8 0))))).put Y4.nx (.cells b9) := ⟨_, rfl⟩
    have hZ1' := hZ1
    simp only [List.replicate] at hZ1'
    have EZ1 : Ext Y4 Z1 := by rw [hZ1]; exact ((Ext.refl Y4).alloc' _).put _ (Nat.le_refl _)
    have Z1nx : Z1.nx = Y4.nx + 1 := by rw [hZ1]; rfl
    have Z1b : Z1.blk Y4.nx = some b9 := by rw [hZ1]; exact put_blk_same _ _ _
    obtain ⟨d0, d1, d2, d3, dr, hd⟩ := four_of (digest (hdr p)) (by rw [digest_len]; omega)
    have hq0 := hg9 0
    have hq1 := hg9 1
    have hq2 := hg9 2
    have hq3 := hg9 3
    rw [hd] at hq0 hq1 hq2 hq3
    simp only [Go.Cl.Sh.bc, List.map_cons, nth] at hq0 hq1 hq2 hq3
    have ix0 : ∀ j kd, indexAddrT Tryd.prog 77 (.ptr j 0) (.int kd 0) = some (.ptr j 0) := fun j kd => ia_77 j 0 0 kd
    have ix1 : ∀ j kd, indexAddrT Tryd.prog 77 (.ptr j 0) (.int kd 1) = some (.ptr j 1) := fun j kd => ia_77 j 0 1 kd
    have ix2 : ∀ j kd, indexAddrT Tryd.prog 77 (.ptr j 0) (.int kd 2) = some (.ptr j 2) := fun j kd => ia_77 j 0 2 kd
    have ix3 : ∀ j kd, indexAddrT Tryd.prog 77 (.ptr j 0) (.int kd 3) = some (.ptr j 3) := fun j kd => ia_77 j 0 3 kd
    simp only [go_sem, ← hZ1', Z1b, ix0, ix1, ix2, ix3, hq0, hq1, hq2, hq3]
    obtain ⟨s9, l9, W9, e9, L10, F9, lw9⟩ := app_any ((L9.ext EZ1).ext (Ext.alloc Z1 (.cells ((((({ n := 4, d := [CV.int .u8 0], t := .nil } : Blk).st 0 (u8 d0)).st 1 (u8 d1)).st 2 (u8 d2)).st 3 (u8 d3))))) (new := [u8 d0, u8 d1, u8 d2, u8 d3]) rfl (by show _ + 4 ≤ _; omega)
    have e9 : appS (Z1.alloc (.cells ((((({ n := 4, d := [CV.int .u8 0], t := .nil } : Blk).st 0 (u8 d0)).st 1 (u8 d1)).st 2 (u8 d2)).st 3 (u8 d3)))) 1 1 1 s4 4 (some [u8 d0, u8 d1, u8 d2, u8 d3]) = some (s9, W9) := e9
    rw [e9]
    simp only [go_sem]
    have EZ2 : Ext h (Z1.alloc (.cells ((((({ n := 4, d := [CV.int .u8 0], t := .nil } : Blk).st 0 (u8 d0)).st 1 (u8 d1)).st 2 (u8 d2)).st 3 (u8 d3)))) := (S4.E.trans EZ1).alloc' _
    have lg := S4.lg
    have EW : Ext h W9 := ⟨Nat.le_trans EZ2.nx F9.nx, F9.gn.trans EZ2.gn, fun k hk => (F9.old k (Nat.lt_of_lt_of_le hk EZ2.nx) fun _ => by omega).trans (EZ2.old k hk)⟩
    have e4 : (digest (hdr p)).take 4 = [d0, d1, d2, d3] := by rw [hd]; rfl
    have BW : BSl W9 s9 (bc (pack p)) := by
      have : bc (pack p) = bc (hdr p) ++ [u8 d0, u8 d1, u8 d2, u8 d3] := by unfold pack; rw [bc_app, e4]; rfl
      rw [this]; exact lst_bsl L10
    have l9g : h.nx ≤ l9 := by
      have hz1 := EZ2.nx
      rcases F9.id with ⟨h1, _⟩ | h1
      · omega
      · omega
    rcases L10 with ⟨_, LL⟩
    rcases LL with ⟨h0, _⟩ | ⟨_, rfl, _⟩
    · exfalso; simp at h0
    rw [fin_new _ _ _ (by simp [okB, blt_eq']; omega), hQ]
    exact ⟨_, _, rfl, EW.up' _, BW.ext (Ext.up _ _)⟩
end Go.Cl.Sh.W
