/- The program's functions, run by the rewriting evaluator: what each answers and leaves (DkB). -/
import Derived.Test.YtadmgnlmoodjeaaDkA
set_option linter.all false
open Go Go.Cl Go.Proofs
namespace Go.Cl.Sh
noncomputable section
variable {σ : Sums}
set_option maxRecDepth 1000000

def SettleR (h : H) (d lid mid n : Nat) (last : List (List Nat)) (es : List En) (k : Nat) (x : List Nat) (r : Option (CV × Option H)) : Prop :=
  ∃ h' c', r = some (.tup [], some h') ∧ DkTo h h' d lid mid n last es (last.set k x) (delE es k) c' ∧ h'.low ≤ mid
theorem storeA_at {β : Type} {Q : Option β → Prop} {b : Blk} {off : Nat} {L : List CV} {K : H → Option β} {f : Blk → H} (hl : off + L.length ≤ b.n) (ho : L.all CV.one = true) 
    (k : ∀ b', b'.n = b.n → b'.ro = b.ro → (∀ i, b'.get i = if off ≤ i ∧ i < off + L.length then nth L (i - off) else b.get i) → Q (K (f b'))) : Q (@thn _ β (Option.map f (b.storeA off L)) ⟨K⟩) := by
  obtain ⟨b', e, h1, h2, h3⟩ := storeA_ok L b off hl ho
  rw [e]
  exact k b' h1 h2 h3
theorem loadN_ext {b b' : Blk} : ∀ (n off : Nat) (L : List CV), b.loadN off n = some L → (∀ i, off ≤ i → i < off + n → b'.get i = b.get i) → b'.loadN off n = some L
  | 0, off, L, h, _ => by rw [loadN_z] at h ⊢; exact h
  | n + 1, off, L, h, hg => by
    rw [loadN_s] at h ⊢
    rw [hg off (Nat.le_refl _) (by omega)]
    cases hb : b.get off with
    | none => rw [hb] at h; exact h
    | some v =>
      rw [hb] at h
      simp only [bind_some'] at h ⊢
      cases hl : b.loadN (off + 1) n with
      | none => rw [hl] at h; cases h
      | some L1 =>
        rw [loadN_ext n (off + 1) L1 hl fun i h1 h2 => hg i (by omega) (by omega)]
        rw [hl] at h; exact h
theorem settle_run (hσ : ∀ f a h, dkf f = true → σ f a h = none) {h : H} {d lid mid n : Nat} {last : List (List Nat)} {es : List En} {c : Nat} (D : DkOk h d lid mid n last es c) {k : Nat} (hk : k < n) {x : List Nat} (hx : x.length = 256) :
    SettleR h d lid mid n last es k x ((lim Try.prog σ).call 25 [.ptr d 0, .int .i64 (Int.ofNat k), .agg (bc x)] h) := by
  obtain ⟨Q, hQ⟩ : ∃ Q, Q = SettleR h d lid mid n last es k x := ⟨_, rfl⟩
  rw [← hQ]
  rw [call_eq (hσ _ _ _ rfl) fn_25 rfl rfl, Try.ntmps25, Try.results25]
  obtain ⟨nb, hnb⟩ : ∃ nb, nb = allocB 33 (bc x) := ⟨_, rfl⟩
  have ldn : nb.loadN 0 256 = some (bc x) := loadN_of _ _ _ (by rw [bc_len, hx]) fun i v hv => by rw [Nat.zero_add, hnb, aB_g, hv]
  obtain ⟨X, hX⟩ : ∃ X, X = h.lo.alloc (.cells nb) := ⟨_, rfl⟩
  have XE : Ext h X := by rw [hX]; exact (Ext.lo h).alloc' _
  have Xb : X.blk h.nx = some nb := by rw [hX]; simp only [go_sem]
  have Xn : X.nx = h.nx + 1 := by rw [hX]; simp only [go_sem]
  have Xl : X.low = h.nx := by rw [hX]; simp only [go_sem]
  have D1 : DkOk X d lid mid n last es c := D.ext XE
  obtain ⟨b, hb, B⟩ := D1.db
  obtain ⟨l, hl, hln, hlr, hlg⟩ := D1.lb
  have hdl := D.ne1
  have hin : k * 256 + 256 ≤ n * 256 := by omega
  have hlm : lid ≠ mid := blk_mp_ne hl D1.mp
  have hdm : d ≠ mid := blk_mp_ne hb D1.mp
  have hlt := D.llt
  have hnl : h.nx ≠ lid := by omega
  simp only [go_sem, ← hnb, ← hX, hb, B.g0, B.g1, bc_one, bc_len, hx, ldn, Xb, hl, hk, hlr, Nat.zero_add]
  refine cnd_go (Q := Q) (by kernel_rfl) ?_
  simp only [go_sem, ← hnb, ← hX, hb, B.g0, B.g1, bc_one, bc_len, hx, ldn, Xb, hl, hk, hlr, Nat.zero_add]
  refine storeA_at (Q := Q) (by rw [bc_len, hx, hln]; exact hin) (bc_one _) fun b' hn' hr' hg' => ?_
  rw [bc_len, hx] at hg'
  obtain ⟨Y, hY⟩ : ∃ Y : H, Y = X.put lid (.cells b') := ⟨_, rfl⟩
  rw [← hY]
  have Yb : Y.blk d = some b := by rw [hY, put_blk_ne _ _ _ _ hdl]; exact hb
  have Ym : Y.mp mid = some (es.map En.cv, c) := by
    rw [hY]; unfold H.mp; rw [put_get_ne _ _ _ _ hlm.symm]; exact D1.mp
  have hde := delete_i Ym k
  simp only [go_sem, ← hY, Yb, B.g0, B.g1, hde]
  refine cnd_go (Q := Q) (by kernel_rfl) ?_
  have Yn : Y.blk h.nx = some nb := by rw [hY, put_blk_ne _ _ _ _ hnl]; exact Xb
  have bs : beqC (.sl lid 0 n (.exact n)) (.sl lid 0 n (.exact n)) = true := by simp [beqC]
  have bp : ∀ a b, beqC (.ptr a b) (.ptr a b) = true := fun a b => by simp [beqC]
  have bx : beqC (.agg (bc x)) (.agg (bc x)) = true := beqC_bc x
  simp only [go_sem, ← hY, Yb, Yn, B.g0, B.g1, hde, bs, bp, bx, ldn, hk]
  have hbd' : builtinT Try.prog Y .delete [46, 3] [.map mid, .int .i64 (Int.ofNat k)] = hh (deleteT Try.prog Y 46 (.map mid) (.int .i64 (Int.ofNat k))) := rfl
  rw [hbd', hde]
  obtain ⟨Z, hZ⟩ : ∃ Z : H, Z = Y.put mid (.map ((delE es k).map En.cv) c) := ⟨_, rfl⟩
  rw [← hZ]
  simp only [go_sem, hh, ← hZ]
  have Yx : Y.nx = X.nx := by rw [hY]; rfl
  have Zx : Z.nx = X.nx := by rw [hZ]; exact Yx
  have Yl : Y.low = min X.low lid := by rw [hY]; rfl
  have Zl : Z.low = min Y.low mid := by rw [hZ]; rfl
  have hmlt := D.mlt
  rw [fin_l _ _ _ (by omega), hQ]
  have G1 : ∀ i, i ≠ mid → i ≠ lid → Z.t.get i = X.t.get i := fun i h1 h2 => by
    rw [hZ, put_get_ne _ _ _ _ h1, hY, put_get_ne _ _ _ _ h2]
  have G0 : ∀ i, i < h.nx → i ≠ mid → i ≠ lid → Z.t.get i = h.t.get i := fun i h0 h1 h2 => by rw [G1 i h1 h2, XE.old i h0]
  have Zm : Z.mp mid = some ((delE es k).map En.cv, c) := by
    rw [hZ]; unfold H.mp; rw [put_get, if_pos rfl]
  have Zlb : Z.blk lid = some b' := by
    rw [hZ, put_blk_ne _ _ _ _ hlm, hY]; exact put_blk_same _ _ _
  have hem : ∀ e ∈ es, e.id ≠ mid := fun e he => by
    obtain ⟨Le, h0, _⟩ := D.en.row e he
    rcases Le.val with ⟨q, _⟩ | ⟨_, _, _, b0, hb0, _⟩
    · omega
    · exact blk_mp_ne hb0 D.mp
  have EZ : EnOk Z (delE es k) c := D.en.del (by omega) fun e he => G0 e.id (D.idlt he) (hem e he) (D.ne2 e he).2
  obtain ⟨b0, hb0, B0⟩ := D.db
  have DK : DkOk Z d lid mid n (last.set k x) (delE es k) c := by
    refine ⟨by have := D.dlt; omega, by omega, by omega, ⟨b0, ?_, B0⟩, ⟨b', Zlb, hn'.trans hln, hr'.trans hlr, fun i y hy => ?_⟩, by rw [List.length_set]; exact D.len, D.npos, D.nle, fun y hy => ?_, Zm, EZ, D.ne1, fun e he => D.ne2 e (mem_del D.en.keys he).1, fun y hy => ?_⟩
    · unfold H.blk; rw [G0 d D.dlt hdm hdl]; exact hb0
    · rw [List.getElem?_set] at hy
      by_cases q : k = i
      · subst q
        rw [if_pos rfl, if_pos (by rw [D.len]; exact hk)] at hy
        cases hy
        refine loadN_of _ _ _ (by rw [bc_len, hx]) fun j v hv => ?_
        have := nlt hv
        rw [bc_len, hx] at this
        rw [hg', if_pos (by omega), Nat.add_sub_cancel_left]; exact hv
      · rw [if_neg q] at hy
        refine loadN_ext _ _ _ (hlg i y hy) fun j h1 h2 => ?_
        rw [hg', if_neg (by omega)]
    · rcases List.mem_or_eq_of_mem_set hy with q | q
      · exact D.l256 y q
      · rw [q]; exact hx
    · obtain ⟨e, he, rfl⟩ := List.mem_map.1 hy
      exact D.kn _ (List.mem_map.2 ⟨e, (mem_del D.en.keys he).1, rfl⟩)
  have g3 : Z.gn = h.gn := by rw [hZ, hY]; exact XE.gn
  refine ⟨Z.up (min h.low Z.low), c, rfl, ⟨DK.up _, ⟨by show h.nx ≤ Z.nx; omega, g3, fun i hi hS => G0 i hi (fun q => hS (.inr (.inl q))) fun q => hS (.inl q)⟩, fun e he => .inl ⟨e, (mem_del D.en.keys he).1, rfl⟩, fun lo q1 q2 q3 q4 => ?_⟩, ?_⟩
  · show lo ≤ min h.low Z.low
    omega
  · show min h.low Z.low ≤ mid
    omega
end
end Go.Cl.Sh

namespace Go.Cl.Sh
noncomputable section
variable {σ : Sums}
set_option maxRecDepth 1000000

/-- a disk's open blocks, told -/
def openL (P : Program) (gn : FuncId) (h : H) (id off : Nat) : Option (CV × Option H) :=
  match (lim P noSums).call gn [.ptr id off] h with
  | some (.bool false, none) => match (h.blk id).bind fun b => b.get (off + 1) with
    | some (.map m) => (h.mp m).bind fun p => (keyInts p.1).bind fun ks =>
        cond (stampOk p.1 p.2 && noDupI ks && Nat.ble p.1.length 1000000)
          (match ks with
           | [] => some (.nils, none)
           | _ :: _ => some (.sl h.nx 0 ks.length (.opn 1), some (h.alloc (.cells (fillB (sortI ks).length ((sortI ks).map (CV.int .i64))))))) none
    | _ => none
  | _ => none
def OpenTold (σ : Sums) : Prop := ∀ h d, σ 12 [.ptr d 0] h = openL Try.prog 24 h d 0
theorem noDupI_of : ∀ {l : List Int}, l.Nodup → noDupI l = true
  | [], _ => rfl
  | x :: l, h => by
    rw [List.nodup_cons] at h
    simp only [noDupI, noDupI_of h.2, Bool.and_true, Bool.not_eq_true', List.any_eq_false, decide_eq_true_eq]
    exact fun y hy q => h.1 (q ▸ hy)
theorem noDupN_of : ∀ {l : List Nat}, l.Nodup → noDupN l = true
  | [], _ => rfl
  | x :: l, h => by
    rw [List.nodup_cons] at h
    simp only [noDupN, noDupN_of h.2, Bool.and_true, Bool.not_eq_true', List.any_eq_false, beq_eq', decide_eq_true_eq]
    exact fun y hy q => h.1 (q ▸ hy)
theorem keyInts_es : ∀ {es : List En}, (∀ k ∈ keysE es, k < 1000000) → keyInts (es.map En.cv) = some ((keysE es).map Int.ofNat)
  | [], _ => rfl
  | e :: l, h => by
    have h1 : e.k < 1000000 := h e.k (by simp [keysE])
    have h2 := keyInts_es (es := l) fun k hk => h k (by simp only [keysE, List.map_cons, List.mem_cons] at hk ⊢; exact .inr hk)
    have h3 : keyInt (e.cv).1 = some (Int.ofNat e.k) := by
      have a1 : (decide ((-9223372036854775808 : Int) ≤ Int.ofNat e.k)) = true := decide_eq_true (Int.le_trans (by decide) (Int.natCast_nonneg e.k))
      have a2 : (decide (Int.ofNat e.k < (9223372036854775808 : Int))) = true := decide_eq_true (by simp; omega)
      unfold En.cv keyInt
      dsimp only
      rw [a1, a2, Bool.and_true, cond_true]
    simp only [List.map_cons, keyInts, h2, h3, keysE]; rfl
theorem nodup_le : ∀ (n : Nat) {l : List Nat}, l.Nodup → (∀ x ∈ l, x < n) → l.length ≤ n
  | 0, l, _, h => by
    cases l with
    | nil => simp
    | cons a l => exact absurd (h a (by simp)) (by omega)
  | n + 1, l, hn, h => by
    have := nodup_le n (l := l.erase n) (hn.erase n) fun x hx => by
      have h1 := List.mem_of_mem_erase hx
      have h2 := h x h1
      have h3 : x ≠ n := fun q => by subst q; exact (List.Nodup.not_mem_erase hn) hx
      omega
    rw [List.length_erase] at this
    split at this <;> omega
theorem sort_nat (l : List Nat) : ∃ S : List Nat, S.Perm l ∧ sortI (l.map Int.ofNat) = S.map Int.ofNat := by
  have hp := sortI_perm (l.map Int.ofNat)
  refine ⟨(sortI (l.map Int.ofNat)).map Int.toNat, ?_, ?_⟩
  · have := hp.map Int.toNat
    rw [List.map_map] at this
    have he : l.map (Int.toNat ∘ Int.ofNat) = l := by
      rw [show (Int.toNat ∘ Int.ofNat) = id from funext fun n => rfl, List.map_id]
    rw [he] at this; exact this
  · rw [List.map_map]
    conv => lhs; rw [← List.map_id (sortI (l.map Int.ofNat))]
    refine List.map_congr_left fun x hx => ?_
    have := hp.subset hx
    obtain ⟨n, _, rfl⟩ := List.mem_map.1 this
    rfl
def iz (S : List Nat) : List CV := S.map fun k => .int .i64 (Int.ofNat k)
theorem open_run (hO : OpenTold σ) {h : H} {d lid mid n : Nat} {last : List (List Nat)} {es : List En} {c : Nat} (D : DkOk h d lid mid n last es c) :
    ∃ S : List Nat, S.Perm (keysE es) ∧ ((S = [] ∧ (lim Try.prog σ).call 12 [.ptr d 0] h = some (.nils, none)) ∨
      (S ≠ [] ∧ (lim Try.prog σ).call 12 [.ptr d 0] h = some (.sl h.nx 0 S.length (.opn 1), some (h.alloc (.cells (fillB S.length (iz S))))))) := by
  obtain ⟨S, hS, hS2⟩ := sort_nat (keysE es)
  have hlen : S.length = es.length := by rw [hS.length_eq]; simp [keysE]
  obtain ⟨b, hb, B⟩ := D.db
  have hn : (lim Try.prog noSums).call 24 [.ptr d 0] h = some (.bool false, none) := none_run (fun _ _ _ _ => rfl) hb B D.npos
  have hnp := D.npos
  have hnle := D.nle
  have hk : keyInts (es.map En.cv) = some ((keysE es).map Int.ofNat) := keyInts_es fun k hk => by have := D.kn k hk; omega
  have hst : stampOk (es.map En.cv) c = true := by
    unfold stampOk
    have h1 : ((es.map En.cv).all fun e => Nat.blt e.2.2 c) = true := by
      rw [List.all_map, List.all_eq_true]
      intro e he
      show Nat.blt e.born c = true
      rw [blt_eq']; exact decide_eq_true (D.en.lt e he)
    have h2 : (es.map En.cv).map (fun e => e.2.2) = es.map (·.born) := by rw [List.map_map]; rfl
    rw [h1, h2, noDupN_of D.en.born]; rfl
  have hnd : noDupI ((keysE es).map Int.ofNat) = true := by
    refine noDupI_of ?_
    have := D.en.keys
    unfold List.Nodup at this ⊢
    rw [List.pairwise_map]
    exact this.imp fun h q => h (Int.ofNat.inj q)
  have hbig : es.length ≤ 1000000 := by
    have := nodup_le n D.en.keys D.kn
    rw [show (keysE es).length = es.length from List.length_map _] at this; omega
  have e : openL Try.prog 24 h d 0 = (match (keysE es).map Int.ofNat with
           | [] => some (.nils, none)
           | _ :: _ => some (.sl h.nx 0 ((keysE es).map Int.ofNat).length (.opn 1), some (h.alloc (.cells (fillB (sortI ((keysE es).map Int.ofNat)).length ((sortI ((keysE es).map Int.ofNat)).map (CV.int .i64))))))) := by
    unfold openL
    rw [hn]
    dsimp only
    rw [hb, Option.bind_some, B.g1]
    dsimp only
    rw [D.mp, Option.bind_some, hk, Option.bind_some, hst, hnd, show Nat.ble (es.map En.cv).length 1000000 = true by rw [ble_eq', List.length_map]; exact decide_eq_true hbig]
    rfl
  have hc : (lim Try.prog σ).call 12 [.ptr d 0] h = openL Try.prog 24 h d 0 := by
    rw [lim_call]; unfold callF; rw [hO, e]
    cases (keysE es).map Int.ofNat <;> rfl
  rw [hc, e]
  refine ⟨S, hS, ?_⟩
  cases hke : keysE es with
  | nil =>
    rw [hke] at hS
    exact .inl ⟨hS.eq_nil, rfl⟩
  | cons a l =>
    refine .inr ⟨fun q => by rw [q, hke] at hS; exact absurd hS.nil_eq.symm (by simp), ?_⟩
    have hl : (List.map Int.ofNat (keysE es)).length = S.length := by rw [List.length_map, hS.length_eq]
    rw [← hke, hS2, hl, List.length_map, List.map_map]
    cases hq : (keysE es).map Int.ofNat with
    | nil => rw [hke] at hq; cases hq
    | cons a' l' => rfl
end
end Go.Cl.Sh

namespace Go.Cl.Sh
noncomputable section
variable {σ : Sums}
set_option maxRecDepth 1000000

theorem DkTo.refl {h : H} {d lid mid n : Nat} {last : List (List Nat)} {es : List En} {c : Nat} (D : DkOk h d lid mid n last es c) : DkTo h h d lid mid n last es last es c :=
  ⟨D, ⟨Nat.le_refl _, rfl, fun _ _ _ => rfl⟩, fun e he => .inl ⟨e, he, rfl⟩, fun lo q _ _ _ => q⟩
theorem DkTo.trans {h h1 h2 : H} {d lid mid n : Nat} {last l1 l2 : List (List Nat)} {es e1 e2 : List En} {c1 c2 : Nat} (hl : lid < h.nx) (a : DkTo h h1 d lid mid n last es l1 e1 c1) (b : DkTo h1 h2 d lid mid n l1 e1 l2 e2 c2) :
    DkTo h h2 d lid mid n last es l2 e2 c2 := by
  refine ⟨b.ok, ⟨Nat.le_trans a.fr.nx b.fr.nx, b.fr.gn.trans a.fr.gn, fun k hk hS => ?_⟩, fun e he => ?_, fun lo q1 q2 q3 q4 => ?_⟩
  · refine (b.fr.old k (by have := a.fr.nx; omega) ?_).trans (a.fr.old k hk hS)
    rintro (q | q | ⟨e, he, q⟩)
    · exact hS (.inl q)
    · exact hS (.inr (.inl q))
    · rcases a.ids e he with ⟨e0, h0, q0⟩ | q0
      · exact hS (.inr (.inr ⟨e0, h0, q0.trans q⟩))
      · omega
  · rcases b.ids e he with ⟨e0, h0, q0⟩ | q0
    · rcases a.ids e0 h0 with ⟨e3, h3, q3⟩ | q3
      · exact .inl ⟨e3, h3, q3.trans q0⟩
      · exact .inr (by omega)
    · exact .inr (by have := a.fr.nx; omega)
  · refine b.low lo (a.low lo q1 q2 q3 q4) q2 q3 fun e he => ?_
    rcases a.ids e he with ⟨e0, h0, q0⟩ | q0
    · rw [← q0]; exact q4 e0 h0
    · omega
theorem DkTo.base {h Y h' : H} {d lid mid n : Nat} {last l1 : List (List Nat)} {es e1 : List En} {c1 : Nat} (T : DkTo Y h' d lid mid n last es l1 e1 c1) (E : Ext h Y) (hl : Y.low = h.nx) (hlt : lid < h.nx) : DkTo h (h'.up (min h.low h'.low)) d lid mid n last es l1 e1 c1 := by
  refine ⟨T.ok.up _, ⟨Nat.le_trans E.nx T.fr.nx, T.fr.gn.trans E.gn, fun k hk hS => ?_⟩, fun e he => ?_, fun lo q1 q2 q3 q4 => ?_⟩
  · exact (T.fr.old k (by have := E.nx; omega) hS).trans (E.old k hk)
  · rcases T.ids e he with q | q
    · exact .inl q
    · exact .inr (by have := E.nx; omega)
  · show lo ≤ min h.low h'.low
    have := T.low lo (by omega) q2 q3 q4
    omega
/-- a part of the open blocks is settled -/
def Half (R : Nat → List Nat → Prop) (last : List (List Nat)) (es : List En) (S : List Nat) (last' : List (List Nat)) (es' : List En) : Prop :=
  ∀ y, (y ∈ S → vsOf es' y = [] ∧ ∃ x, last'[y]? = some x ∧ R y x) ∧ (y ∉ S → vsOf es' y = vsOf es y ∧ last'[y]? = last[y]?)
theorem Half.nil (R : Nat → List Nat → Prop) (last : List (List Nat)) (es : List En) : Half R last es [] last es := fun y => ⟨fun h => absurd h (by simp), fun _ => ⟨rfl, rfl⟩⟩
theorem Half.step {R : Nat → List Nat → Prop} {last : List (List Nat)} {es : List En} {S : List Nat} {last' : List (List Nat)} {es' : List En} (h : Half R last es S last' es') {k : Nat} (hn : (keysE es').Nodup) (hk : k < last'.length) {x : List Nat} (hx : R k x) :
    Half R last es (S ++ [k]) (last'.set k x) (delE es' k) := fun y => by
  rw [vsOf_del hn, List.getElem?_set]
  by_cases q : y = k
  · subst q
    rw [if_pos rfl, if_pos rfl, if_pos hk]
    exact ⟨fun _ => ⟨rfl, x, rfl, hx⟩, fun hy => absurd (by simp) hy⟩
  · rw [if_neg q, if_neg (fun r => q r.symm)]
    obtain ⟨h1, h2⟩ := h y
    exact ⟨fun hy => h1 (by simpa [q] using hy), fun hy => h2 (fun r => hy (by simp [r]))⟩
def FlushR (h : H) (d lid mid n : Nat) (last : List (List Nat)) (es : List En) (r : Option (CV × Option H)) : Prop :=
  ∃ x last' es' c', r = some (.int .i64 0, x) ∧ DkTo h (x.getD h) d lid mid n last es last' es' c' ∧ (∀ y, vsOf es' y = [] ∧ (y < n → last'[y]? = some (seenL last es y))) ∧ (∀ h', x = some h' → h'.low ≤ mid) ∧ (x = none → last' = last ∧ es' = es)
theorem flush_run (hσ : ∀ f a h, dkf f = true → σ f a h = none) (hO : OpenTold σ) {h : H} {d lid mid n : Nat} {last : List (List Nat)} {es : List En} {c : Nat} (D : DkOk h d lid mid n last es c) :
    FlushR h d lid mid n last es ((lim Try.prog σ).call 16 [.ptr d 0] h) := by
  obtain ⟨Q, hQ⟩ : ∃ Q, Q = FlushR h d lid mid n last es := ⟨_, rfl⟩
  rw [← hQ]
  rw [call_eq (hσ _ _ _ rfl) fn_16 rfl rfl, Try.ntmps16, Try.results16]
  obtain ⟨X, hX⟩ : ∃ X, X = h.lo := ⟨_, rfl⟩
  have XE : Ext h X := by rw [hX]; exact Ext.lo h
  have Xl : X.low = h.nx := by rw [hX]; rfl
  have Xn : X.nx = h.nx := by rw [hX]; rfl
  have D1 : DkOk X d lid mid n last es c := D.ext XE
  obtain ⟨b, hb, B⟩ := D1.db
  have e1 : (lim Try.prog σ).call 28 [.ptr d 0, .int .i64 0] X = some (.int .i64 0, none) := by
    have := there_run hσ hb B D.npos D.nle 0
    rw [if_pos ⟨by decide, by have := D.npos; simp; omega⟩] at this
    exact this
  have e2 : (lim Try.prog σ).call 30 [.ptr d 0] X = some (.int .i64 0, none) := step_run hσ hb B
  obtain ⟨S, hS, ⟨hS0, e3⟩ | ⟨hS0, e3⟩⟩ := open_run hO D1
  · simp only [go_sem, ← hX, e1, e2, e3]
    refine loop_ind (Q := Q) (fun i env h' => evT env 19 = .int .i64 0 ∧ evT env 20 = .int .i64 0 ∧ h' = X) 0 0 ⟨?_, ?_, hX.symm⟩ (Nat.le_refl _) (fun i env h' _ hi => absurd hi (by omega)) ?_
    · simp only [go_sem]
    · simp only [go_sem]
    rintro env h' ⟨a1, a2, rfl⟩
    simp only [go_sem, a1, a2]
    rw [fin_q _ _ _ Xl rfl, hQ]
    have he : es = [] := by
      have := hS.length_eq
      rw [hS0] at this
      simpa [keysE] using this.symm
    subst he
    have hv : ∀ y, vsOf ([] : List En) y = [] := fun y => rfl
    exact ⟨none, _, _, _, rfl, DkTo.refl D, fun y => ⟨hv y, fun hy => by unfold seenL; rw [hv y]; simp [D.len, hy]⟩, fun h' q => (by cases q), fun _ => ⟨rfl, rfl⟩⟩
  · simp only [go_sem, ← hX, e1, e2, e3]
    obtain ⟨Y, hY⟩ : ∃ Y, Y = X.alloc (.cells (fillB S.length (iz S))) := ⟨_, rfl⟩
    rw [← hY]
    have YE : Ext X Y := by rw [hY]; exact Ext.alloc _ _
    have D2 : DkOk Y d lid mid n last es c := D1.ext YE
    have Yb : Y.blk X.nx = some (fillB S.length (iz S)) := by rw [hY]; exact alloc_blk_same _ _ _ rfl
    have Yn : Y.nx = X.nx + 1 := by rw [hY]; rfl
    have Yl : Y.low = h.nx := by rw [hY]; exact Xl
    have hSn : S.length ≤ 1000 := by
      have h1 := nodup_le n D.en.keys D.kn
      rw [← hS.length_eq] at h1
      have := D.nle; omega
    have hnd : S.Nodup := hS.nodup_iff.2 D.en.keys
    have hgS : ∀ i k, S[i]? = some k → (fillB S.length (iz S)).get i = some (.int .i64 (Int.ofNat k)) := fun i k hk => by
      rw [fillB_get _ _ _ (by simp [iz]), nth_eq]; unfold iz; rw [List.getElem?_map, hk]; rfl
    have hmid : mid < h.nx := D.mlt
    refine loop_ind (Q := Q) (fun i env h' => evT env 0 = .ptr d 0 ∧ evT env 18 = .sl X.nx 0 S.length (.opn 1) ∧ evT env 19 = .int .i64 (Int.ofNat S.length) ∧ evT env 20 = .int .i64 (Int.ofNat i) ∧ (0 < i → h'.low ≤ mid) ∧
      ∃ last' es' c', DkTo Y h' d lid mid n last es last' es' c' ∧ Half (fun y x => x = seenL last es y) last es (S.take i) last' es') S.length 0 ?_ (Nat.zero_le _) ?_ ?_
    · exact ⟨by simp only [go_sem], by simp only [go_sem], by simp only [go_sem], by simp only [go_sem]; rfl, fun q => by omega, last, es, c, DkTo.refl D2, Half.nil _ _ _⟩
    · rintro i env h' ⟨a0, a18, a19, a20, hlo, last', es', c', T, Hf⟩ hi next
      obtain ⟨k, hk⟩ : ∃ k, S[i]? = some k := ⟨_, List.getElem?_eq_getElem hi⟩
      have hkS : k ∈ S := List.mem_of_getElem? hk
      have hkn : k < n := D.kn k (hS.subset hkS)
      have hgk := hgS i k hk
      have hb2 : h'.blk X.nx = some (fillB S.length (iz S)) := by
        unfold H.blk
        rw [T.fr.old X.nx (by omega) ?_]
        · exact Yb
        · rintro (q | q | ⟨e, he, q⟩)
          · have := D1.llt; omega
          · have := D1.mlt; omega
          · have := D1.idlt he; omega
      have hi2 := ofNat_lt hi
      have hsn := seen_run hσ T.ok hkn
      have hxl := T.ok.seen_len hkn
      obtain ⟨h2, c2, es2, T2, hl2⟩ := settle_run hσ T.ok hkn hxl
      have hs := wrap_succ (i := i) (by omega)
      simp only [go_sem, a0, a18, a19, a20, hi2, hi, hb2, hgk, hsn, es2, hs, Nat.zero_add, Nat.mul_one]
      refine next _ _ ⟨by simp only [go_sem, a0], by simp only [go_sem, a18], by simp only [go_sem, a19], by simp only [go_sem], fun _ => hl2, _, _, _, DkTo.trans D2.llt T T2, ?_⟩
      have hnot : k ∉ S.take i := fun q => by
        obtain ⟨j, hj⟩ := List.getElem?_of_mem q
        rw [List.getElem?_take] at hj
        split at hj
        · rename_i hji
          have := (List.getElem?_inj (List.getElem?_eq_some_iff.1 hj).1 hnd).1 (hj.trans hk.symm)
          omega
        · cases hj
      have hse : seenL last' es' k = seenL last es k := by
        obtain ⟨q1, q2⟩ := (Hf k).2 hnot
        unfold seenL; rw [q1, q2]
      have := Hf.step T.ok.en.keys (k := k) (by rw [T.ok.len]; exact hkn) (x := seenL last' es' k) hse
      rw [List.take_add_one, hk]
      exact this
    · rintro env h' ⟨a0, a18, a19, a20, hlo, last', es', c', T, Hf⟩
      have hi2 := ofNat_nlt (Nat.le_refl S.length)
      have hpos : 0 < S.length := List.length_pos_iff.2 hS0
      have hl := hlo hpos
      simp only [go_sem, a0, a18, a19, a20, hi2]
      rw [fin_l _ _ _ (by omega), hQ]
      rw [List.take_length] at Hf
      have T0 := T.base (XE.trans YE) Yl D.llt
      refine ⟨some (h'.up (min h.low h'.low)), last', es', c', rfl, T0, fun y => ?_, fun h2 q => (by cases q; show min h.low h'.low ≤ mid; omega), fun q => by cases q⟩
      by_cases q : y ∈ S
      · obtain ⟨q1, x, q2, q3⟩ := (Hf y).1 q
        exact ⟨q1, fun _ => by rw [q2, q3]⟩
      · obtain ⟨q1, q2⟩ := (Hf y).2 q
        have q3 : vsOf es y = [] := by
          unfold vsOf
          rw [findE_none.2 fun r => q (hS.symm.subset r)]
        refine ⟨q1.trans q3, fun hy => ?_⟩
        obtain ⟨x, hx⟩ : ∃ x, last[y]? = some x := ⟨_, List.getElem?_eq_getElem (by rw [D.len]; exact hy)⟩
        rw [q2]; unfold seenL; rw [q3, hx]; rfl
end
end Go.Cl.Sh

namespace Go.Cl.Sh
noncomputable section
variable {σ : Sums}
set_option maxRecDepth 1000000

theorem place_ex (p : Int) {N : Nat} (hN : 0 < N) (hN2 : N < 1000000000) : ∃ q : Nat, q < N ∧ (IntKind.wrap .i64 (p.tmod (Int.ofNat N) + Int.ofNat N)).tmod (Int.ofNat N) = Int.ofNat q := by
  have hp : (0 : Int) < Int.ofNat N := by simp; exact hN
  have h1 : p.tmod (Int.ofNat N) < Int.ofNat N := Int.tmod_lt_of_pos _ hp
  have h2 : -(Int.ofNat N) < p.tmod (Int.ofNat N) := Int.lt_tmod_of_pos _ hp
  have hNi : Int.ofNat N < 1000000000 := by simp; omega
  rw [wrap_i64 (by omega) (by omega)]
  have h3 : 0 ≤ (p.tmod (Int.ofNat N) + Int.ofNat N).tmod (Int.ofNat N) := Int.tmod_nonneg _ (by omega)
  have h4 := Int.tmod_lt_of_pos (p.tmod (Int.ofNat N) + Int.ofNat N) hp
  obtain ⟨q, hq⟩ := Int.eq_ofNat_of_zero_le h3
  refine ⟨q, ?_, hq⟩
  rw [hq] at h4
  have : (q : Int) < (N : Int) := h4
  omega
theorem es_nil {h : H} {d lid mid n : Nat} {last : List (List Nat)} {es : List En} {c : Nat} (D : DkOk h d lid mid n last es c) (hv : ∀ y, vsOf es y = []) : es = [] := by
  cases es with
  | nil => rfl
  | cons e l =>
    exfalso
    have h1 := (D.en.row e (by simp)).2.1
    have := hv e.k
    unfold vsOf at this
    rw [findE_at (j := 0) (e := e) D.en.keys rfl rfl] at this
    have h2 : e.vs = [] := this
    rw [h2] at h1
    exact absurd h1 (by simp)
/-- a part of the open blocks is settled; what is loaded of a row -/
theorem vrow {h : H} {d lid mid n : Nat} {last : List (List Nat)} {es : List En} {c : Nat} (D : DkOk h d lid mid n last es c) (k : Nat) {i : Nat} {x : List Nat} (hx : (vsOf es k)[i]? = some x) :
    ∃ id b, vOf' es k = .sl id 0 (vsOf es k).length (.opn 256) ∧ id < h.nx ∧ h.blk id = some b ∧ b.loadN (i * 256) 256 = some (bc x) ∧ x.length = 256 := by
  have hi := (List.getElem?_eq_some_iff.1 hx).1
  obtain ⟨id, L, r1, r2, r3, r4⟩ := row_of D k
  rcases L.val with ⟨q, _⟩ | ⟨_, q, hid, b, hb, hro, hn, hg⟩
  · omega
  · exact ⟨id, b, q, hid, hb, load_row hg r2 hx, r2 x (List.mem_of_getElem? hx)⟩
def dkc (f : FuncId) : Bool := dkf f || Nat.beq f 11 || Nat.beq f 13
theorem dead_run (hσ : ∀ f a h, dkc f = true → σ f a h = none) {h : H} {d : Nat} {b : Blk} {lid mid n : Nat} (hb : h.blk d = some b) (B : DkB b lid mid n) (hn : 0 < n) :
    (lim Try.prog σ).call 13 [.ptr d 0] h = some (.bool false, none) := by
  rw [call_eq (hσ _ _ _ rfl) fn_13 rfl rfl, Try.ntmps13, Try.results13]
  have e := none_run (σ := σ) (fun f a h q => hσ f a h (by unfold dkc; rw [q]; rfl)) (h := h.lo) hb B hn
  simp only [go_sem, hb, B.g4, e]
  rw [fin_q _ _ _ rfl rfl]
def CrashR (h : H) (d lid mid n : Nat) (last : List (List Nat)) (es : List En) (r : Option (CV × Option H)) : Prop :=
  ∃ h' last' c', r = some (.int .i64 0, some h') ∧ DkOk h' d lid mid n last' [] c' ∧ Fr h h' (fun k => k = d ∨ dkS lid mid es k) ∧ (∀ lo, lo ≤ h.low → lo ≤ d → lo ≤ lid → lo ≤ mid → (∀ e ∈ es, lo ≤ e.id) → lo ≤ h'.low) ∧ h'.low ≤ d ∧
    ∀ y, y < n → ∃ x, last'[y]? = some x ∧ (last[y]? = some x ∨ x ∈ vsOf es y)
theorem DkB.st {b : Blk} {lid mid n : Nat} (B : DkB b lid mid n) : DkB (((b.st 2 (.bool false)).st 3 (.int .i64 0)).st 4 (.bool false)) lid mid n := by
  have hn := B.n6
  refine ⟨by simp only [st_n]; exact hn, by simp only [st_ro]; exact B.ro, ?_, ?_, ?_, ?_, ?_, ?_⟩
  · rw [st_get_ne _ _ _ _ (by decide), st_get_ne _ _ _ _ (by decide), st_get_ne _ _ _ _ (by decide)]; exact B.g0
  · rw [st_get_ne _ _ _ _ (by decide), st_get_ne _ _ _ _ (by decide), st_get_ne _ _ _ _ (by decide)]; exact B.g1
  · rw [st_get_ne _ _ _ _ (by decide), st_get_ne _ _ _ _ (by decide), st_get_same _ _ _ (by omega)]
  · rw [st_get_ne _ _ _ _ (by decide), st_get_same _ _ _ (by simp only [st_n]; omega)]
  · rw [st_get_same _ _ _ (by simp only [st_n]; omega)]
  · rw [st_get_ne _ _ _ _ (by decide), st_get_ne _ _ _ _ (by decide), st_get_ne _ _ _ _ (by decide)]; exact B.g5
theorem DkOk.setd {h h' : H} {d lid mid n : Nat} {last : List (List Nat)} {es : List En} {c : Nat} (D : DkOk h d lid mid n last es c) (hn : h'.nx = h.nx) (hg : ∀ k, k ≠ d → h'.t.get k = h.t.get k) {b : Blk} (hb : h'.blk d = some b) (B : DkB b lid mid n) : DkOk h' d lid mid n last es c := by
  obtain ⟨b0, hb0, B0⟩ := D.db
  have hdm : d ≠ mid := blk_mp_ne hb0 D.mp
  refine ⟨by have := D.dlt; omega, by have := D.llt; omega, by have := D.mlt; omega, ⟨b, hb, B⟩, ?_, D.len, D.npos, D.nle, D.l256, ?_, ?_, D.ne1, D.ne2, D.kn⟩
  · obtain ⟨l, hl, hl2⟩ := D.lb
    refine ⟨l, ?_, hl2⟩
    unfold H.blk; rw [hg lid D.ne1.symm]; exact hl
  · unfold H.mp; rw [hg mid hdm.symm]; exact D.mp
  · refine ⟨D.en.keys, D.en.ids, D.en.born, D.en.lt, fun e he => ⟨(D.en.row e he).1.mono (by omega) fun _ => ?_, (D.en.row e he).2⟩⟩
    unfold H.blk; rw [hg e.id (D.ne2 e he).1]
theorem crash_run (hσ' : ∀ f a h, dkc f = true → σ f a h = none) (hO : OpenTold σ) {h : H} {d lid mid n : Nat} {last : List (List Nat)} {es : List En} {c : Nat} (D : DkOk h d lid mid n last es c)
    {pv : CV} {zs : List Int} (P : Sl Try.prog 23 h pv 1 zs.length (zs.map (CV.int .i64))) :
    CrashR h d lid mid n last es ((lim Try.prog σ).call 11 [.ptr d 0, pv] h) := by
  have hσ : ∀ f a h, dkf f = true → σ f a h = none := fun f a h q => hσ' f a h (by unfold dkc; rw [q]; rfl)
  obtain ⟨Q, hQ⟩ : ∃ Q, Q = CrashR h d lid mid n last es := ⟨_, rfl⟩
  rw [← hQ]
  rw [call_eq (hσ' _ _ _ rfl) fn_11 rfl rfl, Try.ntmps11, Try.results11]
  obtain ⟨X, hX⟩ : ∃ X, X = h.lo := ⟨_, rfl⟩
  have XE : Ext h X := by rw [hX]; exact Ext.lo h
  have Xl : X.low = h.nx := by rw [hX]; rfl
  have Xn : X.nx = h.nx := by rw [hX]; rfl
  have D1 : DkOk X d lid mid n last es c := D.ext XE
  obtain ⟨b, hb, B⟩ := D1.db
  have e1 : (lim Try.prog σ).call 24 [.ptr d 0] X = some (.bool false, none) := none_run hσ hb B D.npos
  -- behind the loop
  have fing : ∀ (Y : H) (h' : H) (last' : List (List Nat)) (es' : List En) (c' : Nat) (S : List Nat), Ext h Y → Y.low = h.nx → S.Perm (keysE es) → DkTo Y h' d lid mid n last es last' es' c' → Half (fun y x => last[y]? = some x ∨ x ∈ vsOf es y) last es S last' es' →
      ∀ (b1 : Blk), h'.blk d = some b1 → ∀ (h3 : H), h3 = ((h'.put d (.cells (b1.st 2 (.bool false)))).put d (.cells ((b1.st 2 (.bool false)).st 3 (.int .i64 0)))).put d (.cells (((b1.st 2 (.bool false)).st 3 (.int .i64 0)).st 4 (.bool false))) → Q (some (fin h h3 (.int .i64 0))) := by
    intro Y h' last' es' c' S YE Yl hS T Hf b1 hb1 h3 hh3
    have hd := D.dlt
    obtain ⟨b2, hb2, B2⟩ := T.ok.db
    rw [hb1] at hb2; cases hb2
    have n3 : h3.nx = h'.nx := by rw [hh3]; rfl
    have l3 : h3.low = min (min (min h'.low d) d) d := by rw [hh3]; rfl
    have g3 : ∀ k, k ≠ d → h3.t.get k = h'.t.get k := fun k hk => by
      rw [hh3, put_get_ne _ _ _ _ hk, put_get_ne _ _ _ _ hk, put_get_ne _ _ _ _ hk]
    have hb3 : h3.blk d = some (((b1.st 2 (.bool false)).st 3 (.int .i64 0)).st 4 (.bool false)) := by
      rw [hh3]; exact put_blk_same _ _ _
    have D3 := T.ok.setd n3 g3 hb3 B2.st
    have hv : ∀ y, vsOf es' y = [] := fun y => by
      by_cases q : y ∈ S
      · exact ((Hf y).1 q).1
      · rw [((Hf y).2 q).1]
        unfold vsOf
        rw [findE_none.2 fun r => q (hS.symm.subset r)]
    have he : es' = [] := es_nil D3 hv
    subst he
    rw [fin_l _ _ _ (by omega), hQ]
    refine ⟨_, last', c', rfl, D3.up _, ⟨by show h.nx ≤ h3.nx; have := T.fr.nx; have := YE.nx; omega, ?_, fun k hk hS' => ?_⟩, fun lo q1 q2 q3 q4 q5 => ?_, ?_, fun y hy => ?_⟩
    · show h3.gn = h.gn
      rw [hh3]; exact T.fr.gn.trans YE.gn
    · show h3.t.get k = h.t.get k
      rw [g3 k (fun q => hS' (.inl q)), T.fr.old k (by have := YE.nx; omega) fun q => hS' (.inr q), YE.old k hk]
    · show lo ≤ min h.low h3.low
      have := T.low lo (by omega) q3 q4 q5
      omega
    · show min h.low h3.low ≤ d
      omega
    · by_cases q : y ∈ S
      · exact ((Hf y).1 q).2
      · obtain ⟨q1, q2⟩ := (Hf y).2 q
        obtain ⟨x, hx⟩ : ∃ x, last[y]? = some x := ⟨_, List.getElem?_eq_getElem (by rw [D.len]; exact hy)⟩
        exact ⟨x, by rw [q2, hx], .inl hx⟩
  obtain ⟨S, hS, ⟨hS0, e3⟩ | ⟨hS0, e3⟩⟩ := open_run hO D1
  · simp only [go_sem, ← hX, e1, e3]
    refine loop_ind (Q := Q) (fun i env h' => evT env 0 = .ptr d 0 ∧ evT env 15 = .int .i64 0 ∧ evT env 16 = .int .i64 0 ∧ h' = X) 0 0 ⟨?_, ?_, ?_, hX.symm⟩ (Nat.le_refl _) (fun i env h' _ hi => absurd hi (by omega)) ?_
    · simp only [go_sem]
    · simp only [go_sem]
    · simp only [go_sem]
    rintro env h' ⟨a0, a1, a2, rfl⟩
    simp only [go_sem, a0, a1, a2, hb, B.n6, B.ro]
    have hv : es = [] := by
      have := hS.length_eq
      rw [hS0] at this
      simpa [keysE] using this.symm
    exact fing _ _ _ _ _ S XE Xl hS (DkTo.refl D1) (by rw [hS0]; exact Half.nil _ _ _) b hb _ rfl
  · simp only [go_sem, ← hX, e1, e3]
    obtain ⟨Y, hY⟩ : ∃ Y, Y = X.alloc (.cells (fillB S.length (iz S))) := ⟨_, rfl⟩
    rw [← hY]
    have YE : Ext X Y := by rw [hY]; exact Ext.alloc _ _
    have D2 : DkOk Y d lid mid n last es c := D1.ext YE
    have Yb : Y.blk X.nx = some (fillB S.length (iz S)) := by rw [hY]; exact alloc_blk_same _ _ _ rfl
    have Yn : Y.nx = X.nx + 1 := by rw [hY]; rfl
    have Yl : Y.low = h.nx := by rw [hY]; exact Xl
    have hSn : S.length ≤ 1000 := by
      have h1 := nodup_le n D.en.keys D.kn
      rw [← hS.length_eq] at h1
      have := D.nle; omega
    have hnd : S.Nodup := hS.nodup_iff.2 D.en.keys
    have hgS : ∀ i k, S[i]? = some k → (fillB S.length (iz S)).get i = some (.int .i64 (Int.ofNat k)) := fun i k hk => by
      rw [fillB_get _ _ _ (by simp [iz]), nth_eq]; unfold iz; rw [List.getElem?_map, hk]; rfl
    have hmid : mid < h.nx := D.mlt
    refine loop_ind (Q := Q) (fun i env h' => evT env 0 = .ptr d 0 ∧ evT env 1 = pv ∧ evT env 14 = .sl X.nx 0 S.length (.opn 1) ∧ evT env 15 = .int .i64 (Int.ofNat S.length) ∧ evT env 16 = .int .i64 (Int.ofNat i) ∧
      ∃ last' es' c', DkTo Y h' d lid mid n last es last' es' c' ∧ Half (fun y x => last[y]? = some x ∨ x ∈ vsOf es y) last es (S.take i) last' es') S.length 0 ?_ (Nat.zero_le _) ?_ ?_
    · exact ⟨by simp only [go_sem], by simp only [go_sem], by simp only [go_sem], by simp only [go_sem], by simp only [go_sem]; rfl, last, es, c, DkTo.refl D2, Half.nil _ _ _⟩
    · rintro i env h' ⟨a0, a1, a14, a15, a16, last', es', c', TT, Hf⟩ hi next
      obtain ⟨k, hk⟩ : ∃ k, S[i]? = some k := ⟨_, List.getElem?_eq_getElem hi⟩
      have hkS : k ∈ S := List.mem_of_getElem? hk
      have hkn : k < n := D.kn k (hS.subset hkS)
      have hgk := hgS i k hk
      have hb2 : h'.blk X.nx = some (fillB S.length (iz S)) := by
        unfold H.blk
        rw [TT.fr.old X.nx (by omega) ?_]
        · exact Yb
        · rintro (q | q | ⟨e, he, q⟩)
          · have := D1.llt; omega
          · have := D1.mlt; omega
          · have := D1.idlt he; omega
      have hi2 := ofNat_lt hi
      have hs := wrap_succ (i := i) (by omega)
      have hnot : k ∉ S.take i := fun q => by
        obtain ⟨j, hj⟩ := List.getElem?_of_mem q
        rw [List.getElem?_take] at hj
        split at hj
        · rename_i hji
          have := (List.getElem?_inj (List.getElem?_eq_some_iff.1 hj).1 hnd).1 (hj.trans hk.symm)
          omega
        · cases hj
      obtain ⟨hvk, hlk⟩ := (Hf k).2 hnot
      obtain ⟨bd, hbd, Bd⟩ := TT.ok.db
      obtain ⟨bl, hbl, hbln, hblr, hblg⟩ := TT.ok.lb
      have hlook : lookupT Try.prog h' 46 (.map mid) (.int .i64 (Int.ofNat k)) false = some (vOf' es' k) := lookup_i TT.ok.mp k
      obtain ⟨id, L, r1, r2, r3, r4⟩ := row_of TT.ok k
      obtain ⟨m, hm⟩ : ∃ m, m = (vsOf es' k).length := ⟨_, rfl⟩
      have hln : builtinT Try.prog h' .len [30] [vOf' es' k] = some (.val (.int .i64 (Int.ofNat m))) := by
        rw [hm]
        rcases L.val with ⟨q0, q1⟩ | ⟨_, q1, _⟩
        · rw [q1, q0]; kernel_rfl
        · rw [q1]; exact len_30 _ _ _ _ _ _ _
      have hw1 : IntKind.wrap .i64 (Int.ofNat m + 1) = Int.ofNat (m + 1) := wrap_succ (by omega)
      have c0 : ¬ Int.ofNat (m + 1) = 0 := by simp; omega
      have hbe : (Int.ofNat (m + 1) == 0) = false := by rw [beq_eq_false_iff_ne]; exact c0
      have i0 : Int.ofNat 0 = (0 : Int) := rfl
      have close : ∀ x h2 c2, x.length = 256 → DkTo h' h2 d lid mid n last' es' (last'.set k x) (delE es' k) c2 → (last[k]? = some x ∨ x ∈ vsOf es k) →
          ∃ last' es' c', DkTo Y h2 d lid mid n last es last' es' c' ∧ Half (fun y x => last[y]? = some x ∨ x ∈ vsOf es y) last es (S.take (i + 1)) last' es' := fun x h2 c2 _ T2 hx => by
        refine ⟨_, _, _, DkTo.trans D2.llt TT T2, ?_⟩
        have := Hf.step TT.ok.en.keys (k := k) (by rw [TT.ok.len]; exact hkn) (x := x) hx
        rw [List.take_add_one, hk]
        exact this
      by_cases ci : i < zs.length
      · obtain ⟨pid, poff, pb, hp1, hp2, hp3, hp4, hp5⟩ := P.elt i ci
        have hpb : h'.blk pid = some pb := by
          unfold H.blk
          rw [TT.fr.old pid (by omega) ?_, (XE.trans YE).old pid hp2]
          · exact hp3
          · rintro (r | r | ⟨e, he, r⟩)
            · obtain ⟨l0, hl0, _, hr0, _⟩ := D.lb
              rw [r, hl0] at hp3; cases hp3; rw [hr0] at hp4; cases hp4
            · exact blk_mp_ne hp3 D.mp r
            · obtain ⟨Le, h0, _⟩ := D.en.row e he
              rcases Le.val with ⟨r0, _⟩ | ⟨_, _, _, b0, hb0, hr0, _⟩
              · omega
              · rw [r, hp3] at hb0; cases hb0; rw [hp4] at hr0; cases hr0
        obtain ⟨z, hz⟩ : ∃ z, zs[i]? = some z := ⟨_, List.getElem?_eq_getElem ci⟩
        have hpg : pb.get poff = some (.int .i64 z) := hp5 0 _ (by decide) (by rw [Nat.mul_one, Nat.add_zero, nth_eq, List.getElem?_map, hz]; rfl)
        have ci2 := ofNat_lt ci
        obtain ⟨q, hq, hq2⟩ := place_ex z (N := m + 1) (by omega) (by omega)
        by_cases q0 : q = 0
        · subst q0
          obtain ⟨x, hx⟩ : ∃ x, last'[k]? = some x := ⟨_, List.getElem?_eq_getElem (by rw [TT.ok.len]; exact hkn)⟩
          have hx256 := TT.ok.l256 x (List.mem_of_getElem? hx)
          have hld := hblg k x hx
          obtain ⟨h2, c2, es2, T2, hl2⟩ := settle_run hσ TT.ok hkn hx256
          simp only [go_sem, a0, a1, a14, a15, a16, hi2, hi, hb2, hgk, hs, Nat.zero_add, Nat.mul_one, P.len, hbd, Bd.g0, Bd.g1, hlook, hln, hw1, bin_rem, c0, hbe, hq2, i0, ci2, hp1, hpb, hpg, hkn, hbl, hld, es2]
          exact next _ _ ⟨by simp only [go_sem, a0], by simp only [go_sem, a1], by simp only [go_sem, a14], by simp only [go_sem, a15], by simp only [go_sem], close x h2 c2 hx256 T2 (.inl (hlk.symm.trans hx))⟩
        · have cq : ¬ Int.ofNat q = 0 := by simp; exact q0
          obtain ⟨x, hx⟩ : ∃ x, (vsOf es' k)[q - 1]? = some x := ⟨_, List.getElem?_eq_getElem (by omega)⟩
          obtain ⟨rid, rb, hv1, hrid, hrb, hrl, hx256⟩ := vrow TT.ok k hx
          rw [hv1, ← hm] at hlook hln
          have hw2 : IntKind.wrap .i64 (Int.ofNat q - 1) = Int.ofNat (q - 1) := wrap_n (by simp; omega) (by omega)
          have hq1 : q - 1 < m := by omega
          obtain ⟨h2, c2, es2, T2, hl2⟩ := settle_run hσ TT.ok hkn hx256
          simp only [go_sem, a0, a1, a14, a15, a16, hi2, hi, hb2, hgk, hs, Nat.zero_add, Nat.mul_one, P.len, hbd, Bd.g0, Bd.g1, hlook, hln, hw1, bin_rem, c0, hbe, hq2, i0, ci2, hp1, hpb, hpg, cq, hw2, hq1, hrb, hrl, es2]
          exact next _ _ ⟨by simp only [go_sem, a0], by simp only [go_sem, a1], by simp only [go_sem, a14], by simp only [go_sem, a15], by simp only [go_sem], close x h2 c2 hx256 T2 (.inr (by rw [← hvk]; exact List.mem_of_getElem? hx))⟩
      · have ci2 := ofNat_nlt (Nat.le_of_not_lt ci)
        obtain ⟨q, hq, hq2⟩ := place_ex 0 (N := m + 1) (by omega) (by omega)
        by_cases q0 : q = 0
        · subst q0
          obtain ⟨x, hx⟩ : ∃ x, last'[k]? = some x := ⟨_, List.getElem?_eq_getElem (by rw [TT.ok.len]; exact hkn)⟩
          have hx256 := TT.ok.l256 x (List.mem_of_getElem? hx)
          have hld := hblg k x hx
          obtain ⟨h2, c2, es2, T2, hl2⟩ := settle_run hσ TT.ok hkn hx256
          simp only [go_sem, a0, a1, a14, a15, a16, hi2, hi, hb2, hgk, hs, Nat.zero_add, Nat.mul_one, P.len, hbd, Bd.g0, Bd.g1, hlook, hln, hw1, bin_rem, c0, hbe, hq2, i0, ci2, hkn, hbl, hld, es2]
          exact next _ _ ⟨by simp only [go_sem, a0], by simp only [go_sem, a1], by simp only [go_sem, a14], by simp only [go_sem, a15], by simp only [go_sem], close x h2 c2 hx256 T2 (.inl (hlk.symm.trans hx))⟩
        · have cq : ¬ Int.ofNat q = 0 := by simp; exact q0
          obtain ⟨x, hx⟩ : ∃ x, (vsOf es' k)[q - 1]? = some x := ⟨_, List.getElem?_eq_getElem (by omega)⟩
          obtain ⟨rid, rb, hv1, hrid, hrb, hrl, hx256⟩ := vrow TT.ok k hx
          rw [hv1, ← hm] at hlook hln
          have hw2 : IntKind.wrap .i64 (Int.ofNat q - 1) = Int.ofNat (q - 1) := wrap_n (by simp; omega) (by omega)
          have hq1 : q - 1 < m := by omega
          obtain ⟨h2, c2, es2, T2, hl2⟩ := settle_run hσ TT.ok hkn hx256
          simp only [go_sem, a0, a1, a14, a15, a16, hi2, hi, hb2, hgk, hs, Nat.zero_add, Nat.mul_one, P.len, hbd, Bd.g0, Bd.g1, hlook, hln, hw1, bin_rem, c0, hbe, hq2, i0, ci2, cq, hw2, hq1, hrb, hrl, es2]
          exact next _ _ ⟨by simp only [go_sem, a0], by simp only [go_sem, a1], by simp only [go_sem, a14], by simp only [go_sem, a15], by simp only [go_sem], close x h2 c2 hx256 T2 (.inr (by rw [← hvk]; exact List.mem_of_getElem? hx))⟩
    · rintro env h' ⟨a0, a1, a14, a15, a16, last', es', c', TT, Hf⟩
      have hi2 := ofNat_nlt (Nat.le_refl S.length)
      obtain ⟨bd, hbd, Bd⟩ := TT.ok.db
      simp only [go_sem, a0, a1, a14, a15, a16, hi2, hbd, Bd.n6, Bd.ro]
      exact fing _ _ _ _ _ S (XE.trans YE) Yl hS TT (by rw [List.take_length] at Hf; exact Hf) bd hbd _ rfl
end
end Go.Cl.Sh
