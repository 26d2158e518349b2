/- The program's functions, run by the rewriting evaluator: what each answers and leaves (UhA). -/
import Derived.Test.YtmpaohmapdcckaaClH
set_option linter.all false
open Go Go.Cl Go.Proofs
attribute [go_sem] Nat.reduceLT Nat.reduceLeDiff Nat.reduceEqDiff Nat.reduceAdd Nat.reduceSub Nat.reduceMul reduceCtorEq Int.reduceBEq Int.reduceLT Int.reduceLE Int.reduceAdd Int.reduceSub Int.reduceEq Int.reduceNeg Int.reduceToNat Int.reduceGT Int.reduceGE

namespace Go.Cl.U
noncomputable section
variable {σ : Sums}
set_option maxRecDepth 1000000

def RetQ (v : CV) (r : Option (CV × Option H)) : Prop := r = some (v, none)
structure Ln where
  (c b h0 h1 : Nat)
def Ln.cv (l : Ln) : CV := .agg [u64 l.c, u64 l.b, u64 l.h0, u64 l.h1]
def Ln.cs (l : Ln) : List CV := [u64 l.c, u64 l.b, u64 l.h0, u64 l.h1]
theorem Ln.cv_eq (l : Ln) : l.cv = .agg [u64 l.c, u64 l.b, u64 l.h0, u64 l.h1] := rfl
def nz (l : List Nat) : List Nat := l.filter fun x => decide (x ≠ 0)
def Ln.el (l : Ln) : List Nat := nz [l.b, l.h0, l.h1]
def uc (l : List Nat) : List CV := l.map u64
theorem uc_len (l : List Nat) : (uc l).length = l.length := by simp [uc]
theorem uc_app (a b : List Nat) : uc (a ++ b) = uc a ++ uc b := by simp [uc]
theorem uc_one (l : List Nat) : (uc l).all CV.one = true := List.all_eq_true.2 fun x hx => by
  obtain ⟨b, _, rfl⟩ := List.mem_map.1 hx; rfl

theorem blank_run (hσ : ∀ f a h, f ≠ 9 → σ f a h = none) (h : H) (l : Ln) : RetQ (.bool (decide (l.c = 0))) ((lim Try.prog σ).call 17 [l.cv] h) := by
  rw [call_eq (hσ _ _ _ (by decide)) fn_17 rfl rfl, Try.ntmps17, Try.results17]
  have l0 : CV.int .u64 0 = u64 0 := rfl
  simp only [go_sem, Ln.cv_eq, l0, eq64]
  exact congrArg some (fin_q _ _ _ rfl rfl)

/-- numbers of whomever -/
def EL (h : H) (v : CV) (es : List Nat) : Prop := (es = [] ∧ v = .nils) ∨ ∃ id b, v = .sl id 0 es.length (.opn 1) ∧ id < h.nx ∧ h.blk id = some b ∧ b.n = es.length ∧ ∀ i x, es[i]? = some x → b.get i = some (u64 x)
theorem EL.ext {h h' : H} {v : CV} {es : List Nat} (B : EL h v es) (e : Ext h h') : EL h' v es := by
  rcases B with h1 | ⟨id, b, h1, h2, h3, h4⟩
  · exact .inl h1
  · exact .inr ⟨id, b, h1, Nat.lt_of_lt_of_le h2 e.nx, (e.blk h2).trans h3, h4⟩
theorem EL.len {h : H} {v : CV} {es : List Nat} (B : EL h v es) (h' : H) (ts : List TypeId) (az : List CV) : builtinT Try.prog h' .len (34 :: ts) (v :: az) = some (.val (.int .i64 (Int.ofNat es.length))) := by
  rcases B with ⟨rfl, rfl⟩ | ⟨id, b, rfl, _⟩ <;> simp [builtinT, Try.underlying34, lenC]
theorem EL.at_ {h : H} {v : CV} {es : List Nat} (B : EL h v es) {i x : Nat} (hx : es[i]? = some x) : ∃ id b, (∀ kd, indexAddrT Try.prog 34 v (.int kd (Int.ofNat i)) = some (.ptr id i)) ∧ id < h.nx ∧ h.blk id = some b ∧ b.get i = some (u64 x) := by
  have hi := (List.getElem?_eq_some_iff.1 hx).1
  rcases B with ⟨rfl, _⟩ | ⟨id, b, rfl, h2, h3, h4, h5⟩
  · simp at hi
  · exact ⟨id, b, fun kd => by rw [ia_34, blt_eq', decide_eq_true hi, cond_true, Nat.mul_one, Nat.zero_add], h2, h3, h5 i x hx⟩

theorem index_run (hσ : ∀ f a h, f ≠ 9 → σ f a h = none) {h : H} {v : CV} {es : List Nat} (B : EL h v es) (hl : es.length ≤ 1000) (x : Nat) : ∃ i : Int, RetQ (.int .i64 i) ((lim Try.prog σ).call 80 [v, u64 x] h) ∧ (i ≥ 0 ↔ x ∈ es) := by
  rw [call_eq (hσ _ _ _ (by decide)) fn_80 rfl rfl, Try.ntmps80, Try.results80]
  simp only [go_sem, B.len]
  show (fun r => ∃ i : Int, RetQ (.int .i64 i) r ∧ (i ≥ 0 ↔ x ∈ es)) _
  refine loop_ind (Q := fun r => ∃ i : Int, RetQ (.int .i64 i) r ∧ (i ≥ 0 ↔ x ∈ es)) (fun i env h' => h' = h.lo ∧ evT env 0 = v ∧ evT env 1 = u64 x ∧ evT env 7 = .int .i64 (Int.ofNat es.length) ∧ evT env 8 = .int .i64 (Int.ofNat i) ∧ x ∉ es.take i) es.length 0 ?_ (Nat.zero_le _) ?_ ?_
  · exact ⟨rfl, by simp only [go_sem], by simp only [go_sem], by simp only [go_sem], by simp only [go_sem]; rfl, by simp⟩
  · rintro i env h' ⟨rfl, e0, e1, e7, e8, hx⟩ hi next
    have c0 := ofNat_lt hi
    obtain ⟨y, hy⟩ : ∃ y, es[i]? = some y := ⟨_, List.getElem?_eq_getElem hi⟩
    obtain ⟨id, b, ea, _, hb, hg⟩ := (B.ext (Ext.lo h)).at_ hy
    have w1 := wrap_succ (i := i) (by omega)
    by_cases q : x = y
    · subst q
      simp only [go_sem, e0, e1, e7, e8, c0, ea, hb, hg, eq64]
      refine ⟨Int.ofNat i, congrArg some (fin_q _ _ _ rfl rfl), ?_⟩
      simp
      exact List.mem_of_getElem? hy
    · simp only [go_sem, e0, e1, e7, e8, c0, ea, hb, hg, eq64, q, w1]
      refine next _ _ ⟨rfl, by simp only [go_sem, e0], by simp only [go_sem, e1], by simp only [go_sem, e7], by simp only [go_sem], ?_⟩
      rw [List.take_succ, hy]
      simp [hx, q]
  · rintro env h' ⟨rfl, e0, e1, e7, e8, hx⟩
    have c0 := ofNat_nlt (Nat.le_refl es.length)
    simp only [go_sem, e0, e1, e7, e8, c0]
    refine ⟨-1, congrArg some (fin_q _ _ _ rfl rfl), ?_⟩
    rw [List.take_length] at hx
    simp [hx]
theorem contains_run (hσ : ∀ f a h, f ≠ 9 → σ f a h = none) {h : H} {v : CV} {es : List Nat} (B : EL h v es) (hl : es.length ≤ 1000) (x : Nat) : RetQ (.bool (decide (x ∈ es))) ((lim Try.prog σ).call 55 [v, u64 x] h) := by
  obtain ⟨i, e, hi⟩ := index_run hσ (B.ext (Ext.lo h)) hl x
  rw [call_eq (hσ _ _ _ (by decide)) fn_55 rfl rfl, Try.ntmps55, Try.results55]
  have e' : (lim Try.prog σ).call 80 [v, u64 x] h.lo = some (.int .i64 i, none) := e
  have hd : decide (i ≥ 0) = decide (x ∈ es) := decide_eq_decide.2 hi
  simp only [go_sem, e', hd]
  exact congrArg some (fin_q _ _ _ rfl rfl)

/-- a list of numbers of one's own -/
structure GU (h h' : H) (v : CV) (es : List Nat) (lid : Nat) : Prop where
  ge : h.nx ≤ lid
  lst : Lst h' 1 v lid es.length (uc es)
  ext : Ext h h'
  low : h'.low = h.low
  bl : h.low ≤ h.nx
theorem GU.alloc {h h' : H} {v : CV} {es : List Nat} {lid : Nat} (g : GU h h' v es lid) (o : CObj) : GU h (h'.alloc o) v es lid := ⟨g.ge, g.lst.ext (Ext.alloc _ _), g.ext.alloc' _, g.low, g.bl⟩
theorem GU.el {h h' : H} {v : CV} {es : List Nat} {lid : Nat} (g : GU h h' v es lid) : EL h' v es := by
  rcases g.lst.val with ⟨h0, rfl⟩ | ⟨h0, rfl, h1, b, h2, h3, h4, h5⟩
  · exact .inl ⟨List.length_eq_zero_iff.1 h0, rfl⟩
  · exact .inr ⟨lid, b, rfl, h1, h2, by rw [h4, Nat.mul_one], fun i x hx => by rw [h5, nth_eq]; unfold uc; rw [List.getElem?_map, hx]; rfl⟩
theorem growU_step {β : Type} {Q : Option β → Prop} {h X : H} {v : CV} {es ns : List Nat} {lid : Nat} {K : Out → Option β} (g : GU h X v es lid) (hn : 0 < ns.length) (hr : es.length + ns.length ≤ 1000000)
    (k : ∀ h' v', v' = .sl X.nx 0 (es ++ ns).length (.opn 1) → GU h h' v' (es ++ ns) X.nx → X.nx < h'.nx → Q (K (.upd v' h'))) :
    Q (@thn _ β (uv (appS X 1 8 1 v ns.length (some (uc ns)))) ⟨K⟩) := by
  refine app_step (Q := Q) (by_ := 8) g.lst hn (by rw [uc_len, Nat.mul_one]) (uc_one _) rfl (by decide) (by omega) (by omega) fun h' L hnx hgn hold hlow hlow2 => ?_
  have hl : (es ++ ns).length = es.length + ns.length := List.length_append
  have := k h' _ rfl ⟨g.ext.nx, by rw [hl, uc_app]; exact L, ⟨by have := g.ext.nx; omega, hgn.trans g.ext.gn, fun i hi => (hold i (Nat.lt_of_lt_of_le hi g.ext.nx) fun _ => by have := g.ge; omega).trans (g.ext.old i hi)⟩, by have := g.low; have := g.ge; have := g.bl; omega, g.bl⟩ (by omega)
  rw [hl] at this
  exact this

theorem hist0 (o off : Nat) (kd : IntKind) : indexAddrT Try.prog 40 (.ptr o off) (.int kd 0) = some (.ptr o off) := by
  rw [show (0 : Int) = Int.ofNat 0 from rfl, ia_40]; simp [blt_eq']
theorem hist1 (o off : Nat) (kd : IntKind) : indexAddrT Try.prog 40 (.ptr o off) (.int kd 1) = some (.ptr o (off + 1)) := by
  rw [show (1 : Int) = Int.ofNat 1 from rfl, ia_40]; simp [blt_eq']
/-- what Elder answers -/
def ElQ (h : H) (es : List Nat) (r : Option (CV × Option H)) : Prop :=
  (es = [] ∧ r = some (.nils, none)) ∨ (es ≠ [] ∧ ∃ v h', r = some (v, some h') ∧ Ext h h' ∧ EL h' v es ∧ h'.low = min h.low h.nx)
theorem elder_run (hσ : ∀ f a h, f ≠ 9 → σ f a h = none) (h : H) (l : Ln) : ElQ h l.el ((lim Try.prog σ).call 53 [l.cv] h) := by
  obtain ⟨Q, hQ⟩ : ∃ Q, Q = ElQ h l.el := ⟨_, rfl⟩
  rw [← hQ]
  rw [call_eq (hσ _ _ _ (by decide)) fn_53 rfl rfl, Try.ntmps53, Try.results53]
  simp only [go_sem, Ln.cv_eq, hist0, hist1]
  have l0 : CV.int .u64 0 = u64 0 := rfl
  have bl : (h.lo.alloc (.cells (newBlk [u64 l.c, u64 l.b, u64 l.h0, u64 l.h1]))).low ≤ (h.lo.alloc (.cells (newBlk [u64 l.c, u64 l.b, u64 l.h0, u64 l.h1]))).nx := by simp only [go_sem]; omega
  refine loop_ind (Q := Q) (fun i env h' => evT env 14 = .agg [u64 l.b, u64 l.h0, u64 l.h1] ∧ evT env 15 = .int .i64 (Int.ofNat i) ∧ ∃ lid, GU (h.lo.alloc (.cells (newBlk [u64 l.c, u64 l.b, u64 l.h0, u64 l.h1]))) h' (evT env 3) (nz ([l.b, l.h0, l.h1].take i)) lid) 3 0 ?_ (by decide) ?_ ?_
  · exact ⟨by simp only [go_sem], by simp only [go_sem]; rfl, _, by simp only [go_sem]; exact ⟨Nat.le_refl _, Lst.nil _ _ _, Ext.refl _, rfl, bl⟩⟩
  · rintro i env h' ⟨e14, e15, lid, G1⟩ hi next
    have c0 : Int.ofNat i < 3 := by simp; omega
    have w1 := wrap_succ (i := i) (by omega)
    obtain ⟨x, hx⟩ : ∃ x, [l.b, l.h0, l.h1][i]? = some x := ⟨_, List.getElem?_eq_getElem hi⟩
    have hnx : nth [u64 l.b, u64 l.h0, u64 l.h1] i = some (u64 x) := by
      rw [nth_eq, show [u64 l.b, u64 l.h0, u64 l.h1] = uc [l.b, l.h0, l.h1] from rfl]; unfold uc; rw [List.getElem?_map, hx]; rfl
    have ht : [l.b, l.h0, l.h1].take (i + 1) = [l.b, l.h0, l.h1].take i ++ [x] := by rw [List.take_succ, hx]; rfl
    have hle : (nz ([l.b, l.h0, l.h1].take i)).length ≤ 3 := Nat.le_trans (List.length_filter_le _ _) (by rw [List.length_take]; simp; omega)
    by_cases q : x = 0
    · simp only [go_sem, e14, e15, c0, hi, hnx, l0, ne64, q, w1, Nat.mul_one]
      refine next _ _ ⟨by simp only [go_sem, e14], by simp only [go_sem], lid, ?_⟩
      simp only [go_sem]
      rw [ht, q]
      have : nz ([l.b, l.h0, l.h1].take i ++ [0]) = nz ([l.b, l.h0, l.h1].take i) := by simp [nz]
      rw [this]; exact G1
    · simp only [go_sem, e14, e15, c0, hi, hnx, l0, ne64, q, w1, Nat.mul_one]
      have G2 := G1.alloc (.cells ({ n := 1, d := [CV.int IntKind.u64 0], t := T.nil, ro := false : Blk }.st 0 (u64 x)))
      refine growU_step (Q := Q) (ns := [x]) G2 (Nat.zero_lt_one) (by simp; omega) fun h2 v2 hv2 G3 hlt => ?_
      simp only [go_sem, e14, e15, w1]
      have hz : nz ([l.b, l.h0, l.h1].take (i + 1)) = nz ([l.b, l.h0, l.h1].take i) ++ [x] := by rw [ht]; simp [nz, q]
      exact next _ _ ⟨by simp only [go_sem, e14], by simp only [go_sem], _, by rw [hz]; simp only [go_sem]; exact G3⟩
  · rintro env h' ⟨e14, e15, lid, G1⟩
    have c0 : ¬ Int.ofNat 3 < 3 := by decide
    have hes : nz ([l.b, l.h0, l.h1].take 3) = l.el := rfl
    rw [hes] at G1
    obtain ⟨w, hw⟩ : ∃ w, w = evT env 3 := ⟨_, rfl⟩
    rw [← hw] at G1
    simp only [go_sem, e14, e15, c0, ← hw]
    have E : Ext h h' := ((Ext.lo h).alloc' _).trans G1.ext
    have hlow : h'.low = h.nx := G1.low
    rw [hQ]
    rcases G1.el with ⟨h1, rfl⟩ | ⟨id, b, rfl, h2, h3, h4, h5⟩
    · exact .inl ⟨h1, congrArg some (fin_q _ _ _ hlow rfl)⟩
    · have hge : h.nx < id := by
        rcases G1.lst.val with ⟨_, hv⟩ | ⟨_, hv, _⟩
        · cases hv
        · cases hv; have := G1.ge; simp only [go_sem] at this; omega
      have hne : l.el ≠ [] := fun q => by
        rcases G1.lst.val with ⟨_, hv⟩ | ⟨h0, hv, _⟩
        · cases hv
        · rw [q] at h0; exact absurd h0 (by decide)
      refine .inr ⟨hne, _, h'.up (min h.low h'.low), congrArg some (fin_new _ _ _ (by rw [okB_sl, blt_eq']; exact decide_eq_false (by omega))), E.up' _, .inr ⟨id, b, rfl, h2, h3, h4, h5⟩, by simp only [go_sem, hlow]⟩
end
end Go.Cl.U

namespace Go.Cl.U
noncomputable section
variable {σ : Sums}
set_option maxRecDepth 1000000

theorem elder_c (hσ : ∀ f a h, f ≠ 9 → σ f a h = none) {X : H} (hl : X.low ≤ X.nx) (l : Ln) : ∃ v x, (lim Try.prog σ).call 53 [l.cv] X = some (v, x) ∧ EL (x.getD X) v l.el ∧ Ext X (x.getD X) ∧ (x.getD X).low = X.low := by
  rcases elder_run hσ X l with ⟨h1, h2⟩ | ⟨h1, v, h', h2, h3, h4, h5⟩
  · exact ⟨_, _, h2, .inl ⟨h1, rfl⟩, Ext.refl _, rfl⟩
  · exact ⟨_, _, h2, h4, h3, by rw [Option.getD_some, h5]; omega⟩
def sh (a b : List Nat) : Nat := (a.find? fun x => decide (x ∈ b)).getD 0
theorem el_len (l : Ln) : l.el.length ≤ 3 := Nat.le_trans (List.length_filter_le _ _) (by simp)
theorem el_nz (l : Ln) : ∀ x ∈ l.el, x ≠ 0 := fun x hx => by
  unfold Ln.el nz at hx
  have := (List.mem_filter.1 hx).2
  simpa using this

end
end Go.Cl.U

namespace Go.Cl.U
noncomputable section
variable {σ : Sums}
set_option maxRecDepth 1000000

/-! ### maps of numbers -/
def MapIs (M : List (CV × CV × Nat)) (es : List (Nat × Nat)) : Prop := M.map (fun e => (e.1, e.2.1)) = es.map fun p => (u64 p.1, u64 p.2)
def parOf (es : List (Nat × Nat)) (g : Nat) : Nat := match es.find? (fun p => p.1 == g) with | some p => p.2 | none => 0
def hasOf (es : List (Nat × Nat)) (g : Nat) : Bool := es.any fun p => p.1 == g
theorem keyEq_u (a b : Nat) : keyEq (u64 a) (u64 b) = some (a == b) := by
  show cond (IntKind.u64 == IntKind.u64) (some (Int.ofNat a == Int.ofNat b)) none = _
  have : (Int.ofNat a == Int.ofNat b) = (a == b) := by
    rw [Bool.eq_iff_iff, beq_iff_eq, beq_iff_eq]
    exact ⟨fun e => Int.ofNat.inj e, fun e => by rw [e]⟩
  rw [this]; rfl
theorem beq_comm' (a b : Nat) : (a == b) = (b == a) := by
  rw [Bool.eq_iff_iff, beq_iff_eq, beq_iff_eq]
  exact ⟨Eq.symm, Eq.symm⟩
theorem findKF_u (g : Nat) : ∀ (M : List (CV × CV × Nat)) (es : List (Nat × Nat)) (i : Nat), MapIs M es →
    (hasOf es g = false → findKF (u64 g) M i = some none) ∧ (hasOf es g = true → ∃ j, findKF (u64 g) M i = some (some (j, u64 (parOf es g))))
  | [], [], i, _ => ⟨fun _ => rfl, fun h => by cases h⟩
  | [], _ :: _, i, h => by simp [MapIs] at h
  | _ :: _, [], i, h => by simp [MapIs] at h
  | e :: M, p :: es, i, h => by
    simp only [MapIs, List.map_cons, List.cons.injEq, Prod.mk.injEq] at h
    obtain ⟨⟨h1, h2⟩, h3⟩ := h
    obtain ⟨i1, i2⟩ := findKF_u g M es (i + 1) h3
    have hk : keyEq (u64 g) e.1 = some (p.1 == g) := by rw [h1, keyEq_u]; rw [beq_comm']
    simp only [findKF, hk, Option.bind_some]
    by_cases q : p.1 = g
    · have q' : (p.1 == g) = true := by simp [q]
      rw [q', cond_true]
      refine ⟨fun hh => ?_, fun _ => ⟨i, ?_⟩⟩
      · simp [hasOf, q'] at hh
      · rw [h2]; simp [parOf, q']
    · have q' : (p.1 == g) = false := by simp [q]
      rw [q', cond_false]
      refine ⟨fun hh => i1 (by simpa [hasOf, q'] using hh), fun hh => ?_⟩
      obtain ⟨j, hj⟩ := i2 (by simpa [hasOf, q'] using hh)
      exact ⟨j, by rw [hj]; simp [parOf, q']⟩
theorem parOf_no {es : List (Nat × Nat)} {g : Nat} (h : hasOf es g = false) : parOf es g = 0 := by
  unfold parOf
  cases hf : es.find? (fun p => p.1 == g) with
  | none => rfl
  | some p =>
    have h1 := List.find?_some hf
    have h2 := List.mem_of_find?_eq_some hf
    unfold hasOf at h
    rw [List.any_eq_false] at h
    exact absurd h1 (by simpa using h p h2)
theorem keyOk_u (g : Nat) : keyOk Try.prog 22 (u64 g) = true := by
  unfold keyOk; rw [Try.underlying22]; rfl
theorem zero_u : zeroT Try.prog 22 = some (u64 0) := by kernel_rfl
theorem lookup_ok {h : H} {m c : Nat} {M : List (CV × CV × Nat)} {es : List (Nat × Nat)} (hm : h.mp m = some (M, c)) (I : MapIs M es) (g : Nat) (ok : Bool) :
    lookupT Try.prog h 98 (.map m) (u64 g) ok = some (cond ok (.tup [u64 (parOf es g), .bool (hasOf es g)]) (u64 (parOf es g))) := by
  unfold lookupT
  obtain ⟨i1, i2⟩ := findKF_u g M es 0 I
  rw [Try.underlying98, Option.bind_some]
  simp only [keyOk_u, cond_true, hm, Option.map_some, Option.bind_some, findK]
  cases hh : hasOf es g with
  | false => rw [i1 hh, parOf_no hh]; simp [zero_u]
  | true =>
    obtain ⟨j, hj⟩ := i2 hh
    rw [hj]; simp
theorem update_new {h : H} {m c : Nat} {M : List (CV × CV × Nat)} {es : List (Nat × Nat)} (hm : h.mp m = some (M, c)) (I : MapIs M es) {g : Nat} (v : Nat) (hh : hasOf es g = false) :
    mapUpdateT Try.prog h 98 (.map m) (u64 g) (u64 v) = some (h.put m (.map (M ++ [(u64 g, u64 v, c)]) (c + 1))) := by
  unfold mapUpdateT
  obtain ⟨i1, _⟩ := findKF_u g M es 0 I
  rw [Try.underlying98, Option.bind_some]
  simp only [keyOk_u, cond_true, hm, Option.bind_some, findK, i1 hh]
theorem MapIs.snoc {M : List (CV × CV × Nat)} {es : List (Nat × Nat)} (I : MapIs M es) (g v c : Nat) : MapIs (M ++ [(u64 g, u64 v, c)]) (es ++ [(g, v)]) := by
  unfold MapIs at I ⊢
  rw [List.map_append, List.map_append, I]; rfl
theorem mp_of {h : H} {id : Nat} {es : List (CV × CV × Nat)} {c : Nat} (e : h.t.get id = some (.map es c)) : h.mp id = some (es, c) := by
  unfold H.mp; rw [e]

/-! ### the tree -/
/-- numbers of one's own: at least one -/
structure NL (h : H) (s : CV) (lid : Nat) (ns : List Nat) : Prop where
  pos : 0 < ns.length
  val : s = .sl lid 0 ns.length (.exact ns.length) ∨ s = .sl lid 0 ns.length (.opn 1)
  lt : lid < h.nx
  blk : ∃ b, h.blk lid = some b ∧ b.ro = false ∧ b.n = ns.length ∧ ∀ i x, ns[i]? = some x → b.get i = some (u64 x)
theorem NL.mono {h h' : H} {s : CV} {lid : Nat} {ns : List Nat} (N : NL h s lid ns) (hn : h.nx ≤ h'.nx) (hb : h'.blk lid = h.blk lid) : NL h' s lid ns :=
  ⟨N.pos, N.val, Nat.lt_of_lt_of_le N.lt hn, by rw [hb]; exact N.blk⟩
theorem NL.ext {h h' : H} {s : CV} {lid : Nat} {ns : List Nat} (N : NL h s lid ns) (E : Ext h h') : NL h' s lid ns := N.mono E.nx (E.blk N.lt)
theorem NL.len {h : H} {s : CV} {lid : Nat} {ns : List Nat} (N : NL h s lid ns) (h' : H) (ts : List TypeId) (az : List CV) : builtinT Try.prog h' .len (34 :: ts) (s :: az) = some (.val (.int .i64 (Int.ofNat ns.length))) := by
  rcases N.val with rfl | rfl <;> simp [builtinT, Try.underlying34, lenC]
theorem NL.get {b : Blk} {ns : List Nat} (hn : b.n = ns.length) (hg : ∀ i x, ns[i]? = some x → b.get i = some (u64 x)) (i : Nat) : b.get i = nth (uc ns) i := by
  rw [nth_eq]; unfold uc; rw [List.getElem?_map]
  cases hx : ns[i]? with
  | some x => exact hg i x hx
  | none =>
    have : ns.length ≤ i := List.getElem?_eq_none_iff.1 hx
    unfold Blk.get
    rw [hn, show Nat.blt i ns.length = false by rw [blt_eq']; exact decide_eq_false (by omega)]; rfl
theorem NL.app {X : H} {s : CV} {lid : Nat} {ns : List Nat} (N : NL X s lid ns) (x : Nat) (hr : ns.length ≤ 1000000) :
    ∃ h', appS X 1 8 1 s 1 (some [u64 x]) = some (.sl X.nx 0 (ns.length + 1) (.opn 1), h') ∧ NL h' (.sl X.nx 0 (ns.length + 1) (.opn 1)) X.nx (ns ++ [x]) ∧ h'.nx = X.nx + 1 ∧ h'.gn = X.gn ∧
      (∀ k, k < X.nx → k ≠ lid → h'.t.get k = X.t.get k) ∧ (h'.low = X.low ∨ h'.low = min X.low lid) := by
  obtain ⟨b, h1, h2, h3, h4⟩ := N.blk
  have hget := NL.get h3 h4
  have hl : (ns ++ [x]).length = ns.length + 1 := by simp
  have hpos := N.pos
  rcases N.val with rfl | rfl
  · have hload : b.loadN 0 (ns.length * 1) = some (uc ns) := by
      rw [Nat.mul_one]
      have : ∀ (k off : Nat), off + k = ns.length → b.loadN off k = some ((uc ns).drop off) := by
        intro k
        induction k with
        | zero => intro off ho; rw [List.drop_of_length_le (by rw [uc_len]; omega)]; rfl
        | succ k ih =>
          intro off ho
          have hlt : off < ns.length := by omega
          have hx := hget off
          rw [nth_eq, List.getElem?_eq_getElem (by rw [uc_len]; exact hlt)] at hx
          simp only [Blk.loadN, hx, Option.bind_some, ih (off + 1) (by omega)]
          rw [List.drop_eq_getElem_cons (l := uc ns) (i := off) (by rw [uc_len]; exact hlt)]
      have := this ns.length 0 (by omega)
      rwa [List.drop_zero] at this
    refine ⟨X.alloc (.cells (fillB ((ns.length + 1) * 1) (uc ns ++ [u64 x]))), ?_, ⟨by omega, .inr (by rw [hl]), by rw [alloc_nx]; omega, _, alloc_blk_same _ _ _ rfl, ?_, ?_, fun i y hy => ?_⟩, by rw [alloc_nx], rfl, fun k hk _ => alloc_get_ne _ _ _ (by omega), .inl rfl⟩
    · unfold appS
      have c1 : (Nat.ble ((ns.length + 1) * 8) 70368744177664) = true := Nat.ble_eq.mpr (by omega)
      have c2 : (Nat.ble (ns.length + 1) 70368744177664) = true := Nat.ble_eq.mpr (by omega)
      have c3 : Nat.ble (ns.length + 1) ns.length = false := by
        cases q : Nat.ble (ns.length + 1) ns.length with
        | false => rfl
        | true => have := Nat.ble_eq.mp q; omega
      simp only [lenC, Option.bind_some, c1, c2, c3, h1, hload, grown]
      rfl
    · exact fillB_ro _ _
    · rw [fillB_n, hl, Nat.mul_one]
    · rw [fill_get (by simp [uc_len])]
      show (uc ns ++ uc [x])[i]? = _
      rw [← uc_app]; unfold uc; rw [List.getElem?_map, hy]; rfl
  · have L : Lst X 1 (.sl lid 0 ns.length (.opn 1)) lid ns.length (uc ns) := ⟨by rw [uc_len, Nat.mul_one], .inr ⟨hpos, rfl, N.lt, b, h1, h2, by rw [h3, Nat.mul_one], hget⟩⟩
    obtain ⟨h', e, l', a1, a2, a3, a4, a5⟩ := app_Lst (by_ := 8) (zl := 1) (m := 1) (new := [u64 x]) L (by decide) rfl rfl rfl (by decide) (by omega) (by omega)
    refine ⟨h', e, ?_, a1, a2, fun k hk hkl => a3 k hk fun _ => hkl, a5⟩
    rcases l'.val with ⟨h0, _⟩ | ⟨_, _, q1, b', q2, q3, q4, q5⟩
    · omega
    · exact ⟨by omega, .inr (by rw [hl]), q1, b', q2, q3, by rw [q4, hl, Nat.mul_one], fun i y hy => by
        rw [q5, nth_eq, show uc ns ++ [u64 x] = uc (ns ++ [x]) by rw [uc_app]; rfl]; unfold uc; rw [List.getElem?_map, hy]; rfl⟩
structure TreeAt (h : H) (t : Nat) (es : List (Nat × Nat)) : Prop where
  pos : 0 < es.length
  lt : t < h.nx
  blk : ∃ b m M c s lid, h.blk t = some b ∧ b.ro = false ∧ b.n = 2 ∧ b.get 0 = some (.map m) ∧ b.get 1 = some s ∧ m < h.nx ∧ h.t.get m = some (.map M c) ∧ MapIs M es ∧ NL h s lid (es.map Prod.fst) ∧ lid ≠ t ∧ t ≠ m ∧ lid ≠ m
theorem TreeAt.ext {h h' : H} {t : Nat} {es : List (Nat × Nat)} (T : TreeAt h t es) (E : Ext h h') : TreeAt h' t es := by
  obtain ⟨b, m, M, c, s, lid, q1, q2, q3, q4, q5, q6, q7, q8, q9, q10⟩ := T.blk
  exact ⟨T.pos, Nat.lt_of_lt_of_le T.lt E.nx, b, m, M, c, s, lid, (E.blk T.lt).trans q1, q2, q3, q4, q5, Nat.lt_of_lt_of_le q6 E.nx, (E.old m q6).trans q7, q8, q9.ext E, q10⟩
theorem lst_len {h : H} {s : CV} {lid n : Nat} {cs : List CV} (L : Lst h 1 s lid n cs) (h' : H) (ts : List TypeId) (az : List CV) : builtinT Try.prog h' .len (34 :: ts) (s :: az) = some (.val (.int .i64 (Int.ofNat n))) := by
  rcases L.val with ⟨rfl, rfl⟩ | ⟨_, rfl, _⟩ <;> simp [builtinT, Try.underlying34, lenC]
theorem none_run (hσ : ∀ f a h, f ≠ 9 → σ f a h = none) {h : H} {t : Nat} {es : List (Nat × Nat)} (T : TreeAt h t es) : RetQ (.bool false) ((lim Try.prog σ).call 50 [.ptr t 0] h) := by
  obtain ⟨b, m, M, c, s, lid, q1, q2, q3, q4, q5, q6, q7, q8, q9, _⟩ := T.blk
  have ln := q9.len
  rw [List.length_map] at ln
  have hp := T.pos
  have c0 : ¬ Int.ofNat es.length = 0 := by simp; intro e; rw [e] at hp; cases hp
  rw [call_eq (hσ _ _ _ (by decide)) fn_50 rfl rfl, Try.ntmps50, Try.results50]
  simp only [go_sem, q1, q4, q5, ln, c0]
  exact congrArg some (fin_q _ _ _ rfl rfl)
theorem has_run (hσ : ∀ f a h, f ≠ 9 → σ f a h = none) {h : H} {t : Nat} {es : List (Nat × Nat)} (T : TreeAt h t es) (g : Nat) : RetQ (.bool (hasOf es g)) ((lim Try.prog σ).call 13 [.ptr t 0, u64 g] h) := by
  obtain ⟨b, m, M, c, s, lid, q1, q2, q3, q4, q5, q6, q7, q8, q9, _⟩ := T.blk
  have nn : (lim Try.prog σ).call 50 [.ptr t 0] h.lo = some (.bool false, none) := none_run hσ (T.ext (Ext.lo h))
  have lk : lookupT Try.prog h.lo 98 (.map m) (u64 g) true = _ := lookup_ok (mp_of (h := h.lo) q7) q8 g true
  rw [call_eq (hσ _ _ _ (by decide)) fn_13 rfl rfl, Try.ntmps13, Try.results13]
  simp only [go_sem, q1, q4, q5, nn, lk]
  exact congrArg some (fin_q _ _ _ rfl rfl)
end
end Go.Cl.U

namespace Go.Cl.U
noncomputable section
variable {σ : Sums}
set_option maxRecDepth 1000000

/-- who is asked for at step i of a way up from g -/
def curW (g : Nat) (ws : List Nat) : Nat → Nat
  | 0 => g
  | i + 1 => ws[i]?.getD 0
structure Way (es : List (Nat × Nat)) (g : Nat) (ws : List Nat) : Prop where
  at_ : ∀ i, i < ws.length → ws[i]? = some (parOf es (curW g ws i)) ∧ parOf es (curW g ws i) ≠ 0
  end_ : parOf es (curW g ws ws.length) = 0
theorem way_run (hσ : ∀ f a h, f ≠ 9 → σ f a h = none) (h : H) (t g : Nat) (hlow : h.low ≤ h.nx) :
    (lim Try.prog σ).call 49 [.ptr t 0, u64 g] h = some (.fn (.func 78) [] [.ptr h.nx 0, .ptr (h.nx + 1) 0], some (((h.lo.alloc (.cells (newBlk [.ptr t 0]))).alloc (.cells (newBlk [u64 g]))).up (min h.low h.nx))) := by
  rw [call_eq (hσ _ _ _ (by decide)) fn_49 rfl rfl, Try.ntmps49, Try.results49]
  simp only [go_sem]
  rw [fin_new _ _ _ (by simp [okB, okBL, blt_eq'])]
  rfl
def WayOk (h : H) (I : Nat → H → Prop) (n B : Nat) (r : Option (CV × Option H)) : Prop := ∃ x, r = some (.tup [], x) ∧ I n (x.getD h) ∧ (B ≤ h.low → B ≤ (x.getD h).low)
theorem wayit_run (hσ : ∀ f a h, f ≠ 9 → σ f a h = none) {h : H} {t a b l g : Nat} {es : List (Nat × Nat)} {ba bb : Blk} {ws : List Nat} (W : Way es g ws) (hga : ba.get 0 = some (.ptr t 0)) (hgb : bb.get 0 = some (u64 g)) (hl : l < h.nx) (B : Nat) (hB : B ≤ h.nx)
    (n : Nat) (stop : Bool) (hn : n ≤ ws.length) (hns : stop = false → n = ws.length) (hnp : stop = true → 0 < n)
    (I : Nat → H → Prop) (i0 : I 0 h) (ie : ∀ i h1 h2, I i h1 → Ext h1 h2 → I i h2) (il : ∀ i h1, I i h1 → h.nx ≤ h1.nx ∧ TreeAt h1 t es ∧ h1.blk a = some ba ∧ h1.blk b = some bb)
    (round : ∀ i h1 w, i < n → I i h1 → B ≤ h1.low → ws[i]? = some w → ∃ h2, (lim Try.prog σ).round l [u64 w] h1 = some (.bool (!(stop && decide (i + 1 = n))), some h2) ∧ I (i + 1) h2 ∧ h2.low ≤ l ∧ h1.nx ≤ h2.nx ∧ B ≤ h2.low) :
    WayOk h I n B ((lim Try.prog σ).call 78 [.fn (.yield l) [] [], .ptr a 0, .ptr b 0] h) := by
  obtain ⟨Q, hQ⟩ : ∃ Q, Q = WayOk h I n B := ⟨_, rfl⟩
  rw [← hQ]
  rw [call_eq (hσ _ _ _ (by decide)) fn_78 rfl rfl, Try.ntmps78, Try.results78]
  have i0' := ie _ _ _ i0 (Ext.lo h)
  obtain ⟨_, T0, ha0, hb0⟩ := il 0 _ i0'
  obtain ⟨tb, m, M, c, s, lid, q1, q2, q3, q4, q5, q6, q7, q8, q9, _⟩ := T0.blk
  have nn : (lim Try.prog σ).call 50 [.ptr t 0] h.lo = some (.bool false, none) := none_run hσ T0
  have lk : lookupT Try.prog h.lo 98 (.map m) (u64 g) false = _ := lookup_ok (mp_of q7) q8 g false
  simp only [go_sem, ha0, hga, hb0, hgb, nn, q1, q4, lk]
  refine cnd_go (Q := Q) (by kernel_rfl) ?_
  simp only [go_sem, ha0, hga, hb0, hgb, nn, q1, q4, lk]
  have l0 : CV.int .u64 0 = u64 0 := rfl
  refine loop_ind (Q := Q) (fun i env h1 => evT env 0 = .fn (.yield l) [] [] ∧ evT env 1 = .ptr a 0 ∧ evT env 4 = u64 (parOf es (curW g ws i)) ∧ I i h1 ∧ (i = 0 → h1 = h.lo) ∧ (i ≠ 0 → h1.low ≤ l) ∧ (stop = true → i < n) ∧ B ≤ h1.low) n 0 ?_ (Nat.zero_le _) ?_ ?_
  · exact ⟨by simp only [go_sem], by simp only [go_sem], by simp only [go_sem]; rfl, i0', fun _ => rfl, fun h => absurd rfl h, hnp, hB⟩
  · rintro i env h1 ⟨e0, e1, e4, hI, _, hlow, hst, hlB⟩ hi next
    obtain ⟨hw, hnz⟩ := W.at_ i (by omega)
    obtain ⟨h2, hr, hI2, hlow2, hnx2, hB2⟩ := round i h1 _ hi hI hlB hw
    have hcur : curW g ws (i + 1) = parOf es (curW g ws i) := by simp [curW, hw]
    obtain ⟨_, T2, ha2, hb2⟩ := il (i + 1) h2 hI2
    obtain ⟨tb2, m2, M2, c2, s2, lid2, p1, p2, p3, p4, p5, p6, p7, p8, p9, _⟩ := T2.blk
    have lk2 : lookupT Try.prog h2 98 (.map m2) (u64 (parOf es (curW g ws i))) false = _ := lookup_ok (mp_of p7) p8 _ false
    cases hs : (stop && decide (i + 1 = n))
    · rw [hs] at hr
      simp only [go_sem, e0, e1, e4, l0, ne64, hnz, hr, ha2, hga, p1, p4, lk2]
      refine next _ _ ⟨by simp only [go_sem, e0], by simp only [go_sem, e1], by simp only [go_sem]; rw [hcur], hI2, fun h => by omega, fun _ => hlow2, fun h => ?_, hB2⟩
      rw [h] at hs
      simp at hs
      omega
    · rw [hs] at hr
      simp only [go_sem, e0, e1, e4, l0, ne64, hnz, hr]
      have hin : i + 1 = n := by simp at hs; exact hs.2
      rw [hQ, fin_l _ _ _ (by omega)]
      exact ⟨_, rfl, ie _ _ _ (hin ▸ hI2) (Ext.up _ _), fun q => by show B ≤ min h.low h2.low; omega⟩
  · rintro env h1 ⟨e0, e1, e4, hI, h0, hlow, hst, hlB⟩
    have hs : stop = false := by
      cases stop with
      | false => rfl
      | true => exact absurd (hst rfl) (Nat.lt_irrefl _)
    have hz : parOf es (curW g ws n) = 0 := by rw [hns hs]; exact W.end_
    simp only [go_sem, e0, e1, e4, l0, ne64, hz]
    rw [hQ]
    by_cases hn0 : n = 0
    · rw [h0 hn0, fin_q _ _ _ rfl rfl]
      rw [hn0]
      exact ⟨_, rfl, i0, fun q => q⟩
    · have := hlow hn0
      rw [fin_l _ _ _ (by omega)]
      exact ⟨_, rfl, ie _ _ _ hI (Ext.up _ _), fun q => by show B ≤ min h.low h1.low; omega⟩
def loOut (lo : CLoop) (xid : Code) : CLoop := ⟨.done, some xid, lo.env, lo.ntmps, lo.params, lo.assign, lo.body⟩
theorem loOut_eq (e n ps a b x) : loOut (loopObj e n ps a b) x = ⟨.done, some x, e, n, ps, a, b⟩ := rfl
theorem opq {α : Type} {P : α → Prop} {r : α} (k : ∀ R : α → Prop, R = P → R r) : P r := k P rfl
/-- what a round leaves; brk: it was the last one, by an exit -/
def RndOk (L : Nat) (lo : CLoop) (xid : Code) (brk : Bool) (J : H → Prop) (B : Nat) (h1 : H) (r : Option (CV × Option H)) : Prop :=
  ∃ h2, r = some (.bool (!brk), some h2) ∧ h2.t.get L = some (.loop (bif brk then loOut lo xid else lo)) ∧ J h2 ∧ h2.low ≤ L ∧ h1.nx ≤ h2.nx ∧ B ≤ h2.low
theorem rngD_none {β : Type} (n env l h2 v) (K : Res → Option β) : rngD Try.prog σ n env l h2 K v none = rngD Try.prog σ n env l h2 K v (some h2) := rfl
theorem way_law {β : Type} {Q : Option β → Prop} (hσ : ∀ f a h, f ≠ 9 → σ f a h = none) {Y : H} {lo : CLoop} {xid : Code} {t a b g L : Nat} {es : List (Nat × Nat)} {ba bb : Blk} {ws : List Nat} {K : CV → Option H → Option β} (W : Way es g ws) (hL : L = Y.nx)
    (hga : ba.get 0 = some (.ptr t 0)) (hgb : bb.get 0 = some (u64 g)) (B : Nat) (hB : B ≤ Y.nx) (n : Nat) (stop : Bool) (hn : n ≤ ws.length) (hns : stop = false → n = ws.length) (hnp : stop = true → 0 < n)
    (J : Nat → H → Prop) (j0 : J 0 (Y.alloc (.loop lo))) (je : ∀ i h1 h2, J i h1 → Ext h1 h2 → J i h2) (jl : ∀ i h1, J i h1 → Y.nx + 1 ≤ h1.nx ∧ TreeAt h1 t es ∧ h1.blk a = some ba ∧ h1.blk b = some bb)
    (round : ∀ i h1 w, i < n → h1.t.get L = some (.loop lo) → J i h1 → B ≤ h1.low → ws[i]? = some w → RndOk L lo xid (stop && decide (i + 1 = n)) (J (i + 1)) B h1 ((lim Try.prog σ).round L [u64 w] h1))
    (hK : ∀ v, K v none = K v (some (Y.alloc (.loop lo))))
    (k : ∀ Z, Z.t.get L = some (.loop (bif stop then loOut lo xid else lo)) → J n Z → (B ≤ Y.low → B ≤ Z.low) → Q (K (.tup []) (some Z))) :
    Q (@thn _ β ((lim Try.prog σ).call 78 [.fn (.yield L) [] [], .ptr a 0, .ptr b 0] (Y.alloc (.loop lo))) ⟨KP K⟩) := by
  obtain ⟨x, hr, ⟨h1, h2⟩, h3⟩ := wayit_run hσ (h := Y.alloc (.loop lo)) (l := L) W hga hgb (by rw [alloc_nx]; omega) B (by rw [alloc_nx]; omega) n stop hn hns hnp
    (fun i h1 => h1.t.get L = some (.loop (bif stop && decide (i = n) then loOut lo xid else lo)) ∧ J i h1)
    ⟨by
      have : (stop && decide (0 = n)) = false := by
        cases stop with
        | false => rfl
        | true => have := hnp rfl; simp; omega
      rw [this, hL]; exact alloc_get_same _ _ _ rfl, j0⟩
    (fun i h1 h2 hI e => ⟨by rw [e.old _ (by have := (jl i h1 hI.2).1; omega)]; exact hI.1, je i h1 h2 hI.2 e⟩)
    (fun i h1 hI => by
      obtain ⟨q1, q2, q3, q4⟩ := jl i h1 hI.2
      exact ⟨by rw [alloc_nx]; exact q1, q2, q3, q4⟩)
    (fun i h1 w hi hI hlB hw => by
      have hne : (stop && decide (i = n)) = false := by rw [decide_eq_false (by omega), Bool.and_false]
      rw [hne] at hI
      obtain ⟨h2, q1, q2, q3, q4, q5, q6⟩ := round i h1 w hi hI.1 hI.2 hlB hw
      exact ⟨h2, q1, ⟨q2, q3⟩, q4, q5, q6⟩)
  rw [hr]
  rw [decide_eq_true rfl, Bool.and_true] at h1
  have e : K (.tup []) x = K (.tup []) (some (x.getD (Y.alloc (.loop lo)))) := by
    cases x with
    | none => exact hK _
    | some Z => rfl
  show Q (K (.tup []) x)
  rw [e]
  exact k _ h1 h2 h3
end
end Go.Cl.U

namespace Go.Cl.U
noncomputable section
variable {σ : Sums}
set_option maxRecDepth 1000000

structure Cell (h : H) (c : Nat) (v : CV) : Prop where
  lt : c < h.nx
  blk : ∃ b, h.blk c = some b ∧ b.ro = false ∧ b.n = 1 ∧ b.get 0 = some v
def SightQ (h : H) (seen : List Nat) (r : Option (CV × Option H)) : Prop := ∃ v x, r = some (v, x) ∧ Ext h (x.getD h) ∧ EL (x.getD h) v seen ∧ (x.getD h).low = h.low
theorem fin_low {h s : H} (E : Ext h s) (hl : h.low ≤ h.nx) (v : CV) : ∃ x, Go.Cl.fin h s v = (v, x) ∧ Ext h (x.getD h) ∧ (h.low ≤ s.low → (x.getD h).low = h.low) := by
  unfold Go.Cl.fin
  have := E.nx
  cases q : (Nat.beq s.low h.nx && okB h.nx v)
  · exact ⟨_, rfl, E.up' _, fun q => by show min h.low s.low = h.low; omega⟩
  · exact ⟨_, rfl, Ext.refl h, fun _ => rfl⟩
theorem fin_el {h s : H} (E : Ext h s) (hl : h.low ≤ h.nx) {v : CV} {es : List Nat} (B : EL s v es) : ∃ x, Go.Cl.fin h s v = (v, x) ∧ Ext h (x.getD h) ∧ EL (x.getD h) v es ∧ (h.low ≤ s.low → (x.getD h).low = h.low) := by
  have hs := E.nx
  unfold Go.Cl.fin
  cases q : (Nat.beq s.low h.nx && okB h.nx v)
  · exact ⟨_, rfl, E.up' _, B.ext (Ext.up _ _), fun q => by show min h.low s.low = h.low; omega⟩
  · refine ⟨_, rfl, Ext.refl h, ?_, fun _ => rfl⟩
    rw [Bool.and_eq_true] at q
    rcases B with h1 | ⟨id, b, rfl, h2, h3, h4⟩
    · exact .inl h1
    · have : id < h.nx := by have := q.2; simpa [okB, blt_eq'] using this
      exact .inr ⟨id, b, rfl, this, (E.blk this).symm.trans h3, h4⟩
theorem sight_run (hσ : ∀ f a h, f ≠ 9 → σ f a h = none) {h : H} {t : Nat} {es : List (Nat × Nat)} (T : TreeAt h t es) (l : Ln) {ws : List Nat} (W : Way es l.c ws) (hlow : h.low ≤ h.nx) :
    SightQ h (ws.take l.el.length) ((lim Try.prog σ).call 54 [.ptr t 0, l.cv] h) := by
  obtain ⟨Q, hQ⟩ : ∃ Q, Q = SightQ h (ws.take l.el.length) := ⟨_, rfl⟩
  rw [← hQ]
  rw [call_eq (hσ _ _ _ (by decide)) fn_54 rfl rfl, Try.ntmps54, Try.results54]
  obtain ⟨X, hX⟩ : ∃ X, X = h.lo.alloc (.cells (newBlk [u64 l.c, u64 l.b, u64 l.h0, u64 l.h1])) := ⟨_, rfl⟩
  have Xnx : X.nx = h.nx + 1 := by rw [hX]; rfl
  have XE : Ext h X := by rw [hX]; exact (Ext.lo h).alloc' _
  have Xl : X.blk h.nx = some (newBlk [u64 l.c, u64 l.b, u64 l.h0, u64 l.h1]) := by rw [hX]; exact alloc_blk_same _ _ _ rfl
  obtain ⟨ev, ex, ee, EE, eE, elow⟩ := elder_c hσ (X := X) (by rw [hX]; simp only [go_sem]; omega) l
  have ee : (lim Try.prog σ).call 53 [.agg [u64 l.c, u64 l.b, u64 l.h0, u64 l.h1]] X = some (ev, ex) := ee
  obtain ⟨Y0, hY0⟩ : ∃ Y, Y = ex.getD X := ⟨_, rfl⟩
  rw [← hY0] at EE eE elow
  have elen := EE.len
  have Y0n := eE.nx
  obtain ⟨c5, hc5⟩ : ∃ c, c = Y0.nx := ⟨_, rfl⟩
  obtain ⟨Y1, hY1⟩ : ∃ Y, Y = (Y0.alloc (.cells (newBlk [.int .i64 0]))).put Y0.nx (.cells ((newBlk [.int .i64 0]).st 0 (.int .i64 (Int.ofNat l.el.length)))) := ⟨_, rfl⟩
  obtain ⟨Y2, hY2⟩ : ∃ Y, Y = Y1.alloc (.cells (newBlk [.nils])) := ⟨_, rfl⟩
  have xlow : X.low = h.nx := by rw [hX]; rfl
  have Y1low : Y1.low = min Y0.low Y0.nx := by rw [hY1]; rfl
  have Y2low : Y2.low = Y1.low := by rw [hY2]; rfl
  have Y1nx : Y1.nx = Y0.nx + 1 := by rw [hY1]; rfl
  have Y2nx : Y2.nx = Y0.nx + 2 := by rw [hY2]; simp only [go_sem]; omega
  have E1 : Ext Y0 Y1 := by rw [hY1]; exact ((Ext.refl Y0).alloc' _).put _ (Nat.le_refl _)
  have E2 : Ext Y1 Y2 := by rw [hY2]; exact (Ext.refl Y1).alloc' _
  have EY2 : Ext h Y2 := ((XE.trans eE).trans E1).trans E2
  have b5 : Y1.blk Y0.nx = some ((newBlk [.int .i64 0]).st 0 (.int .i64 (Int.ofNat l.el.length))) := by rw [hY1]; exact put_blk_same _ _ _
  have b5' : Y2.blk Y0.nx = some ((newBlk [.int .i64 0]).st 0 (.int .i64 (Int.ofNat l.el.length))) := (E2.blk (by omega)).trans b5
  have b6 : Y2.blk (Y0.nx + 1) = some (newBlk [.nils]) := by rw [hY2]; exact alloc_blk_same _ _ _ Y1nx.symm
  have bl : Y2.blk h.nx = some (newBlk [u64 l.c, u64 l.b, u64 l.h0, u64 l.h1]) := ((eE.trans E1).trans E2).blk (by omega) |>.trans Xl
  have g5 : ((newBlk [CV.int .i64 0]).st 0 (.int .i64 (Int.ofNat l.el.length))).get 0 = some (.int .i64 (Int.ofNat l.el.length)) := rfl
  rw [Ln.cv_eq]
  by_cases hz : l.el.length = 0
  · have c0 : Int.ofNat l.el.length = 0 := by rw [hz]; rfl
    simp only [go_sem, ← hX, Xl, ee, ← hY0, elen, ← hY1, Y1nx, ← hY2, b5', g5, c0, b6]
    have hs : ws.take l.el.length = [] := by rw [hz]; rfl
    rw [hQ]
    obtain ⟨x, e, Ex, lx⟩ := fin_low (s := Y2) EY2 hlow .nils
    have e : fin h Y2 .nils = (.nils, x) := e
    rw [hY2, hY1, hz] at e
    exact ⟨_, x, congrArg some e, Ex, .inl ⟨hs, rfl⟩, lx (by omega)⟩
  have c0 : ¬ Int.ofNat l.el.length = 0 := by simp; intro e; rw [e] at hz; exact hz rfl
  have wr := way_run hσ Y2 t l.c (by rw [hY2, hY1]; simp only [go_sem]; omega)
  simp only [go_sem, ← hX, Xl, ee, ← hY0, elen, ← hY1, Y1nx, ← hY2, b5', g5, c0, b6, bl, wr]
  obtain ⟨Y3, hY3⟩ : ∃ Y, Y = ((Y2.lo.alloc (.cells (newBlk [.ptr t 0]))).alloc (.cells (newBlk [u64 l.c]))).up (min Y2.low Y2.nx) := ⟨_, rfl⟩
  have Y3nx : Y3.nx = Y2.nx + 1 + 1 := by rw [hY3]; rfl
  have E3 : Ext Y2 Y3 := by rw [hY3]; exact ((((Ext.lo Y2).alloc' _).alloc' _).up' _)
  have Y3low : Y3.low = h.nx := by
    have y3 : Y3.low = min Y2.low Y2.nx := by rw [hY3]; rfl
    omega
  rw [← hY3]
  have EY3 : Ext h Y3 := EY2.trans E3
  have ba : Y3.blk Y2.nx = some (newBlk [.ptr t 0]) := by rw [hY3]; exact (alloc_blk_ne _ _ _ (by simp only [go_sem])).trans (alloc_blk_same _ _ _ rfl)
  have bb : Y3.blk (Y2.nx + 1) = some (newBlk [u64 l.c]) := by rw [hY3]; exact (up_blk _ _ _).trans (alloc_blk_same _ _ _ rfl)
  have b5Y : Y3.blk Y0.nx = some ((newBlk [.int .i64 0]).st 0 (.int .i64 (Int.ofNat l.el.length))) := (E3.blk (by omega)).trans b5'
  have b6Y : Y3.blk (Y0.nx + 1) = some (newBlk [.nils]) := (E3.blk (by omega)).trans b6
  obtain ⟨n, hn⟩ : ∃ n, n = min l.el.length ws.length := ⟨_, rfl⟩
  obtain ⟨stop, hst⟩ : ∃ s, s = decide (l.el.length ≤ ws.length) := ⟨_, rfl⟩
  refine way_law (Q := Q) hσ (ba := newBlk [.ptr t 0]) (bb := newBlk [u64 l.c]) (xid := .exit 0) W (by rw [Y3nx]) (by rfl) (by rfl) h.nx (by omega) n stop (by omega) (fun e => by rw [e] at hst; have := of_decide_eq_false hst.symm; omega) (fun e => by rw [e] at hst; have := of_decide_eq_true hst.symm; omega)
    (fun i h1 => Y3.nx + 1 ≤ h1.nx ∧ h1.gn = Y3.gn ∧ (∀ k, k < Y3.nx → k ≠ Y0.nx + 1 → h1.t.get k = Y3.t.get k) ∧ ∃ s lid, Cell h1 (Y0.nx + 1) s ∧ Lst h1 1 s lid i (uc (ws.take i)) ∧ Y3.nx < lid) ?_ ?_ ?_ ?_ (fun _ => by rw [rngD_none]; refine congrArg (fun z => rngD _ _ _ _ _ _ _ _ (some z)) ?_; simp only [go_sem, ← hX, ← hY0, Y1nx, ← hY1, ← hY2, ← hY3]) ?_
  · refine ⟨by rw [alloc_nx]; omega, rfl, fun k hk _ => alloc_get_ne _ _ _ (by omega), .nils, Y3.nx + 1, ⟨by rw [alloc_nx]; omega, _, (alloc_blk_ne _ _ _ (by omega)).trans b6Y, rfl, rfl, rfl⟩, Lst.nil _ _ _, by omega⟩
  · rintro i h1 h2 ⟨j1, j2, j3, s, lid, j4, j5, j6⟩ e
    obtain ⟨q1, b, q2, q3, q4, q5⟩ := j4
    exact ⟨Nat.le_trans j1 e.nx, e.gn.trans j2, fun k hk hk6 => (e.old k (by omega)).trans (j3 k hk hk6), s, lid, ⟨Nat.lt_of_lt_of_le q1 e.nx, b, (e.blk q1).trans q2, q3, q4, q5⟩, j5.ext e, j6⟩
  · rintro i h1 ⟨j1, j2, j3, _⟩
    have Eh : Ext h h1 := ⟨by have := EY3.nx; omega, j2.trans EY3.gn, fun k hk => (j3 k (by have := EY3.nx; omega) (by omega)).trans (EY3.old k hk)⟩
    exact ⟨j1, T.ext Eh, (blk_eq (j3 _ (by omega) (by omega))).trans ba, (blk_eq (j3 _ (by omega) (by omega))).trans bb⟩
  · rintro i h1 w hi hloop ⟨j1, j2, j3, s, lid, ⟨q1, b, q2, q3, q4, q5⟩, j5, j6⟩ hlB hw
    have p5 : h1.blk Y0.nx = some ((newBlk [.int .i64 0]).st 0 (.int .i64 (Int.ofNat l.el.length))) := (blk_eq (j3 _ (by omega) (by omega))).trans b5Y
    have hLlt : Y2.nx + 1 + 1 < h1.nx := by omega
    have n6 : Y0.nx + 1 ≠ Y2.nx + 1 + 1 := by omega
    have n5 : Y0.nx ≠ Y2.nx + 1 + 1 := by omega
    have nL : Y2.nx + 1 + 1 ≠ Y0.nx + 1 := by omega
    have n56 : Y0.nx ≠ Y0.nx + 1 := by omega
    have hle : i + 1 ≤ 1000 := by have := el_len l; omega
    refine opq (P := RndOk _ _ _ _ _ _ _) fun R hR => ?_
    simp only [round_eq, hloop, go_sem, n6, n5, nL, n56, q2, q5]
    refine app_step (Q := R) (by_ := 8) (m := 1) ((j5.mono (h' := h1.put (Y2.nx + 1 + 1) _) (Nat.le_refl _) (fun hne => put_blk_ne _ _ _ _ (by omega))).ext (Ext.alloc _ _)) (by decide) rfl rfl rfl (by decide) (by omega) (by omega) fun V LV vnx vgn vold vlow vlow2 => ?_
    simp only [go_sem] at vnx vgn vlow vold LV vlow2
    have VL := (vold (Y2.nx + 1 + 1) (by omega) (by omega)).trans ((alloc_get_ne _ _ _ (by simp only [go_sem]; omega)).trans (put_get_same _ _ _))
    have V6 : V.blk (Y0.nx + 1) = some b := (blk_eq (vold _ (by omega) (by omega))).trans ((alloc_blk_ne _ _ _ (by simp only [go_sem]; omega)).trans ((put_blk_ne _ _ _ _ n6).trans q2))
    have V5 : V.blk Y0.nx = _ := (blk_eq (vold _ (by omega) (by omega))).trans ((alloc_blk_ne _ _ _ (by simp only [go_sem]; omega)).trans ((put_blk_ne _ _ _ _ n5).trans p5))
    have ll := lst_len LV
    have g6 : (b.st 0 (.sl (h1.nx + 1) 0 (i + 1) (.opn 1))).get 0 = some (.sl (h1.nx + 1) 0 (i + 1) (.opn 1)) := st_get_same _ _ _ (by omega)
    have eqn : (Int.ofNat (i + 1) = Int.ofNat l.el.length) = (i + 1 = l.el.length) := propext ⟨fun e => Int.ofNat.inj e, fun e => by rw [e]⟩
    have nL6 : Y2.nx + 1 + 1 ≠ Y0.nx + 1 := nL
    have fin : ∀ (Z : H) (o : CLoop), Z = (V.put (Y0.nx + 1) (.cells (b.st 0 (.sl (h1.nx + 1) 0 (i + 1) (.opn 1))))).put (Y2.nx + 1 + 1) (.loop o) → (Y3.nx + 1 ≤ Z.nx ∧ Z.gn = Y3.gn ∧ (∀ k, k < Y3.nx → k ≠ Y0.nx + 1 → Z.t.get k = Y3.t.get k) ∧ ∃ s lid, Cell Z (Y0.nx + 1) s ∧ Lst Z 1 s lid (i + 1) (uc (ws.take (i + 1))) ∧ Y3.nx < lid) ∧ Z.low ≤ Y2.nx + 1 + 1 ∧ h1.nx ≤ Z.nx ∧ h.nx ≤ Z.low := by
      rintro Z o rfl
      have htk : uc (ws.take (i + 1)) = uc (ws.take i) ++ [u64 w] := by rw [List.take_succ, hw, uc_app]; rfl
      refine ⟨⟨by simp only [go_sem]; omega, by simp only [go_sem]; exact vgn.trans j2, fun k hk hk6 => ?_, _, h1.nx + 1, ⟨by simp only [go_sem]; omega, _, (put_blk_ne _ _ _ _ n6).trans (put_blk_same _ _ _), by simp only [go_sem, q3], by simp only [go_sem, q4], g6⟩, ?_, by omega⟩, by simp only [go_sem]; omega, by simp only [go_sem]; omega, by simp only [go_sem]; omega⟩
      · rw [put_get_ne _ _ _ _ (by omega), put_get_ne _ _ _ _ hk6, vold k (by omega) (by omega), alloc_get_ne _ _ _ (by simp only [go_sem]; omega), put_get_ne _ _ _ _ (by omega)]
        exact j3 k hk hk6
      · rw [htk]
        exact LV.mono (Nat.le_refl _) fun _ => by rw [put_blk_ne _ _ _ _ (by omega), put_blk_ne _ _ _ _ (by omega)]
    by_cases hfar : i + 1 = l.el.length
    · have hb : (stop && decide (i + 1 = n)) = true := by
        rw [hst, decide_eq_true (by omega), decide_eq_true (by omega)]; rfl
      simp only [go_sem, V6, V5, VL, q3, q4, g5, g6, ll, eqn, hfar, n6, n5, nL, n56]
      rw [hR, hb]
      obtain ⟨f1, f2, f3, f4⟩ := fin _ _ rfl
      exact ⟨_, rfl, put_get_same _ _ _, by rw [← hfar]; exact f1, by rw [← hfar]; exact f2, by rw [← hfar]; exact f3, by rw [← hfar]; exact f4⟩
    · have hb : (stop && decide (i + 1 = n)) = false := by
        rw [hst]
        by_cases q : l.el.length ≤ ws.length
        · rw [decide_eq_true q, decide_eq_false (by omega)]; rfl
        · rw [decide_eq_false q]; rfl
      simp only [go_sem, V6, V5, VL, q3, q4, g5, g6, ll, eqn, hfar, n6, n5, nL, n56]
      rw [hR, hb]
      obtain ⟨f1, f2, f3, f4⟩ := fin _ _ rfl
      exact ⟨_, rfl, put_get_same _ _ _, f1, f2, f3, f4⟩
  · intro Z hloop ⟨j1, j2, j3, s, lid, ⟨q1, b, q2, q3, q4, q5⟩, j5, j6⟩ hZB
    have hZlow : h.nx ≤ Z.low := hZB (by rw [Y3low]; omega)
    have EZ : Ext h Z := ⟨by have := EY3.nx; omega, j2.trans EY3.gn, fun k hk => (j3 k (by have := EY3.nx; omega) (by omega)).trans (EY3.old k hk)⟩
    have hts : ws.take n = ws.take l.el.length := by
      by_cases q : l.el.length ≤ ws.length
      · rw [show n = l.el.length by omega]
      · rw [show n = ws.length by omega, List.take_length, List.take_of_length_le (by omega)]
    have hlen : (ws.take n).length = n := by rw [List.length_take]; omega
    have hel : ∀ Z', (n ≠ 0 → Z'.blk lid = Z.blk lid) → Z.nx ≤ Z'.nx → EL Z' s (ws.take l.el.length) := fun Z' hb hn => by
      rw [← hts]
      have j5' := j5.mono hn hb
      rcases j5'.val with ⟨h0, rfl⟩ | ⟨h0, rfl, h1, b, h2, h3, h4, h5⟩
      · exact .inl ⟨List.length_eq_zero_iff.1 (by rw [hlen, h0]), rfl⟩
      · exact .inr ⟨lid, b, by rw [hlen], h1, h2, by rw [h4, Nat.mul_one, hlen], fun i x hx => by rw [h5, nth_eq]; unfold uc; rw [List.getElem?_map, hx]; rfl⟩
    have n6 : Y0.nx + 1 ≠ Y2.nx + 1 + 1 := by omega
    have fin : ∀ o : CLoop, Q (some (fin h (Z.put (Y2.nx + 1 + 1) (.loop o)) s)) := fun o => by
      have EZ' : Ext h (Z.put (Y2.nx + 1 + 1) (.loop o)) := EZ.put _ (by omega)
      have hE := hel (Z.put (Y2.nx + 1 + 1) (.loop o)) (fun _ => put_blk_ne _ _ _ _ (by omega)) (Nat.le_refl _)
      rw [hQ]
      obtain ⟨x, e, Ex, Bx⟩ := fin_el EZ' hlow hE
      exact ⟨s, x, congrArg some e, Ex, Bx.1, Bx.2 (by simp only [go_sem]; omega)⟩
    cases hs : stop
    · rw [hs] at hloop
      simp only [go_sem, ← hX, ← hY0, Y1nx, Y3nx, hloop, cond_true, cond_false, loOut_eq, n6, q2, q5]
      exact fin _
    · rw [hs] at hloop
      simp only [go_sem, ← hX, ← hY0, Y1nx, Y3nx, hloop, cond_true, cond_false, loOut_eq, n6, q2, q5]
      exact fin _
end
end Go.Cl.U

namespace Go.Cl.U
noncomputable section
variable {σ : Sums}
set_option maxRecDepth 1000000

def saysV (a b : Ln) (sa sb : List Nat) : Nat :=
  if a.c = 0 then (if b.c = 0 then 1 else 2) else if b.c = 0 then 3 else if a.c = b.c then 4 else if a.c ∈ sb then 5 else if b.c ∈ sa then 6 else if ∃ g ∈ sa, g ∈ sb then 7 else 8
theorem EL.beq {h : H} {v : CV} {es : List Nat} (B : EL h v es) : beqC v v = true := by
  rcases B with ⟨_, rfl⟩ | ⟨id, b, rfl, _⟩
  · rfl
  · simp [beqC, Nat.beq_refl]
theorem Ln.beq (l : Ln) : beqC (.agg [u64 l.c, u64 l.b, u64 l.h0, u64 l.h1]) (.agg [u64 l.c, u64 l.b, u64 l.h0, u64 l.h1]) = true := by
  simp [beqC, beqCL, u64]
theorem says_run (hσ : ∀ f a h, f ≠ 9 → σ f a h = none) {h : H} {t : Nat} {es : List (Nat × Nat)} (T : TreeAt h t es) (a b : Ln) {wa wb : List Nat} (Wa : Way es a.c wa) (Wb : Way es b.c wb) (hlow : h.low ≤ h.nx) :
    RetQ (.int .i64 (Int.ofNat (saysV a b (wa.take a.el.length) (wb.take b.el.length)))) ((lim Try.prog σ).call 21 [.ptr t 0, a.cv, b.cv] h) := by
  obtain ⟨sa, hsa⟩ : ∃ s, s = wa.take a.el.length := ⟨_, rfl⟩
  obtain ⟨sb, hsb⟩ : ∃ s, s = wb.take b.el.length := ⟨_, rfl⟩
  rw [← hsa, ← hsb]
  obtain ⟨Q, hQ⟩ : ∃ Q, Q = RetQ (.int .i64 (Int.ofNat (saysV a b sa sb))) := ⟨_, rfl⟩
  rw [← hQ]
  rw [call_eq (hσ _ _ _ (by decide)) fn_21 rfl rfl, Try.ntmps21, Try.results21]
  obtain ⟨X, hX⟩ : ∃ X, X = (h.lo.alloc (.cells (newBlk [u64 a.c, u64 a.b, u64 a.h0, u64 a.h1]))).alloc (.cells (newBlk [u64 b.c, u64 b.b, u64 b.h0, u64 b.h1])) := ⟨_, rfl⟩
  have Xnx : X.nx = h.nx + 2 := by rw [hX]; rfl
  have Xlow : X.low = h.nx := by rw [hX]; rfl
  have XE : Ext h X := by rw [hX]; exact ((Ext.lo h).alloc' _).alloc' _
  have Xa : X.blk h.nx = some (newBlk [u64 a.c, u64 a.b, u64 a.h0, u64 a.h1]) := by rw [hX]; simp only [go_sem]
  have Xb : X.blk (h.nx + 1) = some (newBlk [u64 b.c, u64 b.b, u64 b.h0, u64 b.h1]) := by rw [hX]; simp only [go_sem]
  have b1 : ∀ Y, (lim Try.prog σ).call 17 [.agg [u64 a.c, u64 a.b, u64 a.h0, u64 a.h1]] Y = some (.bool (decide (a.c = 0)), none) := fun Y => blank_run hσ Y a
  have b2 : ∀ Y, (lim Try.prog σ).call 17 [.agg [u64 b.c, u64 b.b, u64 b.h0, u64 b.h1]] Y = some (.bool (decide (b.c = 0)), none) := fun Y => blank_run hσ Y b
  have l0 : CV.int .u64 0 = u64 0 := rfl
  have fin : ∀ (Y : H) (k : Nat), Y.low = h.nx → saysV a b sa sb = k → Q (some (fin h Y (.int .i64 (Int.ofNat k)))) := fun Y k hl hk => by
    rw [hQ, fin_q _ _ _ hl rfl, hk]; rfl
  have nn : (lim Try.prog σ).call 50 [.ptr t 0] X = some (.bool false, none) := none_run hσ (T.ext XE)
  simp only [go_sem, Ln.cv_eq, ← hX, Xa, Xb, b1, b2, eq64]
  refine cnd_go (Q := Q) (by kernel_rfl) ?_
  simp only [go_sem, ← hX, Xa, Xb, b1, b2, eq64]
  by_cases qa : a.c = 0
  · have da : decide (a.c = 0) = true := decide_eq_true qa
    by_cases qb : b.c = 0
    · have db : decide (b.c = 0) = true := decide_eq_true qb
      simp only [go_sem, ← hX, Xa, Xb, b1, b2, eq64, da, db]
      exact fin X 1 Xlow (by unfold saysV; rw [if_pos qa, if_pos qb])
    · have db : decide (b.c = 0) = false := decide_eq_false qb
      simp only [go_sem, ← hX, Xa, Xb, b1, b2, eq64, da, db]
      exact fin X 2 Xlow (by unfold saysV; rw [if_pos qa, if_neg qb])
  have da : decide (a.c = 0) = false := decide_eq_false qa
  by_cases qb : b.c = 0
  · have db : decide (b.c = 0) = true := decide_eq_true qb
    simp only [go_sem, ← hX, Xa, Xb, b1, b2, eq64, da, db]
    exact fin X 3 Xlow (by unfold saysV; rw [if_neg qa, if_pos qb])
  have db : decide (b.c = 0) = false := decide_eq_false qb
  by_cases qc : a.c = b.c
  · have dc : decide (a.c = b.c) = true := decide_eq_true qc
    simp only [go_sem, ← hX, Xa, Xb, b1, b2, eq64, da, db, nn, dc]
    exact fin X 4 Xlow (by unfold saysV; rw [if_neg qa, if_neg qb, if_pos qc])
  have dc : decide (a.c = b.c) = false := decide_eq_false qc
  simp only [go_sem, ← hX, Xa, Xb, b1, b2, eq64, da, db, nn, dc]
  refine cnd_go (Q := Q) (by kernel_rfl) ?_
  obtain ⟨va, xa, ea, Ea, Ba, la⟩ := sight_run hσ (T.ext XE) a Wa (h := X) (by omega)
  rw [← hsa] at Ba
  obtain ⟨Y, hY⟩ : ∃ Y, Y = xa.getD X := ⟨_, rfl⟩
  rw [← hY] at Ba Ea la
  have Ynx0 := Ea.nx
  obtain ⟨vb, xb, eb, Eb, Bb, lb⟩ := sight_run hσ (T.ext (XE.trans Ea)) b Wb (h := Y) (by omega)
  rw [← hsb] at Bb
  obtain ⟨Z, hZ⟩ : ∃ Z, Z = xb.getD Y := ⟨_, rfl⟩
  rw [← hZ] at Bb Eb lb
  rw [Ln.cv_eq] at ea eb
  have Ya : Y.blk h.nx = some (newBlk [u64 a.c, u64 a.b, u64 a.h0, u64 a.h1]) := (Ea.blk (by omega)).trans Xa
  have Yb : Y.blk (h.nx + 1) = some (newBlk [u64 b.c, u64 b.b, u64 b.h0, u64 b.h1]) := (Ea.blk (by omega)).trans Xb
  have Ynx := Ea.nx
  have Za : Z.blk h.nx = some (newBlk [u64 a.c, u64 a.b, u64 a.h0, u64 a.h1]) := (Eb.blk (by omega)).trans Ya
  have Zb : Z.blk (h.nx + 1) = some (newBlk [u64 b.c, u64 b.b, u64 b.h0, u64 b.h1]) := (Eb.blk (by omega)).trans Yb
  have ZE : Ext h Z := (XE.trans Ea).trans Eb
  have Zlow : Z.low = h.nx := by omega
  have Ba' := Ba.ext Eb
  have hc1 : (lim Try.prog σ).call 55 [vb, u64 a.c] Z = some (.bool (decide (a.c ∈ sb)), none) := contains_run hσ Bb (by rw [hsb]; have := el_len b; simp; omega) a.c
  have hc2 : (lim Try.prog σ).call 55 [va, u64 b.c] Z = some (.bool (decide (b.c ∈ sa)), none) := contains_run hσ Ba' (by rw [hsa]; have := el_len a; simp; omega) b.c
  have hlen := Ba'.len
  have hla : sa.length ≤ 3 := by rw [hsa]; have := el_len a; simp; omega
  have hva := Ba.beq
  have hvb := Bb.beq
  rcases xa with _ | Y' <;> rcases xb with _ | Z'
  · have hXY : Y = X := hY
    have hYZ : Z = Y := hZ
    subst hXY hYZ
    simp only [go_sem, ← hX, Xa, Xb, Ya, Yb, Za, Zb, ea, eb, hva, hvb, Ln.beq]
    by_cases q1 : a.c ∈ sb
    · have d1 : decide (a.c ∈ sb) = true := decide_eq_true q1
      simp only [go_sem, ← hX, Za, Zb, hc1, hc2, d1]
      exact fin _ 5 Zlow (by unfold saysV; rw [if_neg qa, if_neg qb, if_neg qc, if_pos q1])
    have d1 : decide (a.c ∈ sb) = false := decide_eq_false q1
    simp only [go_sem, ← hX, Za, Zb, hc1, hc2, d1]
    by_cases q2 : b.c ∈ sa
    · have d2 : decide (b.c ∈ sa) = true := decide_eq_true q2
      simp only [go_sem, ← hX, Za, Zb, hc1, hc2, d1, d2]
      exact fin _ 6 Zlow (by unfold saysV; rw [if_neg qa, if_neg qb, if_neg qc, if_neg q1, if_pos q2])
    have d2 : decide (b.c ∈ sa) = false := decide_eq_false q2
    simp only [go_sem, ← hX, Za, Zb, hc1, hc2, d1, d2, hlen]
    obtain ⟨W, hW⟩ : ∃ W, W = Z := ⟨_, rfl⟩
    refine loop_ind (Q := Q) (fun i env h' => h' = Z ∧ evT env 10 = vb ∧ evT env 51 = va ∧ evT env 52 = .int .i64 (Int.ofNat sa.length) ∧ evT env 53 = .int .i64 (Int.ofNat i) ∧ ∀ x ∈ sa.take i, x ∉ sb) sa.length 0 ?_ (Nat.zero_le _) ?_ ?_
    · exact ⟨by first | rfl | (rw [hX]; rfl), by simp only [go_sem], by simp only [go_sem], by simp only [go_sem], by simp only [go_sem]; rfl, by simp⟩
    · rintro i env h' ⟨rfl, e10, e51, e52, e53, hx⟩ hi next
      have c0 := ofNat_lt hi
      obtain ⟨y, hy⟩ : ∃ y, sa[i]? = some y := ⟨_, List.getElem?_eq_getElem hi⟩
      obtain ⟨id, bb, ei, _, hb, hg⟩ := Ba'.at_ hy
      have w1 := wrap_succ (i := i) (by omega)
      have ec : (lim Try.prog σ).call 55 [vb, u64 y] h' = some (.bool (decide (y ∈ sb)), none) := contains_run hσ Bb (by rw [hsb]; have := el_len b; simp; omega) y
      by_cases q : y ∈ sb
      · have dq : decide (y ∈ sb) = true := decide_eq_true q
        simp only [go_sem, ← hX, e10, e51, e52, e53, c0, ei, hb, hg, ec, dq]
        exact fin _ 7 Zlow (by unfold saysV; rw [if_neg qa, if_neg qb, if_neg qc, if_neg q1, if_neg q2, if_pos ⟨y, List.mem_of_getElem? hy, q⟩])
      · have dq : decide (y ∈ sb) = false := decide_eq_false q
        simp only [go_sem, ← hX, e10, e51, e52, e53, c0, ei, hb, hg, ec, dq, w1]
        refine next _ _ ⟨rfl, by simp only [go_sem, e10], by simp only [go_sem, e51], by simp only [go_sem, e52], by simp only [go_sem], fun x hx' => ?_⟩
        rw [List.take_succ, hy] at hx'
        rcases List.mem_append.1 hx' with h1 | h1
        · exact hx x h1
        · simp at h1; rw [h1]; exact q
    · rintro env h' ⟨rfl, e10, e51, e52, e53, hx⟩
      have c0 := ofNat_nlt (Nat.le_refl sa.length)
      simp only [go_sem, ← hX, e10, e51, e52, e53, c0]
      rw [List.take_length] at hx
      exact fin _ 8 Zlow (by unfold saysV; rw [if_neg qa, if_neg qb, if_neg qc, if_neg q1, if_neg q2, if_neg (by rintro ⟨g, h1, h2⟩; exact hx g h1 h2)])
  · have hXY : Y = X := hY
    have hYZ : Z = Z' := hZ
    subst hXY hYZ
    simp only [go_sem, ← hX, Xa, Xb, Ya, Yb, Za, Zb, ea, eb, hva, hvb, Ln.beq]
    refine cnd_go (Q := Q) (by kernel_rfl) ?_
    refine quiet_go (Q := Q) (by kernel_rfl) ?_
    simp only [go_sem, ← hX, Xa, Xb, Ya, Yb, Za, Zb, ea, eb, hva, hvb, Ln.beq]
    by_cases q1 : a.c ∈ sb
    · have d1 : decide (a.c ∈ sb) = true := decide_eq_true q1
      simp only [go_sem, ← hX, Za, Zb, hc1, hc2, d1]
      exact fin _ 5 Zlow (by unfold saysV; rw [if_neg qa, if_neg qb, if_neg qc, if_pos q1])
    have d1 : decide (a.c ∈ sb) = false := decide_eq_false q1
    simp only [go_sem, ← hX, Za, Zb, hc1, hc2, d1]
    by_cases q2 : b.c ∈ sa
    · have d2 : decide (b.c ∈ sa) = true := decide_eq_true q2
      simp only [go_sem, ← hX, Za, Zb, hc1, hc2, d1, d2]
      exact fin _ 6 Zlow (by unfold saysV; rw [if_neg qa, if_neg qb, if_neg qc, if_neg q1, if_pos q2])
    have d2 : decide (b.c ∈ sa) = false := decide_eq_false q2
    simp only [go_sem, ← hX, Za, Zb, hc1, hc2, d1, d2, hlen]
    obtain ⟨W, hW⟩ : ∃ W, W = Z := ⟨_, rfl⟩
    refine loop_ind (Q := Q) (fun i env h' => h' = Z ∧ evT env 10 = vb ∧ evT env 51 = va ∧ evT env 52 = .int .i64 (Int.ofNat sa.length) ∧ evT env 53 = .int .i64 (Int.ofNat i) ∧ ∀ x ∈ sa.take i, x ∉ sb) sa.length 0 ?_ (Nat.zero_le _) ?_ ?_
    · exact ⟨by first | rfl | (rw [hX]; rfl), by simp only [go_sem], by simp only [go_sem], by simp only [go_sem], by simp only [go_sem]; rfl, by simp⟩
    · rintro i env h' ⟨rfl, e10, e51, e52, e53, hx⟩ hi next
      have c0 := ofNat_lt hi
      obtain ⟨y, hy⟩ : ∃ y, sa[i]? = some y := ⟨_, List.getElem?_eq_getElem hi⟩
      obtain ⟨id, bb, ei, _, hb, hg⟩ := Ba'.at_ hy
      have w1 := wrap_succ (i := i) (by omega)
      have ec : (lim Try.prog σ).call 55 [vb, u64 y] h' = some (.bool (decide (y ∈ sb)), none) := contains_run hσ Bb (by rw [hsb]; have := el_len b; simp; omega) y
      by_cases q : y ∈ sb
      · have dq : decide (y ∈ sb) = true := decide_eq_true q
        simp only [go_sem, ← hX, e10, e51, e52, e53, c0, ei, hb, hg, ec, dq]
        exact fin _ 7 Zlow (by unfold saysV; rw [if_neg qa, if_neg qb, if_neg qc, if_neg q1, if_neg q2, if_pos ⟨y, List.mem_of_getElem? hy, q⟩])
      · have dq : decide (y ∈ sb) = false := decide_eq_false q
        simp only [go_sem, ← hX, e10, e51, e52, e53, c0, ei, hb, hg, ec, dq, w1]
        refine next _ _ ⟨rfl, by simp only [go_sem, e10], by simp only [go_sem, e51], by simp only [go_sem, e52], by simp only [go_sem], fun x hx' => ?_⟩
        rw [List.take_succ, hy] at hx'
        rcases List.mem_append.1 hx' with h1 | h1
        · exact hx x h1
        · simp at h1; rw [h1]; exact q
    · rintro env h' ⟨rfl, e10, e51, e52, e53, hx⟩
      have c0 := ofNat_nlt (Nat.le_refl sa.length)
      simp only [go_sem, ← hX, e10, e51, e52, e53, c0]
      rw [List.take_length] at hx
      exact fin _ 8 Zlow (by unfold saysV; rw [if_neg qa, if_neg qb, if_neg qc, if_neg q1, if_neg q2, if_neg (by rintro ⟨g, h1, h2⟩; exact hx g h1 h2)])
  · have hXY : Y = Y' := hY
    have hYZ : Z = Y := hZ
    subst hXY hYZ
    simp only [go_sem, ← hX, Xa, Xb, Ya, Yb, Za, Zb, ea, eb, hva, hvb, Ln.beq]
    refine cnd_go (Q := Q) (by kernel_rfl) ?_
    simp only [go_sem, ← hX, Xa, Xb, Ya, Yb, Za, Zb, ea, eb, hva, hvb, Ln.beq]
    rw [cond_al (i := 5) (d := [])]
    rotate_left
    · kernel_rfl
    simp only [go_sem, ← hX, Xa, Xb, Ya, Yb, Za, Zb, ea, eb, hva, hvb, Ln.beq]
    by_cases q1 : a.c ∈ sb
    · have d1 : decide (a.c ∈ sb) = true := decide_eq_true q1
      simp only [go_sem, ← hX, Za, Zb, hc1, hc2, d1]
      exact fin _ 5 Zlow (by unfold saysV; rw [if_neg qa, if_neg qb, if_neg qc, if_pos q1])
    have d1 : decide (a.c ∈ sb) = false := decide_eq_false q1
    simp only [go_sem, ← hX, Za, Zb, hc1, hc2, d1]
    by_cases q2 : b.c ∈ sa
    · have d2 : decide (b.c ∈ sa) = true := decide_eq_true q2
      simp only [go_sem, ← hX, Za, Zb, hc1, hc2, d1, d2]
      exact fin _ 6 Zlow (by unfold saysV; rw [if_neg qa, if_neg qb, if_neg qc, if_neg q1, if_pos q2])
    have d2 : decide (b.c ∈ sa) = false := decide_eq_false q2
    simp only [go_sem, ← hX, Za, Zb, hc1, hc2, d1, d2, hlen]
    obtain ⟨W, hW⟩ : ∃ W, W = Z := ⟨_, rfl⟩
    refine loop_ind (Q := Q) (fun i env h' => h' = Z ∧ evT env 10 = vb ∧ evT env 51 = va ∧ evT env 52 = .int .i64 (Int.ofNat sa.length) ∧ evT env 53 = .int .i64 (Int.ofNat i) ∧ ∀ x ∈ sa.take i, x ∉ sb) sa.length 0 ?_ (Nat.zero_le _) ?_ ?_
    · exact ⟨by first | rfl | (rw [hX]; rfl), by simp only [go_sem], by simp only [go_sem], by simp only [go_sem], by simp only [go_sem]; rfl, by simp⟩
    · rintro i env h' ⟨rfl, e10, e51, e52, e53, hx⟩ hi next
      have c0 := ofNat_lt hi
      obtain ⟨y, hy⟩ : ∃ y, sa[i]? = some y := ⟨_, List.getElem?_eq_getElem hi⟩
      obtain ⟨id, bb, ei, _, hb, hg⟩ := Ba'.at_ hy
      have w1 := wrap_succ (i := i) (by omega)
      have ec : (lim Try.prog σ).call 55 [vb, u64 y] h' = some (.bool (decide (y ∈ sb)), none) := contains_run hσ Bb (by rw [hsb]; have := el_len b; simp; omega) y
      by_cases q : y ∈ sb
      · have dq : decide (y ∈ sb) = true := decide_eq_true q
        simp only [go_sem, ← hX, e10, e51, e52, e53, c0, ei, hb, hg, ec, dq]
        exact fin _ 7 Zlow (by unfold saysV; rw [if_neg qa, if_neg qb, if_neg qc, if_neg q1, if_neg q2, if_pos ⟨y, List.mem_of_getElem? hy, q⟩])
      · have dq : decide (y ∈ sb) = false := decide_eq_false q
        simp only [go_sem, ← hX, e10, e51, e52, e53, c0, ei, hb, hg, ec, dq, w1]
        refine next _ _ ⟨rfl, by simp only [go_sem, e10], by simp only [go_sem, e51], by simp only [go_sem, e52], by simp only [go_sem], fun x hx' => ?_⟩
        rw [List.take_succ, hy] at hx'
        rcases List.mem_append.1 hx' with h1 | h1
        · exact hx x h1
        · simp at h1; rw [h1]; exact q
    · rintro env h' ⟨rfl, e10, e51, e52, e53, hx⟩
      have c0 := ofNat_nlt (Nat.le_refl sa.length)
      simp only [go_sem, ← hX, e10, e51, e52, e53, c0]
      rw [List.take_length] at hx
      exact fin _ 8 Zlow (by unfold saysV; rw [if_neg qa, if_neg qb, if_neg qc, if_neg q1, if_neg q2, if_neg (by rintro ⟨g, h1, h2⟩; exact hx g h1 h2)])
  · have hXY : Y = Y' := hY
    have hYZ : Z = Z' := hZ
    subst hXY hYZ
    simp only [go_sem, ← hX, Xa, Xb, Ya, Yb, Za, Zb, ea, eb, hva, hvb, Ln.beq]
    refine cnd_go (Q := Q) (by kernel_rfl) ?_
    simp only [go_sem, ← hX, Xa, Xb, Ya, Yb, Za, Zb, ea, eb, hva, hvb, Ln.beq]
    by_cases q1 : a.c ∈ sb
    · have d1 : decide (a.c ∈ sb) = true := decide_eq_true q1
      simp only [go_sem, ← hX, Za, Zb, hc1, hc2, d1]
      exact fin _ 5 Zlow (by unfold saysV; rw [if_neg qa, if_neg qb, if_neg qc, if_pos q1])
    have d1 : decide (a.c ∈ sb) = false := decide_eq_false q1
    simp only [go_sem, ← hX, Za, Zb, hc1, hc2, d1]
    by_cases q2 : b.c ∈ sa
    · have d2 : decide (b.c ∈ sa) = true := decide_eq_true q2
      simp only [go_sem, ← hX, Za, Zb, hc1, hc2, d1, d2]
      exact fin _ 6 Zlow (by unfold saysV; rw [if_neg qa, if_neg qb, if_neg qc, if_neg q1, if_pos q2])
    have d2 : decide (b.c ∈ sa) = false := decide_eq_false q2
    simp only [go_sem, ← hX, Za, Zb, hc1, hc2, d1, d2, hlen]
    obtain ⟨W, hW⟩ : ∃ W, W = Z := ⟨_, rfl⟩
    refine loop_ind (Q := Q) (fun i env h' => h' = Z ∧ evT env 10 = vb ∧ evT env 51 = va ∧ evT env 52 = .int .i64 (Int.ofNat sa.length) ∧ evT env 53 = .int .i64 (Int.ofNat i) ∧ ∀ x ∈ sa.take i, x ∉ sb) sa.length 0 ?_ (Nat.zero_le _) ?_ ?_
    · exact ⟨by first | rfl | (rw [hX]; rfl), by simp only [go_sem], by simp only [go_sem], by simp only [go_sem], by simp only [go_sem]; rfl, by simp⟩
    · rintro i env h' ⟨rfl, e10, e51, e52, e53, hx⟩ hi next
      have c0 := ofNat_lt hi
      obtain ⟨y, hy⟩ : ∃ y, sa[i]? = some y := ⟨_, List.getElem?_eq_getElem hi⟩
      obtain ⟨id, bb, ei, _, hb, hg⟩ := Ba'.at_ hy
      have w1 := wrap_succ (i := i) (by omega)
      have ec : (lim Try.prog σ).call 55 [vb, u64 y] h' = some (.bool (decide (y ∈ sb)), none) := contains_run hσ Bb (by rw [hsb]; have := el_len b; simp; omega) y
      by_cases q : y ∈ sb
      · have dq : decide (y ∈ sb) = true := decide_eq_true q
        simp only [go_sem, ← hX, e10, e51, e52, e53, c0, ei, hb, hg, ec, dq]
        exact fin _ 7 Zlow (by unfold saysV; rw [if_neg qa, if_neg qb, if_neg qc, if_neg q1, if_neg q2, if_pos ⟨y, List.mem_of_getElem? hy, q⟩])
      · have dq : decide (y ∈ sb) = false := decide_eq_false q
        simp only [go_sem, ← hX, e10, e51, e52, e53, c0, ei, hb, hg, ec, dq, w1]
        refine next _ _ ⟨rfl, by simp only [go_sem, e10], by simp only [go_sem, e51], by simp only [go_sem, e52], by simp only [go_sem], fun x hx' => ?_⟩
        rw [List.take_succ, hy] at hx'
        rcases List.mem_append.1 hx' with h1 | h1
        · exact hx x h1
        · simp at h1; rw [h1]; exact q
    · rintro env h' ⟨rfl, e10, e51, e52, e53, hx⟩
      have c0 := ofNat_nlt (Nat.le_refl sa.length)
      simp only [go_sem, ← hX, e10, e51, e52, e53, c0]
      rw [List.take_length] at hx
      exact fin _ 8 Zlow (by unfold saysV; rw [if_neg qa, if_neg qb, if_neg qc, if_neg q1, if_neg q2, if_neg (by rintro ⟨g, h1, h2⟩; exact hx g h1 h2)])
end
end Go.Cl.U
