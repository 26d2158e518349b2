/- The program's functions, run by the rewriting evaluator: what each answers and leaves (UuA). -/
import Derived.Test.YtbdokmhibgpjhaaClH
set_option linter.all false
open Go Go.Cl Go.Proofs
namespace Go.Cl.U
variable {σ : Sums}
set_option maxRecDepth 1000000

def RetQ (v : CV) (r : Option (CV × Option H)) : Prop := r = some (v, none)
structure Ln where
  (c b h0 h1 : Nat)
def Ln.cv (l : Ln) : CV := .agg [u64 l.c, u64 l.b, u64 l.h0, u64 l.h1]
def Ln.cs (l : Ln) : List CV := [u64 l.c, u64 l.b, u64 l.h0, u64 l.h1]
theorem Ln.cv_eq (l : Ln) : l.cv = .agg [u64 l.c, u64 l.b, u64 l.h0, u64 l.h1] := rfl
def nz (l : List Nat) : List Nat := l.filter fun x => decide (x ≠ 0)
def Ln.el (l : Ln) : List Nat := nz [l.b, l.h0, l.h1]
def uc (l : List Nat) : List CV := l.map u64
theorem uc_len (l : List Nat) : (uc l).length = l.length := by simp [uc]
theorem uc_app (a b : List Nat) : uc (a ++ b) = uc a ++ uc b := by simp [uc]
theorem uc_one (l : List Nat) : (uc l).all CV.one = true := List.all_eq_true.2 fun x hx => by
  obtain ⟨b, _, rfl⟩ := List.mem_map.1 hx; rfl

theorem blank_run (hσ : ∀ f a h, f ≠ 20 → σ f a h = none) (h : H) (l : Ln) : RetQ (.bool (decide (l.c = 0))) ((lim Try.prog σ).call 49 [l.cv] h) := by
  rw [call_eq (hσ _ _ _ (by decide)) fn_49 rfl rfl, Try.ntmps49, Try.results49]
  have l0 : CV.int .u64 0 = u64 0 := rfl
  simp only [go_sem, Nat.reduceLT, Nat.reduceLeDiff, Nat.reduceEqDiff, Nat.reduceAdd, Nat.reduceSub, Nat.reduceMul, reduceCtorEq, Int.reduceBEq, Int.reduceLT, Int.reduceLE, Int.reduceAdd, Int.reduceSub, Int.reduceEq, Int.reduceNeg, Int.reduceToNat, Int.reduceGT, Int.reduceGE, Ln.cv_eq, l0, eq64]
  exact congrArg some (fin_q _ _ _ rfl rfl)

/-- numbers of whomever -/
def EL (h : H) (v : CV) (es : List Nat) : Prop := (es = [] ∧ v = .nils) ∨ ∃ id b, v = .sl id 0 es.length (.opn 1) ∧ id < h.nx ∧ h.blk id = some b ∧ b.n = es.length ∧ ∀ i x, es[i]? = some x → b.get i = some (u64 x)
theorem EL.ext {h h' : H} {v : CV} {es : List Nat} (B : EL h v es) (e : Ext h h') : EL h' v es := by
  rcases B with h1 | ⟨id, b, h1, h2, h3, h4⟩
  · exact .inl h1
  · exact .inr ⟨id, b, h1, Nat.lt_of_lt_of_le h2 e.nx, (e.blk h2).trans h3, h4⟩
theorem EL.len {h : H} {v : CV} {es : List Nat} (B : EL h v es) (h' : H) (ts : List TypeId) (az : List CV) : builtinT Try.prog h' .len (61 :: ts) (v :: az) = some (.val (.int .i64 (Int.ofNat es.length))) := by
  rcases B with ⟨rfl, rfl⟩ | ⟨id, b, rfl, _⟩ <;> simp [builtinT, Try.underlying61, lenC]
theorem EL.at_ {h : H} {v : CV} {es : List Nat} (B : EL h v es) {i x : Nat} (hx : es[i]? = some x) : ∃ id b, (∀ kd, indexAddrT Try.prog 61 v (.int kd (Int.ofNat i)) = some (.ptr id i)) ∧ id < h.nx ∧ h.blk id = some b ∧ b.get i = some (u64 x) := by
  have hi := (List.getElem?_eq_some_iff.1 hx).1
  rcases B with ⟨rfl, _⟩ | ⟨id, b, rfl, h2, h3, h4, h5⟩
  · simp at hi
  · exact ⟨id, b, fun kd => by rw [ia_61, blt_eq', decide_eq_true hi, cond_true, Nat.mul_one, Nat.zero_add], h2, h3, h5 i x hx⟩

theorem index_run (hσ : ∀ f a h, f ≠ 20 → σ f a h = none) {h : H} {v : CV} {es : List Nat} (B : EL h v es) (hl : es.length ≤ 1000) (x : Nat) : ∃ i : Int, RetQ (.int .i64 i) ((lim Try.prog σ).call 65 [v, u64 x] h) ∧ (i ≥ 0 ↔ x ∈ es) := by
  rw [call_eq (hσ _ _ _ (by decide)) fn_65 rfl rfl, Try.ntmps65, Try.results65]
  simp only [go_sem, Nat.reduceLT, Nat.reduceLeDiff, Nat.reduceEqDiff, Nat.reduceAdd, Nat.reduceSub, Nat.reduceMul, reduceCtorEq, Int.reduceBEq, Int.reduceLT, Int.reduceLE, Int.reduceAdd, Int.reduceSub, Int.reduceEq, Int.reduceNeg, Int.reduceToNat, Int.reduceGT, Int.reduceGE, B.len]
  show (fun r => ∃ i : Int, RetQ (.int .i64 i) r ∧ (i ≥ 0 ↔ x ∈ es)) _
  refine loop_ind (Q := fun r => ∃ i : Int, RetQ (.int .i64 i) r ∧ (i ≥ 0 ↔ x ∈ es)) (fun i env h' => h' = h.lo ∧ evT env 0 = v ∧ evT env 1 = u64 x ∧ evT env 7 = .int .i64 (Int.ofNat es.length) ∧ evT env 8 = .int .i64 (Int.ofNat i) ∧ x ∉ es.take i) es.length 0 ?_ (Nat.zero_le _) ?_ ?_
  · exact ⟨rfl, by simp only [go_sem, Nat.reduceLT, Nat.reduceLeDiff, Nat.reduceEqDiff, Nat.reduceAdd, Nat.reduceSub, Nat.reduceMul, reduceCtorEq, Int.reduceBEq, Int.reduceLT, Int.reduceLE, Int.reduceAdd, Int.reduceSub, Int.reduceEq, Int.reduceNeg, Int.reduceToNat, Int.reduceGT, Int.reduceGE], by simp only [go_sem, Nat.reduceLT, Nat.reduceLeDiff, Nat.reduceEqDiff, Nat.reduceAdd, Nat.reduceSub, Nat.reduceMul, reduceCtorEq, Int.reduceBEq, Int.reduceLT, Int.reduceLE, Int.reduceAdd, Int.reduceSub, Int.reduceEq, Int.reduceNeg, Int.reduceToNat, Int.reduceGT, Int.reduceGE], by simp only [go_sem, Nat.reduceLT, Nat.reduceLeDiff, Nat.reduceEqDiff, Nat.reduceAdd, Nat.reduceSub, Nat.reduceMul, reduceCtorEq, Int.reduceBEq, Int.reduceLT, Int.reduceLE, Int.reduceAdd, Int.reduceSub, Int.reduceEq, Int.reduceNeg, Int.reduceToNat, Int.reduceGT, Int.reduceGE], by simp only [go_sem, Nat.reduceLT, Nat.reduceLeDiff, Nat.reduceEqDiff, Nat.reduceAdd, Nat.reduceSub, Nat.reduceMul, reduceCtorEq, Int.reduceBEq, Int.reduceLT, Int.reduceLE, Int.reduceAdd, Int.reduceSub, Int.reduceEq, Int.reduceNeg, Int.reduceToNat, Int.reduceGT, Int.reduceGE]; rfl, by simp⟩
  · rintro i env h' ⟨rfl, e0, e1, e7, e8, hx⟩ hi next
    have c0 := ofNat_lt hi
    obtain ⟨y, hy⟩ : ∃ y, es[i]? = some y := ⟨_, List.getElem?_eq_getElem hi⟩
    obtain ⟨id, b, ea, _, hb, hg⟩ := (B.ext (Ext.lo h)).at_ hy
    have w1 := wrap_succ (i := i) (by omega)
    by_cases q : x = y
    · subst q
      simp only [go_sem, Nat.reduceLT, Nat.reduceLeDiff, Nat.reduceEqDiff, Nat.reduceAdd, Nat.reduceSub, Nat.reduceMul, reduceCtorEq, Int.reduceBEq, Int.reduceLT, Int.reduceLE, Int.reduceAdd, Int.reduceSub, Int.reduceEq, Int.reduceNeg, Int.reduceToNat, Int.reduceGT, Int.reduceGE, e0, e1, e7, e8, c0, ea, hb, hg, eq64]
      refine ⟨Int.ofNat i, congrArg some (fin_q _ _ _ rfl rfl), ?_⟩
      simp
      exact List.mem_of_getElem? hy
    · simp only [go_sem, Nat.reduceLT, Nat.reduceLeDiff, Nat.reduceEqDiff, Nat.reduceAdd, Nat.reduceSub, Nat.reduceMul, reduceCtorEq, Int.reduceBEq, Int.reduceLT, Int.reduceLE, Int.reduceAdd, Int.reduceSub, Int.reduceEq, Int.reduceNeg, Int.reduceToNat, Int.reduceGT, Int.reduceGE, e0, e1, e7, e8, c0, ea, hb, hg, eq64, q, w1]
      refine next _ _ ⟨rfl, by simp only [go_sem, Nat.reduceLT, Nat.reduceLeDiff, Nat.reduceEqDiff, Nat.reduceAdd, Nat.reduceSub, Nat.reduceMul, reduceCtorEq, Int.reduceBEq, Int.reduceLT, Int.reduceLE, Int.reduceAdd, Int.reduceSub, Int.reduceEq, Int.reduceNeg, Int.reduceToNat, Int.reduceGT, Int.reduceGE, e0], by simp only [go_sem, Nat.reduceLT, Nat.reduceLeDiff, Nat.reduceEqDiff, Nat.reduceAdd, Nat.reduceSub, Nat.reduceMul, reduceCtorEq, Int.reduceBEq, Int.reduceLT, Int.reduceLE, Int.reduceAdd, Int.reduceSub, Int.reduceEq, Int.reduceNeg, Int.reduceToNat, Int.reduceGT, Int.reduceGE, e1], by simp only [go_sem, Nat.reduceLT, Nat.reduceLeDiff, Nat.reduceEqDiff, Nat.reduceAdd, Nat.reduceSub, Nat.reduceMul, reduceCtorEq, Int.reduceBEq, Int.reduceLT, Int.reduceLE, Int.reduceAdd, Int.reduceSub, Int.reduceEq, Int.reduceNeg, Int.reduceToNat, Int.reduceGT, Int.reduceGE, e7], by simp only [go_sem, Nat.reduceLT, Nat.reduceLeDiff, Nat.reduceEqDiff, Nat.reduceAdd, Nat.reduceSub, Nat.reduceMul, reduceCtorEq, Int.reduceBEq, Int.reduceLT, Int.reduceLE, Int.reduceAdd, Int.reduceSub, Int.reduceEq, Int.reduceNeg, Int.reduceToNat, Int.reduceGT, Int.reduceGE], ?_⟩
      rw [List.take_succ, hy]
      simp [hx, q]
  · rintro env h' ⟨rfl, e0, e1, e7, e8, hx⟩
    have c0 := ofNat_nlt (Nat.le_refl es.length)
    simp only [go_sem, Nat.reduceLT, Nat.reduceLeDiff, Nat.reduceEqDiff, Nat.reduceAdd, Nat.reduceSub, Nat.reduceMul, reduceCtorEq, Int.reduceBEq, Int.reduceLT, Int.reduceLE, Int.reduceAdd, Int.reduceSub, Int.reduceEq, Int.reduceNeg, Int.reduceToNat, Int.reduceGT, Int.reduceGE, e0, e1, e7, e8, c0]
    refine ⟨-1, congrArg some (fin_q _ _ _ rfl rfl), ?_⟩
    rw [List.take_length] at hx
    simp [hx]
theorem contains_run (hσ : ∀ f a h, f ≠ 20 → σ f a h = none) {h : H} {v : CV} {es : List Nat} (B : EL h v es) (hl : es.length ≤ 1000) (x : Nat) : RetQ (.bool (decide (x ∈ es))) ((lim Try.prog σ).call 50 [v, u64 x] h) := by
  obtain ⟨i, e, hi⟩ := index_run hσ (B.ext (Ext.lo h)) hl x
  rw [call_eq (hσ _ _ _ (by decide)) fn_50 rfl rfl, Try.ntmps50, Try.results50]
  have e' : (lim Try.prog σ).call 65 [v, u64 x] h.lo = some (.int .i64 i, none) := e
  have hd : decide (i ≥ 0) = decide (x ∈ es) := decide_eq_decide.2 hi
  simp only [go_sem, Nat.reduceLT, Nat.reduceLeDiff, Nat.reduceEqDiff, Nat.reduceAdd, Nat.reduceSub, Nat.reduceMul, reduceCtorEq, Int.reduceBEq, Int.reduceLT, Int.reduceLE, Int.reduceAdd, Int.reduceSub, Int.reduceEq, Int.reduceNeg, Int.reduceToNat, Int.reduceGT, Int.reduceGE, e', hd]
  exact congrArg some (fin_q _ _ _ rfl rfl)

/-- a list of numbers of one's own -/
structure GU (h h' : H) (v : CV) (es : List Nat) (lid : Nat) : Prop where
  ge : h.nx ≤ lid
  lst : Lst h' 1 v lid es.length (uc es)
  ext : Ext h h'
  low : h'.low = h.low
  bl : h.low ≤ h.nx
theorem GU.alloc {h h' : H} {v : CV} {es : List Nat} {lid : Nat} (g : GU h h' v es lid) (o : CObj) : GU h (h'.alloc o) v es lid := ⟨g.ge, g.lst.ext (Ext.alloc _ _), g.ext.alloc' _, g.low, g.bl⟩
theorem GU.el {h h' : H} {v : CV} {es : List Nat} {lid : Nat} (g : GU h h' v es lid) : EL h' v es := by
  rcases g.lst.val with ⟨h0, rfl⟩ | ⟨h0, rfl, h1, b, h2, h3, h4, h5⟩
  · exact .inl ⟨List.length_eq_zero_iff.1 h0, rfl⟩
  · exact .inr ⟨lid, b, rfl, h1, h2, by rw [h4, Nat.mul_one], fun i x hx => by rw [h5, nth_eq]; unfold uc; rw [List.getElem?_map, hx]; rfl⟩
theorem growU_step {β : Type} {Q : Option β → Prop} {h X : H} {v : CV} {es ns : List Nat} {lid : Nat} {K : Out → Option β} (g : GU h X v es lid) (hn : 0 < ns.length) (hr : es.length + ns.length ≤ 1000000)
    (k : ∀ h' v', v' = .sl X.nx 0 (es ++ ns).length (.opn 1) → GU h h' v' (es ++ ns) X.nx → X.nx < h'.nx → Q (K (.upd v' h'))) :
    Q (@thn _ β (uv (appS X 1 8 1 v ns.length (some (uc ns)))) ⟨K⟩) := by
  refine app_step (Q := Q) (by_ := 8) g.lst hn (by rw [uc_len, Nat.mul_one]) (uc_one _) rfl (by decide) (by omega) (by omega) fun h' L hnx hgn hold hlow hlow2 => ?_
  have hl : (es ++ ns).length = es.length + ns.length := List.length_append
  have := k h' _ rfl ⟨g.ext.nx, by rw [hl, uc_app]; exact L, ⟨by have := g.ext.nx; omega, hgn.trans g.ext.gn, fun i hi => (hold i (Nat.lt_of_lt_of_le hi g.ext.nx) fun _ => by have := g.ge; omega).trans (g.ext.old i hi)⟩, by have := g.low; have := g.ge; have := g.bl; omega, g.bl⟩ (by omega)
  rw [hl] at this
  exact this

theorem hist0 (o off : Nat) (kd : IntKind) : indexAddrT Try.prog 51 (.ptr o off) (.int kd 0) = some (.ptr o off) := by
  rw [show (0 : Int) = Int.ofNat 0 from rfl, ia_51]; simp [blt_eq']
theorem hist1 (o off : Nat) (kd : IntKind) : indexAddrT Try.prog 51 (.ptr o off) (.int kd 1) = some (.ptr o (off + 1)) := by
  rw [show (1 : Int) = Int.ofNat 1 from rfl, ia_51]; simp [blt_eq']
/-- what Elder answers -/
def ElQ (h : H) (es : List Nat) (r : Option (CV × Option H)) : Prop :=
  (es = [] ∧ r = some (.nils, none)) ∨ (es ≠ [] ∧ ∃ v h', r = some (v, some h') ∧ Ext h h' ∧ EL h' v es ∧ h'.low = min h.low h.nx)
theorem elder_run (hσ : ∀ f a h, f ≠ 20 → σ f a h = none) (h : H) (l : Ln) : ElQ h l.el ((lim Try.prog σ).call 25 [l.cv] h) := by
  obtain ⟨Q, hQ⟩ : ∃ Q, Q = ElQ h l.el := ⟨_, rfl⟩
  rw [← hQ]
  rw [call_eq (hσ _ _ _ (by decide)) fn_25 rfl rfl, Try.ntmps25, Try.results25]
  simp only [go_sem, Nat.reduceLT, Nat.reduceLeDiff, Nat.reduceEqDiff, Nat.reduceAdd, Nat.reduceSub, Nat.reduceMul, reduceCtorEq, Int.reduceBEq, Int.reduceLT, Int.reduceLE, Int.reduceAdd, Int.reduceSub, Int.reduceEq, Int.reduceNeg, Int.reduceToNat, Int.reduceGT, Int.reduceGE, Ln.cv_eq, hist0, hist1]
  have l0 : CV.int .u64 0 = u64 0 := rfl
  have bl : (h.lo.alloc (.cells (newBlk [u64 l.c, u64 l.b, u64 l.h0, u64 l.h1]))).low ≤ (h.lo.alloc (.cells (newBlk [u64 l.c, u64 l.b, u64 l.h0, u64 l.h1]))).nx := by simp only [go_sem, Nat.reduceLT, Nat.reduceLeDiff, Nat.reduceEqDiff, Nat.reduceAdd, Nat.reduceSub, Nat.reduceMul, reduceCtorEq, Int.reduceBEq, Int.reduceLT, Int.reduceLE, Int.reduceAdd, Int.reduceSub, Int.reduceEq, Int.reduceNeg, Int.reduceToNat, Int.reduceGT, Int.reduceGE]; omega
  refine loop_ind (Q := Q) (fun i env h' => evT env 14 = .agg [u64 l.b, u64 l.h0, u64 l.h1] ∧ evT env 15 = .int .i64 (Int.ofNat i) ∧ ∃ lid, GU (h.lo.alloc (.cells (newBlk [u64 l.c, u64 l.b, u64 l.h0, u64 l.h1]))) h' (evT env 3) (nz ([l.b, l.h0, l.h1].take i)) lid) 3 0 ?_ (by decide) ?_ ?_
  · exact ⟨by simp only [go_sem, Nat.reduceLT, Nat.reduceLeDiff, Nat.reduceEqDiff, Nat.reduceAdd, Nat.reduceSub, Nat.reduceMul, reduceCtorEq, Int.reduceBEq, Int.reduceLT, Int.reduceLE, Int.reduceAdd, Int.reduceSub, Int.reduceEq, Int.reduceNeg, Int.reduceToNat, Int.reduceGT, Int.reduceGE], by simp only [go_sem, Nat.reduceLT, Nat.reduceLeDiff, Nat.reduceEqDiff, Nat.reduceAdd, Nat.reduceSub, Nat.reduceMul, reduceCtorEq, Int.reduceBEq, Int.reduceLT, Int.reduceLE, Int.reduceAdd, Int.reduceSub, Int.reduceEq, Int.reduceNeg, Int.reduceToNat, Int.reduceGT, Int.reduceGE]; rfl, _, by simp only [go_sem, Nat.reduceLT, Nat.reduceLeDiff, Nat.reduceEqDiff, Nat.reduceAdd, Nat.reduceSub, Nat.reduceMul, reduceCtorEq, Int.reduceBEq, Int.reduceLT, Int.reduceLE, Int.reduceAdd, Int.reduceSub, Int.reduceEq, Int.reduceNeg, Int.reduceToNat, Int.reduceGT, Int.reduceGE]; exact ⟨Nat.le_refl _, Lst.nil _ _ _, Ext.refl _, rfl, bl⟩⟩
  · rintro i env h' ⟨e14, e15, lid, G1⟩ hi next
    have c0 : Int.ofNat i < 3 := by simp; omega
    have w1 := wrap_succ (i := i) (by omega)
    obtain ⟨x, hx⟩ : ∃ x, [l.b, l.h0, l.h1][i]? = some x := ⟨_, List.getElem?_eq_getElem hi⟩
    have hnx : nth [u64 l.b, u64 l.h0, u64 l.h1] i = some (u64 x) := by
      rw [nth_eq, show [u64 l.b, u64 l.h0, u64 l.h1] = uc [l.b, l.h0, l.h1] from rfl]; unfold uc; rw [List.getElem?_map, hx]; rfl
    have ht : [l.b, l.h0, l.h1].take (i + 1) = [l.b, l.h0, l.h1].take i ++ [x] := by rw [List.take_succ, hx]; rfl
    have hle : (nz ([l.b, l.h0, l.h1].take i)).length ≤ 3 := Nat.le_trans (List.length_filter_le _ _) (by rw [List.length_take]; simp; omega)
    by_cases q : x = 0
    · simp only [go_sem, Nat.reduceLT, Nat.reduceLeDiff, Nat.reduceEqDiff, Nat.reduceAdd, Nat.reduceSub, Nat.reduceMul, reduceCtorEq, Int.reduceBEq, Int.reduceLT, Int.reduceLE, Int.reduceAdd, Int.reduceSub, Int.reduceEq, Int.reduceNeg, Int.reduceToNat, Int.reduceGT, Int.reduceGE, e14, e15, c0, hi, hnx, l0, ne64, q, w1, Nat.mul_one]
      refine next _ _ ⟨by simp only [go_sem, Nat.reduceLT, Nat.reduceLeDiff, Nat.reduceEqDiff, Nat.reduceAdd, Nat.reduceSub, Nat.reduceMul, reduceCtorEq, Int.reduceBEq, Int.reduceLT, Int.reduceLE, Int.reduceAdd, Int.reduceSub, Int.reduceEq, Int.reduceNeg, Int.reduceToNat, Int.reduceGT, Int.reduceGE, e14], by simp only [go_sem, Nat.reduceLT, Nat.reduceLeDiff, Nat.reduceEqDiff, Nat.reduceAdd, Nat.reduceSub, Nat.reduceMul, reduceCtorEq, Int.reduceBEq, Int.reduceLT, Int.reduceLE, Int.reduceAdd, Int.reduceSub, Int.reduceEq, Int.reduceNeg, Int.reduceToNat, Int.reduceGT, Int.reduceGE], lid, ?_⟩
      simp only [go_sem, Nat.reduceLT, Nat.reduceLeDiff, Nat.reduceEqDiff, Nat.reduceAdd, Nat.reduceSub, Nat.reduceMul, reduceCtorEq, Int.reduceBEq, Int.reduceLT, Int.reduceLE, Int.reduceAdd, Int.reduceSub, Int.reduceEq, Int.reduceNeg, Int.reduceToNat, Int.reduceGT, Int.reduceGE]
      rw [ht, q]
      have : nz ([l.b, l.h0, l.h1].take i ++ [0]) = nz ([l.b, l.h0, l.h1].take i) := by simp [nz]
      rw [this]; exact G1
    · simp only [go_sem, Nat.reduceLT, Nat.reduceLeDiff, Nat.reduceEqDiff, Nat.reduceAdd, Nat.reduceSub, Nat.reduceMul, reduceCtorEq, Int.reduceBEq, Int.reduceLT, Int.reduceLE, Int.reduceAdd, Int.reduceSub, Int.reduceEq, Int.reduceNeg, Int.reduceToNat, Int.reduceGT, Int.reduceGE, e14, e15, c0, hi, hnx, l0, ne64, q, w1, Nat.mul_one]
      have G2 := G1.alloc (.cells ({ n := 1, d := [CV.int IntKind.u64 0], t := T.nil, ro := false : Blk }.st 0 (u64 x)))
      refine growU_step (Q := Q) (ns := [x]) G2 (Nat.zero_lt_one) (by simp; omega) fun h2 v2 hv2 G3 hlt => ?_
      simp only [go_sem, Nat.reduceLT, Nat.reduceLeDiff, Nat.reduceEqDiff, Nat.reduceAdd, Nat.reduceSub, Nat.reduceMul, reduceCtorEq, Int.reduceBEq, Int.reduceLT, Int.reduceLE, Int.reduceAdd, Int.reduceSub, Int.reduceEq, Int.reduceNeg, Int.reduceToNat, Int.reduceGT, Int.reduceGE, e14, e15, w1]
      have hz : nz ([l.b, l.h0, l.h1].take (i + 1)) = nz ([l.b, l.h0, l.h1].take i) ++ [x] := by rw [ht]; simp [nz, q]
      exact next _ _ ⟨by simp only [go_sem, Nat.reduceLT, Nat.reduceLeDiff, Nat.reduceEqDiff, Nat.reduceAdd, Nat.reduceSub, Nat.reduceMul, reduceCtorEq, Int.reduceBEq, Int.reduceLT, Int.reduceLE, Int.reduceAdd, Int.reduceSub, Int.reduceEq, Int.reduceNeg, Int.reduceToNat, Int.reduceGT, Int.reduceGE, e14], by simp only [go_sem, Nat.reduceLT, Nat.reduceLeDiff, Nat.reduceEqDiff, Nat.reduceAdd, Nat.reduceSub, Nat.reduceMul, reduceCtorEq, Int.reduceBEq, Int.reduceLT, Int.reduceLE, Int.reduceAdd, Int.reduceSub, Int.reduceEq, Int.reduceNeg, Int.reduceToNat, Int.reduceGT, Int.reduceGE], _, by rw [hz]; simp only [go_sem, Nat.reduceLT, Nat.reduceLeDiff, Nat.reduceEqDiff, Nat.reduceAdd, Nat.reduceSub, Nat.reduceMul, reduceCtorEq, Int.reduceBEq, Int.reduceLT, Int.reduceLE, Int.reduceAdd, Int.reduceSub, Int.reduceEq, Int.reduceNeg, Int.reduceToNat, Int.reduceGT, Int.reduceGE]; exact G3⟩
  · rintro env h' ⟨e14, e15, lid, G1⟩
    have c0 : ¬ Int.ofNat 3 < 3 := by decide
    have hes : nz ([l.b, l.h0, l.h1].take 3) = l.el := rfl
    rw [hes] at G1
    obtain ⟨w, hw⟩ : ∃ w, w = evT env 3 := ⟨_, rfl⟩
    rw [← hw] at G1
    simp only [go_sem, Nat.reduceLT, Nat.reduceLeDiff, Nat.reduceEqDiff, Nat.reduceAdd, Nat.reduceSub, Nat.reduceMul, reduceCtorEq, Int.reduceBEq, Int.reduceLT, Int.reduceLE, Int.reduceAdd, Int.reduceSub, Int.reduceEq, Int.reduceNeg, Int.reduceToNat, Int.reduceGT, Int.reduceGE, e14, e15, c0, ← hw]
    have E : Ext h h' := ((Ext.lo h).alloc' _).trans G1.ext
    have hlow : h'.low = h.nx := G1.low
    rw [hQ]
    rcases G1.el with ⟨h1, rfl⟩ | ⟨id, b, rfl, h2, h3, h4, h5⟩
    · exact .inl ⟨h1, congrArg some (fin_q _ _ _ hlow rfl)⟩
    · have hge : h.nx < id := by
        rcases G1.lst.val with ⟨_, hv⟩ | ⟨_, hv, _⟩
        · cases hv
        · cases hv; have := G1.ge; simp only [go_sem, Nat.reduceLT, Nat.reduceLeDiff, Nat.reduceEqDiff, Nat.reduceAdd, Nat.reduceSub, Nat.reduceMul, reduceCtorEq, Int.reduceBEq, Int.reduceLT, Int.reduceLE, Int.reduceAdd, Int.reduceSub, Int.reduceEq, Int.reduceNeg, Int.reduceToNat, Int.reduceGT, Int.reduceGE] at this; omega
      have hne : l.el ≠ [] := fun q => by
        rcases G1.lst.val with ⟨_, hv⟩ | ⟨h0, hv, _⟩
        · cases hv
        · rw [q] at h0; exact absurd h0 (by decide)
      refine .inr ⟨hne, _, h'.up (min h.low h'.low), congrArg some (fin_new _ _ _ (by rw [okB_sl, blt_eq']; exact decide_eq_false (by omega))), E.up' _, .inr ⟨id, b, rfl, h2, h3, h4, h5⟩, by simp only [go_sem, Nat.reduceLT, Nat.reduceLeDiff, Nat.reduceEqDiff, Nat.reduceAdd, Nat.reduceSub, Nat.reduceMul, reduceCtorEq, Int.reduceBEq, Int.reduceLT, Int.reduceLE, Int.reduceAdd, Int.reduceSub, Int.reduceEq, Int.reduceNeg, Int.reduceToNat, Int.reduceGT, Int.reduceGE, hlow]⟩
end Go.Cl.U

namespace Go.Cl.U
variable {σ : Sums}
set_option maxRecDepth 1000000

theorem elder_c (hσ : ∀ f a h, f ≠ 20 → σ f a h = none) {X : H} (hl : X.low ≤ X.nx) (l : Ln) : ∃ v x, (lim Try.prog σ).call 25 [l.cv] X = some (v, x) ∧ EL (x.getD X) v l.el ∧ Ext X (x.getD X) ∧ (x.getD X).low = X.low := by
  rcases elder_run hσ X l with ⟨h1, h2⟩ | ⟨h1, v, h', h2, h3, h4, h5⟩
  · exact ⟨_, _, h2, .inl ⟨h1, rfl⟩, Ext.refl _, rfl⟩
  · exact ⟨_, _, h2, h4, h3, by rw [Option.getD_some, h5]; omega⟩
def sh (a b : List Nat) : Nat := (a.find? fun x => decide (x ∈ b)).getD 0
theorem el_len (l : Ln) : l.el.length ≤ 3 := Nat.le_trans (List.length_filter_le _ _) (by simp)
theorem el_nz (l : Ln) : ∀ x ∈ l.el, x ≠ 0 := fun x hx => by
  unfold Ln.el nz at hx
  have := (List.mem_filter.1 hx).2
  simpa using this

theorem shared_run (hσ : ∀ f a h, f ≠ 20 → σ f a h = none) (h : H) (a b : Ln) : RetQ (u64 (sh a.el b.el)) ((lim Try.prog σ).call 51 [a.cv, b.cv] h) := by
  obtain ⟨Q, hQ⟩ : ∃ Q, Q = RetQ (u64 (sh a.el b.el)) := ⟨_, rfl⟩
  rw [← hQ]
  rw [call_eq (hσ _ _ _ (by decide)) fn_51 rfl rfl, Try.ntmps51, Try.results51]
  simp only [go_sem, Nat.reduceLT, Nat.reduceLeDiff, Nat.reduceEqDiff, Nat.reduceAdd, Nat.reduceSub, Nat.reduceMul, reduceCtorEq, Int.reduceBEq, Int.reduceLT, Int.reduceLE, Int.reduceAdd, Int.reduceSub, Int.reduceEq, Int.reduceNeg, Int.reduceToNat, Int.reduceGT, Int.reduceGE, Ln.cv_eq]
  obtain ⟨X, hX⟩ : ∃ X, X = (h.lo.alloc (.cells (newBlk [u64 a.c, u64 a.b, u64 a.h0, u64 a.h1]))).alloc (.cells (newBlk [u64 b.c, u64 b.b, u64 b.h0, u64 b.h1])) := ⟨_, rfl⟩
  have Xnx : X.nx = h.nx + 2 := by rw [hX]; rfl
  have Xlow : X.low = h.nx := by rw [hX]; rfl
  have XE : Ext h X := by rw [hX]; exact ((Ext.lo h).alloc' _).alloc' _
  have Xa : X.blk h.nx = some (newBlk [u64 a.c, u64 a.b, u64 a.h0, u64 a.h1]) := by rw [hX]; simp only [go_sem, Nat.reduceLT, Nat.reduceLeDiff, Nat.reduceEqDiff, Nat.reduceAdd, Nat.reduceSub, Nat.reduceMul, reduceCtorEq, Int.reduceBEq, Int.reduceLT, Int.reduceLE, Int.reduceAdd, Int.reduceSub, Int.reduceEq, Int.reduceNeg, Int.reduceToNat, Int.reduceGT, Int.reduceGE]
  obtain ⟨vb, xb, eb, Bb, Eb, lb⟩ := elder_c hσ (X := X) (by omega) b
  obtain ⟨Y, hY⟩ : ∃ Y, Y = xb.getD X := ⟨_, rfl⟩
  rw [← hY] at Bb Eb lb
  have Ya : Y.blk h.nx = some (newBlk [u64 a.c, u64 a.b, u64 a.h0, u64 a.h1]) := (Eb.blk (by omega)).trans Xa
  obtain ⟨va, xa, ea, Ba, Ea, la⟩ := elder_c hσ (X := Y) (by have := Eb.nx; omega) a
  obtain ⟨Z, hZ⟩ : ∃ Z, Z = xa.getD Y := ⟨_, rfl⟩
  rw [← hZ] at Ba Ea la
  have eb' : (lim Try.prog σ).call 25 [.agg [u64 b.c, u64 b.b, u64 b.h0, u64 b.h1]] X = some (vb, xb) := eb
  have ea' : (lim Try.prog σ).call 25 [.agg [u64 a.c, u64 a.b, u64 a.h0, u64 a.h1]] Y = some (va, xa) := ea
  simp only [go_sem, Nat.reduceLT, Nat.reduceLeDiff, Nat.reduceEqDiff, Nat.reduceAdd, Nat.reduceSub, Nat.reduceMul, reduceCtorEq, Int.reduceBEq, Int.reduceLT, Int.reduceLE, Int.reduceAdd, Int.reduceSub, Int.reduceEq, Int.reduceNeg, Int.reduceToNat, Int.reduceGT, Int.reduceGE, ← hX, eb', ← hY, Ya, ea', ← hZ, Ba.len]
  have Bb' := Bb.ext Ea
  have hlen := el_len a
  have hlenb := el_len b
  refine loop_ind (Q := Q) (fun i env h' => h' = Z ∧ evT env 5 = vb ∧ evT env 11 = va ∧ evT env 12 = .int .i64 (Int.ofNat a.el.length) ∧ evT env 13 = .int .i64 (Int.ofNat i) ∧ ∀ x ∈ a.el.take i, x ∉ b.el) a.el.length 0 ?_ (Nat.zero_le _) ?_ ?_
  · exact ⟨by rw [hZ, hY, hX]; rfl, by simp only [go_sem, Nat.reduceLT, Nat.reduceLeDiff, Nat.reduceEqDiff, Nat.reduceAdd, Nat.reduceSub, Nat.reduceMul, reduceCtorEq, Int.reduceBEq, Int.reduceLT, Int.reduceLE, Int.reduceAdd, Int.reduceSub, Int.reduceEq, Int.reduceNeg, Int.reduceToNat, Int.reduceGT, Int.reduceGE], by simp only [go_sem, Nat.reduceLT, Nat.reduceLeDiff, Nat.reduceEqDiff, Nat.reduceAdd, Nat.reduceSub, Nat.reduceMul, reduceCtorEq, Int.reduceBEq, Int.reduceLT, Int.reduceLE, Int.reduceAdd, Int.reduceSub, Int.reduceEq, Int.reduceNeg, Int.reduceToNat, Int.reduceGT, Int.reduceGE], by simp only [go_sem, Nat.reduceLT, Nat.reduceLeDiff, Nat.reduceEqDiff, Nat.reduceAdd, Nat.reduceSub, Nat.reduceMul, reduceCtorEq, Int.reduceBEq, Int.reduceLT, Int.reduceLE, Int.reduceAdd, Int.reduceSub, Int.reduceEq, Int.reduceNeg, Int.reduceToNat, Int.reduceGT, Int.reduceGE], by simp only [go_sem, Nat.reduceLT, Nat.reduceLeDiff, Nat.reduceEqDiff, Nat.reduceAdd, Nat.reduceSub, Nat.reduceMul, reduceCtorEq, Int.reduceBEq, Int.reduceLT, Int.reduceLE, Int.reduceAdd, Int.reduceSub, Int.reduceEq, Int.reduceNeg, Int.reduceToNat, Int.reduceGT, Int.reduceGE]; rfl, by simp⟩
  · rintro i env h' ⟨rfl, e5, e11, e12, e13, hx⟩ hi next
    have c0 := ofNat_lt hi
    obtain ⟨y, hy⟩ : ∃ y, a.el[i]? = some y := ⟨_, List.getElem?_eq_getElem hi⟩
    obtain ⟨id, bb, ei, _, hb, hg⟩ := Ba.at_ hy
    have w1 := wrap_succ (i := i) (by omega)
    have ec : (lim Try.prog σ).call 50 [vb, u64 y] h' = some (.bool (decide (y ∈ b.el)), none) := contains_run hσ Bb' (by omega) y
    by_cases q : y ∈ b.el
    · simp only [go_sem, Nat.reduceLT, Nat.reduceLeDiff, Nat.reduceEqDiff, Nat.reduceAdd, Nat.reduceSub, Nat.reduceMul, reduceCtorEq, Int.reduceBEq, Int.reduceLT, Int.reduceLE, Int.reduceAdd, Int.reduceSub, Int.reduceEq, Int.reduceNeg, Int.reduceToNat, Int.reduceGT, Int.reduceGE, e5, e11, e12, e13, c0, ei, hb, hg, ec, q]
      rw [hQ, fin_q _ _ _ (by omega) rfl]
      show some (u64 y, none) = some (u64 (sh a.el b.el), none)
      congr 3
      unfold sh
      have : a.el.find? (fun x => decide (x ∈ b.el)) = some y := by
        rw [List.find?_eq_some_iff_append]
        refine ⟨by simpa using q, a.el.take i, a.el.drop (i + 1), ?_, fun x hx' => by simpa using hx x hx'⟩
        have : a.el.drop i = y :: a.el.drop (i + 1) := by
          rw [List.drop_eq_getElem_cons hi]; congr 1
          exact (List.getElem?_eq_some_iff.1 hy).2
        rw [← this, List.take_append_drop]
      rw [this]; rfl
    · simp only [go_sem, Nat.reduceLT, Nat.reduceLeDiff, Nat.reduceEqDiff, Nat.reduceAdd, Nat.reduceSub, Nat.reduceMul, reduceCtorEq, Int.reduceBEq, Int.reduceLT, Int.reduceLE, Int.reduceAdd, Int.reduceSub, Int.reduceEq, Int.reduceNeg, Int.reduceToNat, Int.reduceGT, Int.reduceGE, e5, e11, e12, e13, c0, ei, hb, hg, ec, q, w1]
      refine next _ _ ⟨rfl, by simp only [go_sem, Nat.reduceLT, Nat.reduceLeDiff, Nat.reduceEqDiff, Nat.reduceAdd, Nat.reduceSub, Nat.reduceMul, reduceCtorEq, Int.reduceBEq, Int.reduceLT, Int.reduceLE, Int.reduceAdd, Int.reduceSub, Int.reduceEq, Int.reduceNeg, Int.reduceToNat, Int.reduceGT, Int.reduceGE, e5], by simp only [go_sem, Nat.reduceLT, Nat.reduceLeDiff, Nat.reduceEqDiff, Nat.reduceAdd, Nat.reduceSub, Nat.reduceMul, reduceCtorEq, Int.reduceBEq, Int.reduceLT, Int.reduceLE, Int.reduceAdd, Int.reduceSub, Int.reduceEq, Int.reduceNeg, Int.reduceToNat, Int.reduceGT, Int.reduceGE, e11], by simp only [go_sem, Nat.reduceLT, Nat.reduceLeDiff, Nat.reduceEqDiff, Nat.reduceAdd, Nat.reduceSub, Nat.reduceMul, reduceCtorEq, Int.reduceBEq, Int.reduceLT, Int.reduceLE, Int.reduceAdd, Int.reduceSub, Int.reduceEq, Int.reduceNeg, Int.reduceToNat, Int.reduceGT, Int.reduceGE, e12], by simp only [go_sem, Nat.reduceLT, Nat.reduceLeDiff, Nat.reduceEqDiff, Nat.reduceAdd, Nat.reduceSub, Nat.reduceMul, reduceCtorEq, Int.reduceBEq, Int.reduceLT, Int.reduceLE, Int.reduceAdd, Int.reduceSub, Int.reduceEq, Int.reduceNeg, Int.reduceToNat, Int.reduceGT, Int.reduceGE], fun x hx' => ?_⟩
      rw [List.take_succ, hy] at hx'
      rcases List.mem_append.1 hx' with h1 | h1
      · exact hx x h1
      · simp at h1; rw [h1]; exact q
  · rintro env h' ⟨rfl, e5, e11, e12, e13, hx⟩
    have c0 := ofNat_nlt (Nat.le_refl a.el.length)
    simp only [go_sem, Nat.reduceLT, Nat.reduceLeDiff, Nat.reduceEqDiff, Nat.reduceAdd, Nat.reduceSub, Nat.reduceMul, reduceCtorEq, Int.reduceBEq, Int.reduceLT, Int.reduceLE, Int.reduceAdd, Int.reduceSub, Int.reduceEq, Int.reduceNeg, Int.reduceToNat, Int.reduceGT, Int.reduceGE, e5, e11, e12, e13, c0]
    rw [List.take_length] at hx
    have : a.el.find? (fun x => decide (x ∈ b.el)) = none := by
      rw [List.find?_eq_none]; intro x hx'; simpa using hx x hx'
    rw [hQ, fin_q _ _ _ (by omega) rfl]
    unfold sh
    rw [this]; rfl

/-- what two lines say that are not blank -/
def cmpV (a b : Ln) : Nat := if a.c = b.c then 4 else if a.c ∈ b.el then 5 else if b.c ∈ a.el then 6 else if sh a.el b.el ≠ 0 then 7 else 8
theorem compare_run (hσ : ∀ f a h, f ≠ 20 → σ f a h = none) (h : H) (a b : Ln) (ha : a.c ≠ 0) (hb : b.c ≠ 0) : RetQ (.int .i64 (Int.ofNat (cmpV a b))) ((lim Try.prog σ).call 23 [a.cv, b.cv] h) := by
  obtain ⟨Q, hQ⟩ : ∃ Q, Q = RetQ (.int .i64 (Int.ofNat (cmpV a b))) := ⟨_, rfl⟩
  rw [← hQ]
  rw [call_eq (hσ _ _ _ (by decide)) fn_23 rfl rfl, Try.ntmps23, Try.results23]
  obtain ⟨X, hX⟩ : ∃ X, X = (h.lo.alloc (.cells (newBlk [u64 a.c, u64 a.b, u64 a.h0, u64 a.h1]))).alloc (.cells (newBlk [u64 b.c, u64 b.b, u64 b.h0, u64 b.h1])) := ⟨_, rfl⟩
  have Xnx : X.nx = h.nx + 2 := by rw [hX]; rfl
  have Xlow : X.low = h.nx := by rw [hX]; rfl
  have Xa : X.blk h.nx = some (newBlk [u64 a.c, u64 a.b, u64 a.h0, u64 a.h1]) := by rw [hX]; simp only [go_sem, Nat.reduceLT, Nat.reduceLeDiff, Nat.reduceEqDiff, Nat.reduceAdd, Nat.reduceSub, Nat.reduceMul, reduceCtorEq, Int.reduceBEq, Int.reduceLT, Int.reduceLE, Int.reduceAdd, Int.reduceSub, Int.reduceEq, Int.reduceNeg, Int.reduceToNat, Int.reduceGT, Int.reduceGE]
  have Xb : X.blk (h.nx + 1) = some (newBlk [u64 b.c, u64 b.b, u64 b.h0, u64 b.h1]) := by rw [hX]; simp only [go_sem, Nat.reduceLT, Nat.reduceLeDiff, Nat.reduceEqDiff, Nat.reduceAdd, Nat.reduceSub, Nat.reduceMul, reduceCtorEq, Int.reduceBEq, Int.reduceLT, Int.reduceLE, Int.reduceAdd, Int.reduceSub, Int.reduceEq, Int.reduceNeg, Int.reduceToNat, Int.reduceGT, Int.reduceGE]
  have b1 : ∀ Y, (lim Try.prog σ).call 49 [.agg [u64 a.c, u64 a.b, u64 a.h0, u64 a.h1]] Y = some (.bool false, none) := fun Y => by
    have : _ = _ := blank_run hσ Y a
    rw [decide_eq_false ha] at this; exact this
  have b2 : ∀ Y, (lim Try.prog σ).call 49 [.agg [u64 b.c, u64 b.b, u64 b.h0, u64 b.h1]] Y = some (.bool false, none) := fun Y => by
    have : _ = _ := blank_run hσ Y b
    rw [decide_eq_false hb] at this; exact this
  have sr : ∀ Y, (lim Try.prog σ).call 51 [.agg [u64 a.c, u64 a.b, u64 a.h0, u64 a.h1], .agg [u64 b.c, u64 b.b, u64 b.h0, u64 b.h1]] Y = some (u64 (sh a.el b.el), none) := fun Y => shared_run hσ Y a b
  have l0 : CV.int .u64 0 = u64 0 := rfl
  have hla := el_len a
  have hlb := el_len b
  simp only [go_sem, Nat.reduceLT, Nat.reduceLeDiff, Nat.reduceEqDiff, Nat.reduceAdd, Nat.reduceSub, Nat.reduceMul, reduceCtorEq, Int.reduceBEq, Int.reduceLT, Int.reduceLE, Int.reduceAdd, Int.reduceSub, Int.reduceEq, Int.reduceNeg, Int.reduceToNat, Int.reduceGT, Int.reduceGE, Ln.cv_eq, ← hX, Xa, Xb, b1, b2, eq64]
  have fin : ∀ (Y : H) (k : Nat), Y.low = h.nx → cmpV a b = k → Q (some (fin h Y (.int .i64 (Int.ofNat k)))) := fun Y k hl hk => by
    rw [hQ, fin_q _ _ _ hl rfl, hk]; rfl
  by_cases q1 : a.c = b.c
  · have d1 : decide (a.c = b.c) = true := decide_eq_true q1
    simp only [go_sem, Nat.reduceLT, Nat.reduceLeDiff, Nat.reduceEqDiff, Nat.reduceAdd, Nat.reduceSub, Nat.reduceMul, reduceCtorEq, Int.reduceBEq, Int.reduceLT, Int.reduceLE, Int.reduceAdd, Int.reduceSub, Int.reduceEq, Int.reduceNeg, Int.reduceToNat, Int.reduceGT, Int.reduceGE, ← hX, Xa, Xb, b1, b2, eq64, d1]
    exact fin X 4 (by omega) (by unfold cmpV; rw [if_pos q1])
  have d1 : decide (a.c = b.c) = false := decide_eq_false q1
  simp only [go_sem, Nat.reduceLT, Nat.reduceLeDiff, Nat.reduceEqDiff, Nat.reduceAdd, Nat.reduceSub, Nat.reduceMul, reduceCtorEq, Int.reduceBEq, Int.reduceLT, Int.reduceLE, Int.reduceAdd, Int.reduceSub, Int.reduceEq, Int.reduceNeg, Int.reduceToNat, Int.reduceGT, Int.reduceGE, ← hX, Xa, Xb, b1, b2, eq64, d1]
  refine cnd_go (Q := Q) (by kernel_rfl) ?_
  have hab : X.nx ≤ X.nx := Nat.le_refl _
  obtain ⟨vb, xb, eb, Bb, Eb, lb⟩ := elder_c hσ (X := X) (by omega) b
  obtain ⟨Y, hY⟩ : ∃ Y, Y = xb.getD X := ⟨_, rfl⟩
  rw [← hY] at Bb Eb lb
  have eb' : (lim Try.prog σ).call 25 [.agg [u64 b.c, u64 b.b, u64 b.h0, u64 b.h1]] X = some (vb, xb) := eb
  have hc1 : (lim Try.prog σ).call 50 [vb, u64 a.c] Y = some (.bool (decide (a.c ∈ b.el)), none) := contains_run hσ Bb (by omega) a.c
  have Ya : Y.blk h.nx = some (newBlk [u64 a.c, u64 a.b, u64 a.h0, u64 a.h1]) := (Eb.blk (by omega)).trans Xa
  have Yb : Y.blk (h.nx + 1) = some (newBlk [u64 b.c, u64 b.b, u64 b.h0, u64 b.h1]) := (Eb.blk (by omega)).trans Xb
  rcases xb with _ | Y'
  · have hXY : Y = X := hY
    subst hXY
    simp only [go_sem, Nat.reduceLT, Nat.reduceLeDiff, Nat.reduceEqDiff, Nat.reduceAdd, Nat.reduceSub, Nat.reduceMul, reduceCtorEq, Int.reduceBEq, Int.reduceLT, Int.reduceLE, Int.reduceAdd, Int.reduceSub, Int.reduceEq, Int.reduceNeg, Int.reduceToNat, Int.reduceGT, Int.reduceGE, ← hX, Xa, Xb, eb', hc1]
    by_cases q2 : a.c ∈ b.el
    · have d2 : decide (a.c ∈ b.el) = true := decide_eq_true q2
      simp only [go_sem, Nat.reduceLT, Nat.reduceLeDiff, Nat.reduceEqDiff, Nat.reduceAdd, Nat.reduceSub, Nat.reduceMul, reduceCtorEq, Int.reduceBEq, Int.reduceLT, Int.reduceLE, Int.reduceAdd, Int.reduceSub, Int.reduceEq, Int.reduceNeg, Int.reduceToNat, Int.reduceGT, Int.reduceGE, ← hX, Xa, Xb, eb', hc1, d2]
      exact fin _ 5 (by omega) (by unfold cmpV; rw [if_neg q1, if_pos q2])
    have d2 : decide (a.c ∈ b.el) = false := decide_eq_false q2
    simp only [go_sem, Nat.reduceLT, Nat.reduceLeDiff, Nat.reduceEqDiff, Nat.reduceAdd, Nat.reduceSub, Nat.reduceMul, reduceCtorEq, Int.reduceBEq, Int.reduceLT, Int.reduceLE, Int.reduceAdd, Int.reduceSub, Int.reduceEq, Int.reduceNeg, Int.reduceToNat, Int.reduceGT, Int.reduceGE, ← hX, Xa, Xb, eb', hc1, d2]
    refine cnd_go (Q := Q) (by kernel_rfl) ?_
    obtain ⟨va, xa, ea, Ba, Ea, la⟩ := elder_c hσ (X := Y) (by have := Eb.nx; omega) a
    obtain ⟨Z, hZ⟩ : ∃ Z, Z = xa.getD Y := ⟨_, rfl⟩
    rw [← hZ] at Ba Ea la
    have ea' : (lim Try.prog σ).call 25 [.agg [u64 a.c, u64 a.b, u64 a.h0, u64 a.h1]] Y = some (va, xa) := ea
    have hc2 : (lim Try.prog σ).call 50 [va, u64 b.c] Z = some (.bool (decide (b.c ∈ a.el)), none) := contains_run hσ Ba (by omega) b.c
    have Za : Z.blk h.nx = some (newBlk [u64 a.c, u64 a.b, u64 a.h0, u64 a.h1]) := (Ea.blk (by have := Eb.nx; omega)).trans Ya
    have Zb : Z.blk (h.nx + 1) = some (newBlk [u64 b.c, u64 b.b, u64 b.h0, u64 b.h1]) := (Ea.blk (by have := Eb.nx; omega)).trans Yb
    rcases xa with _ | Z'
    · have hZW : Z = Y := hZ
      subst hZW
      simp only [go_sem, Nat.reduceLT, Nat.reduceLeDiff, Nat.reduceEqDiff, Nat.reduceAdd, Nat.reduceSub, Nat.reduceMul, reduceCtorEq, Int.reduceBEq, Int.reduceLT, Int.reduceLE, Int.reduceAdd, Int.reduceSub, Int.reduceEq, Int.reduceNeg, Int.reduceToNat, Int.reduceGT, Int.reduceGE, ← hX, Ya, Yb, ea', hc2]
      by_cases q3 : b.c ∈ a.el
      · have d3 : decide (b.c ∈ a.el) = true := decide_eq_true q3
        simp only [go_sem, Nat.reduceLT, Nat.reduceLeDiff, Nat.reduceEqDiff, Nat.reduceAdd, Nat.reduceSub, Nat.reduceMul, reduceCtorEq, Int.reduceBEq, Int.reduceLT, Int.reduceLE, Int.reduceAdd, Int.reduceSub, Int.reduceEq, Int.reduceNeg, Int.reduceToNat, Int.reduceGT, Int.reduceGE, ← hX, Za, Zb, ea', hc2, d3]
        exact fin _ 6 (by omega) (by unfold cmpV; rw [if_neg q1, if_neg q2, if_pos q3])
      have d3 : decide (b.c ∈ a.el) = false := decide_eq_false q3
      simp only [go_sem, Nat.reduceLT, Nat.reduceLeDiff, Nat.reduceEqDiff, Nat.reduceAdd, Nat.reduceSub, Nat.reduceMul, reduceCtorEq, Int.reduceBEq, Int.reduceLT, Int.reduceLE, Int.reduceAdd, Int.reduceSub, Int.reduceEq, Int.reduceNeg, Int.reduceToNat, Int.reduceGT, Int.reduceGE, ← hX, Za, Zb, ea', hc2, d3, sr, l0, ne64, eq64]
      by_cases q4 : sh a.el b.el = 0
      · simp only [go_sem, Nat.reduceLT, Nat.reduceLeDiff, Nat.reduceEqDiff, Nat.reduceAdd, Nat.reduceSub, Nat.reduceMul, reduceCtorEq, Int.reduceBEq, Int.reduceLT, Int.reduceLE, Int.reduceAdd, Int.reduceSub, Int.reduceEq, Int.reduceNeg, Int.reduceToNat, Int.reduceGT, Int.reduceGE, ← hX, Za, Zb, sr, l0, ne64, eq64, q4]
        exact fin _ 8 (by omega) (by unfold cmpV; rw [if_neg q1, if_neg q2, if_neg q3, if_neg (by simpa using q4)])
      · simp only [go_sem, Nat.reduceLT, Nat.reduceLeDiff, Nat.reduceEqDiff, Nat.reduceAdd, Nat.reduceSub, Nat.reduceMul, reduceCtorEq, Int.reduceBEq, Int.reduceLT, Int.reduceLE, Int.reduceAdd, Int.reduceSub, Int.reduceEq, Int.reduceNeg, Int.reduceToNat, Int.reduceGT, Int.reduceGE, ← hX, Za, Zb, sr, l0, ne64, eq64, q4]
        exact fin _ 7 (by omega) (by unfold cmpV; rw [if_neg q1, if_neg q2, if_neg q3, if_pos q4])
    · have hZW : Z = Z' := hZ
      subst hZW
      simp only [go_sem, Nat.reduceLT, Nat.reduceLeDiff, Nat.reduceEqDiff, Nat.reduceAdd, Nat.reduceSub, Nat.reduceMul, reduceCtorEq, Int.reduceBEq, Int.reduceLT, Int.reduceLE, Int.reduceAdd, Int.reduceSub, Int.reduceEq, Int.reduceNeg, Int.reduceToNat, Int.reduceGT, Int.reduceGE, ← hX, Ya, Yb, Za, Zb, ea', hc2]
      refine cnd_go (Q := Q) (by kernel_rfl) ?_
      simp only [go_sem, Nat.reduceLT, Nat.reduceLeDiff, Nat.reduceEqDiff, Nat.reduceAdd, Nat.reduceSub, Nat.reduceMul, reduceCtorEq, Int.reduceBEq, Int.reduceLT, Int.reduceLE, Int.reduceAdd, Int.reduceSub, Int.reduceEq, Int.reduceNeg, Int.reduceToNat, Int.reduceGT, Int.reduceGE, ← hX, Ya, Yb, Za, Zb, ea', hc2]
      rw [cond_al (i := 4) (d := [])]
      rotate_left
      · kernel_rfl
      simp only [go_sem, Nat.reduceLT, Nat.reduceLeDiff, Nat.reduceEqDiff, Nat.reduceAdd, Nat.reduceSub, Nat.reduceMul, reduceCtorEq, Int.reduceBEq, Int.reduceLT, Int.reduceLE, Int.reduceAdd, Int.reduceSub, Int.reduceEq, Int.reduceNeg, Int.reduceToNat, Int.reduceGT, Int.reduceGE, ← hX, Ya, Yb, Za, Zb, ea', hc2]
      rw [cond_al (i := 0) (d := [1])]
      rotate_left
      · kernel_rfl
      simp only [go_sem, Nat.reduceLT, Nat.reduceLeDiff, Nat.reduceEqDiff, Nat.reduceAdd, Nat.reduceSub, Nat.reduceMul, reduceCtorEq, Int.reduceBEq, Int.reduceLT, Int.reduceLE, Int.reduceAdd, Int.reduceSub, Int.reduceEq, Int.reduceNeg, Int.reduceToNat, Int.reduceGT, Int.reduceGE, ← hX, Ya, Yb, Za, Zb, ea', hc2]
      by_cases q3 : b.c ∈ a.el
      · have d3 : decide (b.c ∈ a.el) = true := decide_eq_true q3
        simp only [go_sem, Nat.reduceLT, Nat.reduceLeDiff, Nat.reduceEqDiff, Nat.reduceAdd, Nat.reduceSub, Nat.reduceMul, reduceCtorEq, Int.reduceBEq, Int.reduceLT, Int.reduceLE, Int.reduceAdd, Int.reduceSub, Int.reduceEq, Int.reduceNeg, Int.reduceToNat, Int.reduceGT, Int.reduceGE, ← hX, Za, Zb, ea', hc2, d3]
        exact fin _ 6 (by omega) (by unfold cmpV; rw [if_neg q1, if_neg q2, if_pos q3])
      have d3 : decide (b.c ∈ a.el) = false := decide_eq_false q3
      simp only [go_sem, Nat.reduceLT, Nat.reduceLeDiff, Nat.reduceEqDiff, Nat.reduceAdd, Nat.reduceSub, Nat.reduceMul, reduceCtorEq, Int.reduceBEq, Int.reduceLT, Int.reduceLE, Int.reduceAdd, Int.reduceSub, Int.reduceEq, Int.reduceNeg, Int.reduceToNat, Int.reduceGT, Int.reduceGE, ← hX, Za, Zb, ea', hc2, d3, sr, l0, ne64, eq64]
      by_cases q4 : sh a.el b.el = 0
      · simp only [go_sem, Nat.reduceLT, Nat.reduceLeDiff, Nat.reduceEqDiff, Nat.reduceAdd, Nat.reduceSub, Nat.reduceMul, reduceCtorEq, Int.reduceBEq, Int.reduceLT, Int.reduceLE, Int.reduceAdd, Int.reduceSub, Int.reduceEq, Int.reduceNeg, Int.reduceToNat, Int.reduceGT, Int.reduceGE, ← hX, Za, Zb, sr, l0, ne64, eq64, q4]
        exact fin _ 8 (by omega) (by unfold cmpV; rw [if_neg q1, if_neg q2, if_neg q3, if_neg (by simpa using q4)])
      · simp only [go_sem, Nat.reduceLT, Nat.reduceLeDiff, Nat.reduceEqDiff, Nat.reduceAdd, Nat.reduceSub, Nat.reduceMul, reduceCtorEq, Int.reduceBEq, Int.reduceLT, Int.reduceLE, Int.reduceAdd, Int.reduceSub, Int.reduceEq, Int.reduceNeg, Int.reduceToNat, Int.reduceGT, Int.reduceGE, ← hX, Za, Zb, sr, l0, ne64, eq64, q4]
        exact fin _ 7 (by omega) (by unfold cmpV; rw [if_neg q1, if_neg q2, if_neg q3, if_pos q4])
  · have hXY : Y = Y' := hY
    subst hXY
    simp only [go_sem, Nat.reduceLT, Nat.reduceLeDiff, Nat.reduceEqDiff, Nat.reduceAdd, Nat.reduceSub, Nat.reduceMul, reduceCtorEq, Int.reduceBEq, Int.reduceLT, Int.reduceLE, Int.reduceAdd, Int.reduceSub, Int.reduceEq, Int.reduceNeg, Int.reduceToNat, Int.reduceGT, Int.reduceGE, ← hX, Xa, Xb, Ya, Yb, eb', hc1]
    refine cnd_go (Q := Q) (by kernel_rfl) ?_
    simp only [go_sem, Nat.reduceLT, Nat.reduceLeDiff, Nat.reduceEqDiff, Nat.reduceAdd, Nat.reduceSub, Nat.reduceMul, reduceCtorEq, Int.reduceBEq, Int.reduceLT, Int.reduceLE, Int.reduceAdd, Int.reduceSub, Int.reduceEq, Int.reduceNeg, Int.reduceToNat, Int.reduceGT, Int.reduceGE, ← hX, Xa, Xb, Ya, Yb, eb', hc1]
    rw [cond_al (i := 4) (d := [])]
    rotate_left
    · kernel_rfl
    simp only [go_sem, Nat.reduceLT, Nat.reduceLeDiff, Nat.reduceEqDiff, Nat.reduceAdd, Nat.reduceSub, Nat.reduceMul, reduceCtorEq, Int.reduceBEq, Int.reduceLT, Int.reduceLE, Int.reduceAdd, Int.reduceSub, Int.reduceEq, Int.reduceNeg, Int.reduceToNat, Int.reduceGT, Int.reduceGE, ← hX, Xa, Xb, Ya, Yb, eb', hc1]
    rw [cond_al (i := 0) (d := [1])]
    rotate_left
    · kernel_rfl
    simp only [go_sem, Nat.reduceLT, Nat.reduceLeDiff, Nat.reduceEqDiff, Nat.reduceAdd, Nat.reduceSub, Nat.reduceMul, reduceCtorEq, Int.reduceBEq, Int.reduceLT, Int.reduceLE, Int.reduceAdd, Int.reduceSub, Int.reduceEq, Int.reduceNeg, Int.reduceToNat, Int.reduceGT, Int.reduceGE, ← hX, Xa, Xb, Ya, Yb, eb', hc1]
    by_cases q2 : a.c ∈ b.el
    · have d2 : decide (a.c ∈ b.el) = true := decide_eq_true q2
      simp only [go_sem, Nat.reduceLT, Nat.reduceLeDiff, Nat.reduceEqDiff, Nat.reduceAdd, Nat.reduceSub, Nat.reduceMul, reduceCtorEq, Int.reduceBEq, Int.reduceLT, Int.reduceLE, Int.reduceAdd, Int.reduceSub, Int.reduceEq, Int.reduceNeg, Int.reduceToNat, Int.reduceGT, Int.reduceGE, ← hX, Xa, Xb, eb', hc1, d2]
      exact fin _ 5 (by omega) (by unfold cmpV; rw [if_neg q1, if_pos q2])
    have d2 : decide (a.c ∈ b.el) = false := decide_eq_false q2
    simp only [go_sem, Nat.reduceLT, Nat.reduceLeDiff, Nat.reduceEqDiff, Nat.reduceAdd, Nat.reduceSub, Nat.reduceMul, reduceCtorEq, Int.reduceBEq, Int.reduceLT, Int.reduceLE, Int.reduceAdd, Int.reduceSub, Int.reduceEq, Int.reduceNeg, Int.reduceToNat, Int.reduceGT, Int.reduceGE, ← hX, Xa, Xb, Ya, Yb, eb', hc1, d2]
    refine cnd_go (Q := Q) (by kernel_rfl) ?_
    obtain ⟨va, xa, ea, Ba, Ea, la⟩ := elder_c hσ (X := Y) (by have := Eb.nx; omega) a
    obtain ⟨Z, hZ⟩ : ∃ Z, Z = xa.getD Y := ⟨_, rfl⟩
    rw [← hZ] at Ba Ea la
    have ea' : (lim Try.prog σ).call 25 [.agg [u64 a.c, u64 a.b, u64 a.h0, u64 a.h1]] Y = some (va, xa) := ea
    have hc2 : (lim Try.prog σ).call 50 [va, u64 b.c] Z = some (.bool (decide (b.c ∈ a.el)), none) := contains_run hσ Ba (by omega) b.c
    have Za : Z.blk h.nx = some (newBlk [u64 a.c, u64 a.b, u64 a.h0, u64 a.h1]) := (Ea.blk (by have := Eb.nx; omega)).trans Ya
    have Zb : Z.blk (h.nx + 1) = some (newBlk [u64 b.c, u64 b.b, u64 b.h0, u64 b.h1]) := (Ea.blk (by have := Eb.nx; omega)).trans Yb
    rcases xa with _ | Z'
    · have hZW : Z = Y := hZ
      subst hZW
      simp only [go_sem, Nat.reduceLT, Nat.reduceLeDiff, Nat.reduceEqDiff, Nat.reduceAdd, Nat.reduceSub, Nat.reduceMul, reduceCtorEq, Int.reduceBEq, Int.reduceLT, Int.reduceLE, Int.reduceAdd, Int.reduceSub, Int.reduceEq, Int.reduceNeg, Int.reduceToNat, Int.reduceGT, Int.reduceGE, ← hX, Ya, Yb, ea', hc2]
      by_cases q3 : b.c ∈ a.el
      · have d3 : decide (b.c ∈ a.el) = true := decide_eq_true q3
        simp only [go_sem, Nat.reduceLT, Nat.reduceLeDiff, Nat.reduceEqDiff, Nat.reduceAdd, Nat.reduceSub, Nat.reduceMul, reduceCtorEq, Int.reduceBEq, Int.reduceLT, Int.reduceLE, Int.reduceAdd, Int.reduceSub, Int.reduceEq, Int.reduceNeg, Int.reduceToNat, Int.reduceGT, Int.reduceGE, ← hX, Za, Zb, ea', hc2, d3]
        exact fin _ 6 (by omega) (by unfold cmpV; rw [if_neg q1, if_neg q2, if_pos q3])
      have d3 : decide (b.c ∈ a.el) = false := decide_eq_false q3
      simp only [go_sem, Nat.reduceLT, Nat.reduceLeDiff, Nat.reduceEqDiff, Nat.reduceAdd, Nat.reduceSub, Nat.reduceMul, reduceCtorEq, Int.reduceBEq, Int.reduceLT, Int.reduceLE, Int.reduceAdd, Int.reduceSub, Int.reduceEq, Int.reduceNeg, Int.reduceToNat, Int.reduceGT, Int.reduceGE, ← hX, Za, Zb, ea', hc2, d3, sr, l0, ne64, eq64]
      by_cases q4 : sh a.el b.el = 0
      · simp only [go_sem, Nat.reduceLT, Nat.reduceLeDiff, Nat.reduceEqDiff, Nat.reduceAdd, Nat.reduceSub, Nat.reduceMul, reduceCtorEq, Int.reduceBEq, Int.reduceLT, Int.reduceLE, Int.reduceAdd, Int.reduceSub, Int.reduceEq, Int.reduceNeg, Int.reduceToNat, Int.reduceGT, Int.reduceGE, ← hX, Za, Zb, sr, l0, ne64, eq64, q4]
        exact fin _ 8 (by omega) (by unfold cmpV; rw [if_neg q1, if_neg q2, if_neg q3, if_neg (by simpa using q4)])
      · simp only [go_sem, Nat.reduceLT, Nat.reduceLeDiff, Nat.reduceEqDiff, Nat.reduceAdd, Nat.reduceSub, Nat.reduceMul, reduceCtorEq, Int.reduceBEq, Int.reduceLT, Int.reduceLE, Int.reduceAdd, Int.reduceSub, Int.reduceEq, Int.reduceNeg, Int.reduceToNat, Int.reduceGT, Int.reduceGE, ← hX, Za, Zb, sr, l0, ne64, eq64, q4]
        exact fin _ 7 (by omega) (by unfold cmpV; rw [if_neg q1, if_neg q2, if_neg q3, if_pos q4])
    · have hZW : Z = Z' := hZ
      subst hZW
      simp only [go_sem, Nat.reduceLT, Nat.reduceLeDiff, Nat.reduceEqDiff, Nat.reduceAdd, Nat.reduceSub, Nat.reduceMul, reduceCtorEq, Int.reduceBEq, Int.reduceLT, Int.reduceLE, Int.reduceAdd, Int.reduceSub, Int.reduceEq, Int.reduceNeg, Int.reduceToNat, Int.reduceGT, Int.reduceGE, ← hX, Ya, Yb, Za, Zb, ea', hc2]
      refine cnd_go (Q := Q) (by kernel_rfl) ?_
      simp only [go_sem, Nat.reduceLT, Nat.reduceLeDiff, Nat.reduceEqDiff, Nat.reduceAdd, Nat.reduceSub, Nat.reduceMul, reduceCtorEq, Int.reduceBEq, Int.reduceLT, Int.reduceLE, Int.reduceAdd, Int.reduceSub, Int.reduceEq, Int.reduceNeg, Int.reduceToNat, Int.reduceGT, Int.reduceGE, ← hX, Ya, Yb, Za, Zb, ea', hc2]
      rw [cond_al (i := 4) (d := [])]
      rotate_left
      · kernel_rfl
      simp only [go_sem, Nat.reduceLT, Nat.reduceLeDiff, Nat.reduceEqDiff, Nat.reduceAdd, Nat.reduceSub, Nat.reduceMul, reduceCtorEq, Int.reduceBEq, Int.reduceLT, Int.reduceLE, Int.reduceAdd, Int.reduceSub, Int.reduceEq, Int.reduceNeg, Int.reduceToNat, Int.reduceGT, Int.reduceGE, ← hX, Ya, Yb, Za, Zb, ea', hc2]
      rw [cond_al (i := 0) (d := [1])]
      rotate_left
      · kernel_rfl
      simp only [go_sem, Nat.reduceLT, Nat.reduceLeDiff, Nat.reduceEqDiff, Nat.reduceAdd, Nat.reduceSub, Nat.reduceMul, reduceCtorEq, Int.reduceBEq, Int.reduceLT, Int.reduceLE, Int.reduceAdd, Int.reduceSub, Int.reduceEq, Int.reduceNeg, Int.reduceToNat, Int.reduceGT, Int.reduceGE, ← hX, Ya, Yb, Za, Zb, ea', hc2]
      by_cases q3 : b.c ∈ a.el
      · have d3 : decide (b.c ∈ a.el) = true := decide_eq_true q3
        simp only [go_sem, Nat.reduceLT, Nat.reduceLeDiff, Nat.reduceEqDiff, Nat.reduceAdd, Nat.reduceSub, Nat.reduceMul, reduceCtorEq, Int.reduceBEq, Int.reduceLT, Int.reduceLE, Int.reduceAdd, Int.reduceSub, Int.reduceEq, Int.reduceNeg, Int.reduceToNat, Int.reduceGT, Int.reduceGE, ← hX, Za, Zb, ea', hc2, d3]
        exact fin _ 6 (by omega) (by unfold cmpV; rw [if_neg q1, if_neg q2, if_pos q3])
      have d3 : decide (b.c ∈ a.el) = false := decide_eq_false q3
      simp only [go_sem, Nat.reduceLT, Nat.reduceLeDiff, Nat.reduceEqDiff, Nat.reduceAdd, Nat.reduceSub, Nat.reduceMul, reduceCtorEq, Int.reduceBEq, Int.reduceLT, Int.reduceLE, Int.reduceAdd, Int.reduceSub, Int.reduceEq, Int.reduceNeg, Int.reduceToNat, Int.reduceGT, Int.reduceGE, ← hX, Za, Zb, ea', hc2, d3, sr, l0, ne64, eq64]
      by_cases q4 : sh a.el b.el = 0
      · simp only [go_sem, Nat.reduceLT, Nat.reduceLeDiff, Nat.reduceEqDiff, Nat.reduceAdd, Nat.reduceSub, Nat.reduceMul, reduceCtorEq, Int.reduceBEq, Int.reduceLT, Int.reduceLE, Int.reduceAdd, Int.reduceSub, Int.reduceEq, Int.reduceNeg, Int.reduceToNat, Int.reduceGT, Int.reduceGE, ← hX, Za, Zb, sr, l0, ne64, eq64, q4]
        exact fin _ 8 (by omega) (by unfold cmpV; rw [if_neg q1, if_neg q2, if_neg q3, if_neg (by simpa using q4)])
      · simp only [go_sem, Nat.reduceLT, Nat.reduceLeDiff, Nat.reduceEqDiff, Nat.reduceAdd, Nat.reduceSub, Nat.reduceMul, reduceCtorEq, Int.reduceBEq, Int.reduceLT, Int.reduceLE, Int.reduceAdd, Int.reduceSub, Int.reduceEq, Int.reduceNeg, Int.reduceToNat, Int.reduceGT, Int.reduceGE, ← hX, Za, Zb, sr, l0, ne64, eq64, q4]
        exact fin _ 7 (by omega) (by unfold cmpV; rw [if_neg q1, if_neg q2, if_neg q3, if_pos q4])
end Go.Cl.U

namespace Go.Cl.U
variable {σ : Sums}
set_option maxRecDepth 1000000

def alone (l : Ln) (d : Nat) : Ln := if l.b = 0 then ⟨d, l.c, l.h0, l.h1⟩ else l
def ended (l : Ln) : Ln := if l.b = 0 then l else ⟨l.c, 0, l.b, l.h0⟩
theorem alone_run (hσ : ∀ f a h, f ≠ 20 → σ f a h = none) (h : H) (l : Ln) (d : Nat) : RetQ (.tup [(alone l d).cv, .bool (decide (l.b = 0))]) ((lim Try.prog σ).call 21 [l.cv, u64 d] h) := by
  rw [call_eq (hσ _ _ _ (by decide)) fn_21 rfl rfl, Try.ntmps21, Try.results21]
  have l0 : CV.int .u64 0 = u64 0 := rfl
  by_cases q : l.b = 0
  · have d1 : decide (l.b = 0) = true := decide_eq_true q
    simp only [go_sem, Nat.reduceLT, Nat.reduceLeDiff, Nat.reduceEqDiff, Nat.reduceAdd, Nat.reduceSub, Nat.reduceMul, reduceCtorEq, Int.reduceBEq, Int.reduceLT, Int.reduceLE, Int.reduceAdd, Int.reduceSub, Int.reduceEq, Int.reduceNeg, Int.reduceToNat, Int.reduceGT, Int.reduceGE, Ln.cv_eq, l0, ne64, d1]
    exact congrArg some ((fin_q _ _ _ (by simp only [go_sem, Nat.reduceLT, Nat.reduceLeDiff, Nat.reduceEqDiff, Nat.reduceAdd, Nat.reduceSub, Nat.reduceMul, reduceCtorEq, Int.reduceBEq, Int.reduceLT, Int.reduceLE, Int.reduceAdd, Int.reduceSub, Int.reduceEq, Int.reduceNeg, Int.reduceToNat, Int.reduceGT, Int.reduceGE]; omega) rfl).trans (by rw [show alone l d = ⟨d, l.c, l.h0, l.h1⟩ from if_pos q]))
  · have d1 : decide (l.b = 0) = false := decide_eq_false q
    simp only [go_sem, Nat.reduceLT, Nat.reduceLeDiff, Nat.reduceEqDiff, Nat.reduceAdd, Nat.reduceSub, Nat.reduceMul, reduceCtorEq, Int.reduceBEq, Int.reduceLT, Int.reduceLE, Int.reduceAdd, Int.reduceSub, Int.reduceEq, Int.reduceNeg, Int.reduceToNat, Int.reduceGT, Int.reduceGE, Ln.cv_eq, l0, ne64, d1]
    exact congrArg some ((fin_q _ _ _ (by simp only [go_sem, Nat.reduceLT, Nat.reduceLeDiff, Nat.reduceEqDiff, Nat.reduceAdd, Nat.reduceSub, Nat.reduceMul, reduceCtorEq, Int.reduceBEq, Int.reduceLT, Int.reduceLE, Int.reduceAdd, Int.reduceSub, Int.reduceEq, Int.reduceNeg, Int.reduceToNat, Int.reduceGT, Int.reduceGE]; omega) rfl).trans (by rw [show alone l d = l from if_neg q]))
theorem ended_run (hσ : ∀ f a h, f ≠ 20 → σ f a h = none) (h : H) (l : Ln) : RetQ (ended l).cv ((lim Try.prog σ).call 22 [l.cv] h) := by
  rw [call_eq (hσ _ _ _ (by decide)) fn_22 rfl rfl, Try.ntmps22, Try.results22]
  have l0 : CV.int .u64 0 = u64 0 := rfl
  by_cases q : l.b = 0
  · have d1 : decide (l.b = 0) = true := decide_eq_true q
    simp only [go_sem, Nat.reduceLT, Nat.reduceLeDiff, Nat.reduceEqDiff, Nat.reduceAdd, Nat.reduceSub, Nat.reduceMul, reduceCtorEq, Int.reduceBEq, Int.reduceLT, Int.reduceLE, Int.reduceAdd, Int.reduceSub, Int.reduceEq, Int.reduceNeg, Int.reduceToNat, Int.reduceGT, Int.reduceGE, Ln.cv_eq, l0, ne64, hist0, hist1, d1]
    exact congrArg some ((fin_q _ _ _ (by simp only [go_sem, Nat.reduceLT, Nat.reduceLeDiff, Nat.reduceEqDiff, Nat.reduceAdd, Nat.reduceSub, Nat.reduceMul, reduceCtorEq, Int.reduceBEq, Int.reduceLT, Int.reduceLE, Int.reduceAdd, Int.reduceSub, Int.reduceEq, Int.reduceNeg, Int.reduceToNat, Int.reduceGT, Int.reduceGE]; omega) rfl).trans (by rw [show ended l = l from if_pos q]))
  · have d1 : decide (l.b = 0) = false := decide_eq_false q
    simp only [go_sem, Nat.reduceLT, Nat.reduceLeDiff, Nat.reduceEqDiff, Nat.reduceAdd, Nat.reduceSub, Nat.reduceMul, reduceCtorEq, Int.reduceBEq, Int.reduceLT, Int.reduceLE, Int.reduceAdd, Int.reduceSub, Int.reduceEq, Int.reduceNeg, Int.reduceToNat, Int.reduceGT, Int.reduceGE, Ln.cv_eq, l0, ne64, hist0, hist1, d1]
    exact congrArg some ((fin_q _ _ _ (by simp only [go_sem, Nat.reduceLT, Nat.reduceLeDiff, Nat.reduceEqDiff, Nat.reduceAdd, Nat.reduceSub, Nat.reduceMul, reduceCtorEq, Int.reduceBEq, Int.reduceLT, Int.reduceLE, Int.reduceAdd, Int.reduceSub, Int.reduceEq, Int.reduceNeg, Int.reduceToNat, Int.reduceGT, Int.reduceGE]; omega) rfl).trans (by rw [show ended l = ⟨l.c, 0, l.b, l.h0⟩ from if_neg q]))

/-- the tree's numbers -/
def iN (n : Nat) : CV := .int .i64 (Int.ofNat n)
def TL (h : H) (v : CV) (ts : List Nat) : Prop := ∃ id b c, v = .sl id 0 ts.length c ∧ id < h.nx ∧ h.blk id = some b ∧ ∀ i x, ts[i]? = some x → b.get i = some (iN x)
theorem TL.ext {h h' : H} {v : CV} {es : List Nat} (B : TL h v es) (e : Ext h h') : TL h' v es := by
  obtain ⟨id, b, c, h1, h2, h3, h4⟩ := B
  exact ⟨id, b, c, h1, Nat.lt_of_lt_of_le h2 e.nx, (e.blk h2).trans h3, h4⟩
theorem TL.len {h : H} {v : CV} {es : List Nat} (B : TL h v es) (h' : H) (ts : List TypeId) (az : List CV) : builtinT Try.prog h' .len (49 :: ts) (v :: az) = some (.val (.int .i64 (Int.ofNat es.length))) := by
  obtain ⟨id, b, c, rfl, _⟩ := B
  simp [builtinT, Try.underlying49, lenC]
theorem TL.at_ {h : H} {v : CV} {es : List Nat} (B : TL h v es) {i x : Nat} (hx : es[i]? = some x) : ∃ id b, (∀ kd, indexAddrT Try.prog 49 v (.int kd (Int.ofNat i)) = some (.ptr id i)) ∧ id < h.nx ∧ h.blk id = some b ∧ b.get i = some (.int .i64 (Int.ofNat x)) := by
  have hi := (List.getElem?_eq_some_iff.1 hx).1
  obtain ⟨id, b, c, rfl, h2, h3, h5⟩ := B
  exact ⟨id, b, fun kd => by rw [ia_49, blt_eq', decide_eq_true hi, cond_true, Nat.mul_one, Nat.zero_add], h2, h3, h5 i x hx⟩

/-- the k-th one above -/
def itr (t : List Nat) : Nat → Nat → Nat
  | 0, b => b
  | k+1, b => itr t k (t.getD b 0)
theorem itr_succ (t : List Nat) : ∀ (k b : Nat), itr t (k + 1) b = t.getD (itr t k b) 0
  | 0, _ => rfl
  | k+1, b => itr_succ t k (t.getD b 0)
def Tree (t : List Nat) : Prop := (∀ i, 0 < i → t.getD i 0 < i) ∧ t.getD 0 0 = 0
theorem Tree.itr_le {t : List Nat} (T : Tree t) : ∀ (k b : Nat), itr t k b ≤ b - k
  | 0, b => Nat.le_refl _
  | k+1, b => by
    have h1 := T.itr_le k (t.getD b 0)
    show itr t k (t.getD b 0) ≤ _
    rcases Nat.eq_zero_or_pos b with h | h
    · rw [h, T.2] at h1 ⊢; omega
    · have := T.1 b h; omega
theorem Tree.itr_le' {t : List Nat} (T : Tree t) (k b : Nat) : itr t k b ≤ b := Nat.le_trans (T.itr_le k b) (Nat.sub_le _ _)
theorem first0 (g : Nat → Nat) : ∀ n, g n = 0 → ∃ m, m ≤ n ∧ g m = 0 ∧ ∀ i, i < m → g i ≠ 0
  | 0, h => ⟨0, Nat.le_refl _, h, fun i hi => absurd hi (by omega)⟩
  | n+1, h => by
    rcases Nat.eq_zero_or_pos (g 0) with h0 | h0
    · exact ⟨0, by omega, h0, fun i hi => absurd hi (by omega)⟩
    · obtain ⟨m, h1, h2, h3⟩ := first0 (fun i => g (i + 1)) n h
      refine ⟨m + 1, by omega, h2, fun i hi => ?_⟩
      cases i with
      | zero => omega
      | succ i => exact h3 i (by omega)
def AbR (t : List Nat) (a b far : Nat) (up : Bool) : Prop := (up = true ∧ itr t far b = a) ∨ (up = false ∧ far = 0 ∧ ∀ k, itr t k b ≠ a)
theorem above_run (hσ : ∀ f a h, f ≠ 20 → σ f a h = none) {h : H} {v : CV} {t : List Nat} (B : TL h v t) (T : Tree t) (hl : t.length ≤ 1000) (a b : Nat) (ha : 0 < a) (hb : b < t.length) :
    ∃ far up, AbR t a b far up ∧ far ≤ b ∧ RetQ (.tup [.int .i64 (Int.ofNat far), .bool up]) ((lim Try.prog σ).call 24 [v, .int .i64 (Int.ofNat a), .int .i64 (Int.ofNat b)] h) := by
  obtain ⟨Q, hQ⟩ : ∃ Q : Option (CV × Option H) → Prop, Q = fun r => ∃ far up, AbR t a b far up ∧ far ≤ b ∧ RetQ (.tup [.int .i64 (Int.ofNat far), .bool up]) r := ⟨_, rfl⟩
  have goal : Q ((lim Try.prog σ).call 24 [v, .int .i64 (Int.ofNat a), .int .i64 (Int.ofNat b)] h) := ?_
  · rw [hQ] at goal; exact goal
  rw [call_eq (hσ _ _ _ (by decide)) fn_24 rfl rfl, Try.ntmps24, Try.results24]
  simp only [go_sem, Nat.reduceLT, Nat.reduceLeDiff, Nat.reduceEqDiff, Nat.reduceAdd, Nat.reduceSub, Nat.reduceMul, reduceCtorEq, Int.reduceBEq, Int.reduceLT, Int.reduceLE, Int.reduceAdd, Int.reduceSub, Int.reduceEq, Int.reduceNeg, Int.reduceToNat, Int.reduceGT, Int.reduceGE]
  obtain ⟨N, hN, hz, hnz⟩ := first0 (fun k => itr t k b) b (by have := T.itr_le b b; show itr t b b = 0; omega)
  refine loop_ind (Q := Q) (fun i env h' => h' = h.lo ∧ evT env 0 = v ∧ evT env 1 = .int .i64 (Int.ofNat a) ∧ evT env 2 = .int .i64 (Int.ofNat (itr t i b)) ∧ evT env 8 = .int .i64 (Int.ofNat i) ∧ ∀ k, k < i → itr t k b ≠ a) N 0 ?_ (Nat.zero_le _) ?_ ?_
  · exact ⟨rfl, by simp only [go_sem, Nat.reduceLT, Nat.reduceLeDiff, Nat.reduceEqDiff, Nat.reduceAdd, Nat.reduceSub, Nat.reduceMul, reduceCtorEq, Int.reduceBEq, Int.reduceLT, Int.reduceLE, Int.reduceAdd, Int.reduceSub, Int.reduceEq, Int.reduceNeg, Int.reduceToNat, Int.reduceGT, Int.reduceGE], by simp only [go_sem, Nat.reduceLT, Nat.reduceLeDiff, Nat.reduceEqDiff, Nat.reduceAdd, Nat.reduceSub, Nat.reduceMul, reduceCtorEq, Int.reduceBEq, Int.reduceLT, Int.reduceLE, Int.reduceAdd, Int.reduceSub, Int.reduceEq, Int.reduceNeg, Int.reduceToNat, Int.reduceGT, Int.reduceGE], by simp only [go_sem, Nat.reduceLT, Nat.reduceLeDiff, Nat.reduceEqDiff, Nat.reduceAdd, Nat.reduceSub, Nat.reduceMul, reduceCtorEq, Int.reduceBEq, Int.reduceLT, Int.reduceLE, Int.reduceAdd, Int.reduceSub, Int.reduceEq, Int.reduceNeg, Int.reduceToNat, Int.reduceGT, Int.reduceGE]; rfl, by simp only [go_sem, Nat.reduceLT, Nat.reduceLeDiff, Nat.reduceEqDiff, Nat.reduceAdd, Nat.reduceSub, Nat.reduceMul, reduceCtorEq, Int.reduceBEq, Int.reduceLT, Int.reduceLE, Int.reduceAdd, Int.reduceSub, Int.reduceEq, Int.reduceNeg, Int.reduceToNat, Int.reduceGT, Int.reduceGE]; rfl, fun k hk => absurd hk (by omega)⟩
  · rintro i env h' ⟨rfl, e0, e1, e2, e8, hx⟩ hi next
    have c0 : Int.ofNat (itr t i b) > 0 := by have := Nat.pos_of_ne_zero (hnz i hi); simp; exact this
    have hle := T.itr_le' i b
    obtain ⟨y, hy⟩ : ∃ y, t[itr t i b]? = some y := ⟨_, List.getElem?_eq_getElem (by omega)⟩
    obtain ⟨id, bb, ea, _, hb', hg⟩ := (B.ext (Ext.lo h)).at_ hy
    have w1 := wrap_succ (i := i) (by omega)
    have hy' : y = itr t (i + 1) b := by rw [itr_succ, List.getD_eq_getElem?_getD, hy]; rfl
    by_cases q : a = itr t i b
    · have q' : Int.ofNat a = Int.ofNat (itr t i b) := congrArg _ q
      simp only [go_sem, Nat.reduceLT, Nat.reduceLeDiff, Nat.reduceEqDiff, Nat.reduceAdd, Nat.reduceSub, Nat.reduceMul, reduceCtorEq, Int.reduceBEq, Int.reduceLT, Int.reduceLE, Int.reduceAdd, Int.reduceSub, Int.reduceEq, Int.reduceNeg, Int.reduceToNat, Int.reduceGT, Int.reduceGE, e0, e1, e2, e8, c0, q']
      rw [hQ]
      exact ⟨i, true, .inl ⟨rfl, q.symm⟩, by omega, congrArg some (fin_q _ _ _ rfl rfl)⟩
    · have q' : ¬ Int.ofNat a = Int.ofNat (itr t i b) := fun e => q (Int.ofNat.inj e)
      simp only [go_sem, Nat.reduceLT, Nat.reduceLeDiff, Nat.reduceEqDiff, Nat.reduceAdd, Nat.reduceSub, Nat.reduceMul, reduceCtorEq, Int.reduceBEq, Int.reduceLT, Int.reduceLE, Int.reduceAdd, Int.reduceSub, Int.reduceEq, Int.reduceNeg, Int.reduceToNat, Int.reduceGT, Int.reduceGE, e0, e1, e2, e8, c0, q', ea, hb', hg, w1]
      refine next _ _ ⟨rfl, by simp only [go_sem, Nat.reduceLT, Nat.reduceLeDiff, Nat.reduceEqDiff, Nat.reduceAdd, Nat.reduceSub, Nat.reduceMul, reduceCtorEq, Int.reduceBEq, Int.reduceLT, Int.reduceLE, Int.reduceAdd, Int.reduceSub, Int.reduceEq, Int.reduceNeg, Int.reduceToNat, Int.reduceGT, Int.reduceGE, e0], by simp only [go_sem, Nat.reduceLT, Nat.reduceLeDiff, Nat.reduceEqDiff, Nat.reduceAdd, Nat.reduceSub, Nat.reduceMul, reduceCtorEq, Int.reduceBEq, Int.reduceLT, Int.reduceLE, Int.reduceAdd, Int.reduceSub, Int.reduceEq, Int.reduceNeg, Int.reduceToNat, Int.reduceGT, Int.reduceGE, e1], by simp only [go_sem, Nat.reduceLT, Nat.reduceLeDiff, Nat.reduceEqDiff, Nat.reduceAdd, Nat.reduceSub, Nat.reduceMul, reduceCtorEq, Int.reduceBEq, Int.reduceLT, Int.reduceLE, Int.reduceAdd, Int.reduceSub, Int.reduceEq, Int.reduceNeg, Int.reduceToNat, Int.reduceGT, Int.reduceGE, hy'], by simp only [go_sem, Nat.reduceLT, Nat.reduceLeDiff, Nat.reduceEqDiff, Nat.reduceAdd, Nat.reduceSub, Nat.reduceMul, reduceCtorEq, Int.reduceBEq, Int.reduceLT, Int.reduceLE, Int.reduceAdd, Int.reduceSub, Int.reduceEq, Int.reduceNeg, Int.reduceToNat, Int.reduceGT, Int.reduceGE], fun k hk => ?_⟩
      rcases Nat.lt_succ_iff_lt_or_eq.1 hk with h1 | h1
      · exact hx k h1
      · rw [h1]; exact fun e => q e.symm
  · rintro env h' ⟨rfl, e0, e1, e2, e8, hx⟩
    have c0 : ¬ Int.ofNat (itr t N b) > 0 := by rw [hz]; decide
    simp only [go_sem, Nat.reduceLT, Nat.reduceLeDiff, Nat.reduceEqDiff, Nat.reduceAdd, Nat.reduceSub, Nat.reduceMul, reduceCtorEq, Int.reduceBEq, Int.reduceLT, Int.reduceLE, Int.reduceAdd, Int.reduceSub, Int.reduceEq, Int.reduceNeg, Int.reduceToNat, Int.reduceGT, Int.reduceGE, e0, e1, e2, e8, c0]
    rw [hQ]
    refine ⟨0, false, .inr ⟨rfl, rfl, fun k => ?_⟩, by omega, congrArg some (fin_q _ _ _ rfl rfl)⟩
    rcases Nat.lt_or_ge k N with h1 | h1
    · exact hx k h1
    · have : ∀ j, itr t (N + j) b = 0 := fun j => by
        induction j with
        | zero => exact hz
        | succ j ih => rw [← Nat.add_assoc, itr_succ, ih]; exact T.2
      have := this (k - N)
      rw [show N + (k - N) = k by omega] at this
      omega
end Go.Cl.U

namespace Go.Cl.U
variable {σ : Sums}
set_option maxRecDepth 1000000

theorem cvi {n : Nat} (h : n < 1000000) (X : H) : convT Try.prog X 50 3 (u64 n) = some (.val (.int .i64 (Int.ofNat n))) := by
  have : IntKind.wrap .i64 (Int.ofNat n) = Int.ofNat n := wrap_i64 (by have := Int.natCast_nonneg n; show _ ≤ (n : Int); omega) (by show (n : Int) < _; omega)
  rw [← this]; exact cv_50_3 X .u64 _
theorem cvu {n : Nat} (h : n < 1000000) (X : H) : convT Try.prog X 3 50 (.int .i64 (Int.ofNat n)) = some (.val (u64 n)) := by
  have k := cv_3_50 X .i64 (Int.ofNat n)
  rw [wrap_u64 (by omega)] at k
  exact k
def Ch (t : List Nat) (c : Nat) (es : List Nat) : Prop := ∀ i x, es[i]? = some x → x = itr t (i + 1) c
theorem sh_ne {a b : Ln} : sh a.el b.el ≠ 0 ↔ ∃ x, x ∈ a.el ∧ x ∈ b.el := by
  unfold sh
  cases e : a.el.find? fun x => decide (x ∈ b.el) with
  | none =>
    rw [List.find?_eq_none] at e
    simp at e ⊢
    exact e
  | some y =>
    have h1 := List.find?_some e
    have h2 := List.mem_of_find?_eq_some e
    simp at h1
    exact ⟨fun _ => ⟨y, h2, h1⟩, fun _ => el_nz _ _ h2⟩
theorem lshared_run (hσ : ∀ f a h, f ≠ 20 → σ f a h = none) {h : H} {v : CV} {t : List Nat} (B : TL h v t) (T : Tree t) (hl : t.length ≤ 1000) (a b : Ln) (ha : a.c < t.length) (hb : b.c < t.length) (ca : Ch t a.c a.el) (cb : Ch t b.c b.el) :
    RetQ (.bool (decide (sh a.el b.el ≠ 0))) ((lim Try.prog σ).call 26 [v, a.cv, b.cv] h) := by
  obtain ⟨Q, hQ⟩ : ∃ Q, Q = RetQ (.bool (decide (sh a.el b.el ≠ 0))) := ⟨_, rfl⟩
  rw [← hQ]
  rw [call_eq (hσ _ _ _ (by decide)) fn_26 rfl rfl, Try.ntmps26, Try.results26]
  obtain ⟨X, hX⟩ : ∃ X, X = (h.lo.alloc (.cells (newBlk [u64 a.c, u64 a.b, u64 a.h0, u64 a.h1]))).alloc (.cells (newBlk [u64 b.c, u64 b.b, u64 b.h0, u64 b.h1])) := ⟨_, rfl⟩
  have Xnx : X.nx = h.nx + 2 := by rw [hX]; rfl
  have Xlow : X.low = h.nx := by rw [hX]; rfl
  have XE : Ext h X := by rw [hX]; exact ((Ext.lo h).alloc' _).alloc' _
  have Xa : X.blk h.nx = some (newBlk [u64 a.c, u64 a.b, u64 a.h0, u64 a.h1]) := by rw [hX]; simp only [go_sem, Nat.reduceLT, Nat.reduceLeDiff, Nat.reduceEqDiff, Nat.reduceAdd, Nat.reduceSub, Nat.reduceMul, reduceCtorEq, Int.reduceBEq, Int.reduceLT, Int.reduceLE, Int.reduceAdd, Int.reduceSub, Int.reduceEq, Int.reduceNeg, Int.reduceToNat, Int.reduceGT, Int.reduceGE]
  have Xb : X.blk (h.nx + 1) = some (newBlk [u64 b.c, u64 b.b, u64 b.h0, u64 b.h1]) := by rw [hX]; simp only [go_sem, Nat.reduceLT, Nat.reduceLeDiff, Nat.reduceEqDiff, Nat.reduceAdd, Nat.reduceSub, Nat.reduceMul, reduceCtorEq, Int.reduceBEq, Int.reduceLT, Int.reduceLE, Int.reduceAdd, Int.reduceSub, Int.reduceEq, Int.reduceNeg, Int.reduceToNat, Int.reduceGT, Int.reduceGE]
  have ka := fun Y => cvi (n := a.c) (by omega) Y
  have kb := fun Y => cvi (n := b.c) (by omega) Y
  simp only [go_sem, Nat.reduceLT, Nat.reduceLeDiff, Nat.reduceEqDiff, Nat.reduceAdd, Nat.reduceSub, Nat.reduceMul, reduceCtorEq, Int.reduceBEq, Int.reduceLT, Int.reduceLE, Int.reduceAdd, Int.reduceSub, Int.reduceEq, Int.reduceNeg, Int.reduceToNat, Int.reduceGT, Int.reduceGE, Ln.cv_eq, ← hX, Xa, Xb]
  refine cnd_go (Q := Q) (by kernel_rfl) ?_
  simp only [go_sem, Nat.reduceLT, Nat.reduceLeDiff, Nat.reduceEqDiff, Nat.reduceAdd, Nat.reduceSub, Nat.reduceMul, reduceCtorEq, Int.reduceBEq, Int.reduceLT, Int.reduceLE, Int.reduceAdd, Int.reduceSub, Int.reduceEq, Int.reduceNeg, Int.reduceToNat, Int.reduceGT, Int.reduceGE, Ln.cv_eq, ← hX, Xa, Xb, ka, kb]
  have hla := el_len a
  have hlb := el_len b
  have aX : ∀ Y, Ext X Y → Y.blk h.nx = some (newBlk [u64 a.c, u64 a.b, u64 a.h0, u64 a.h1]) := fun Y E => (E.blk (by omega)).trans Xa
  have bX : ∀ Y, Ext X Y → Y.blk (h.nx + 1) = some (newBlk [u64 b.c, u64 b.b, u64 b.h0, u64 b.h1]) := fun Y E => (E.blk (by omega)).trans Xb
  have fin : ∀ (Y : H) (v : Bool), Y.low = h.nx → v = decide (sh a.el b.el ≠ 0) → Q (some (fin h Y (.bool v))) := fun Y v hl hv => by
    rw [hQ, fin_q _ _ _ hl rfl, hv]; rfl
  refine loop_ind (Q := Q) (fun i env h' => Ext X h' ∧ h'.low = h.nx ∧ evT env 0 = v ∧ evT env 4 = .ptr h.nx 0 ∧ evT env 5 = .ptr (h.nx + 1) 0 ∧ evT env 7 = .int .i64 (Int.ofNat (itr t i a.c)) ∧ evT env 8 = .int .i64 (Int.ofNat b.c) ∧ evT env 9 = .int .i64 (Int.ofNat i) ∧ ∀ x ∈ a.el.take i, x ∉ b.el) a.el.length 0 ?_ (Nat.zero_le _) ?_ ?_
  · exact ⟨by rw [hX]; exact Ext.refl _, (congrArg H.low hX).symm.trans Xlow, by simp only [go_sem, Nat.reduceLT, Nat.reduceLeDiff, Nat.reduceEqDiff, Nat.reduceAdd, Nat.reduceSub, Nat.reduceMul, reduceCtorEq, Int.reduceBEq, Int.reduceLT, Int.reduceLE, Int.reduceAdd, Int.reduceSub, Int.reduceEq, Int.reduceNeg, Int.reduceToNat, Int.reduceGT, Int.reduceGE], by simp only [go_sem, Nat.reduceLT, Nat.reduceLeDiff, Nat.reduceEqDiff, Nat.reduceAdd, Nat.reduceSub, Nat.reduceMul, reduceCtorEq, Int.reduceBEq, Int.reduceLT, Int.reduceLE, Int.reduceAdd, Int.reduceSub, Int.reduceEq, Int.reduceNeg, Int.reduceToNat, Int.reduceGT, Int.reduceGE], by simp only [go_sem, Nat.reduceLT, Nat.reduceLeDiff, Nat.reduceEqDiff, Nat.reduceAdd, Nat.reduceSub, Nat.reduceMul, reduceCtorEq, Int.reduceBEq, Int.reduceLT, Int.reduceLE, Int.reduceAdd, Int.reduceSub, Int.reduceEq, Int.reduceNeg, Int.reduceToNat, Int.reduceGT, Int.reduceGE], by simp only [go_sem, Nat.reduceLT, Nat.reduceLeDiff, Nat.reduceEqDiff, Nat.reduceAdd, Nat.reduceSub, Nat.reduceMul, reduceCtorEq, Int.reduceBEq, Int.reduceLT, Int.reduceLE, Int.reduceAdd, Int.reduceSub, Int.reduceEq, Int.reduceNeg, Int.reduceToNat, Int.reduceGT, Int.reduceGE]; rfl, by simp only [go_sem, Nat.reduceLT, Nat.reduceLeDiff, Nat.reduceEqDiff, Nat.reduceAdd, Nat.reduceSub, Nat.reduceMul, reduceCtorEq, Int.reduceBEq, Int.reduceLT, Int.reduceLE, Int.reduceAdd, Int.reduceSub, Int.reduceEq, Int.reduceNeg, Int.reduceToNat, Int.reduceGT, Int.reduceGE], by simp only [go_sem, Nat.reduceLT, Nat.reduceLeDiff, Nat.reduceEqDiff, Nat.reduceAdd, Nat.reduceSub, Nat.reduceMul, reduceCtorEq, Int.reduceBEq, Int.reduceLT, Int.reduceLE, Int.reduceAdd, Int.reduceSub, Int.reduceEq, Int.reduceNeg, Int.reduceToNat, Int.reduceGT, Int.reduceGE]; rfl, by simp⟩
  · rintro i env h' ⟨E1, l1, e0, e4, e5, e7, e8, e9, hx⟩ hi next
    have c0 := ofNat_lt hi
    have a1 := aX _ E1
    obtain ⟨va, xa, ea, Ba, Ea, la⟩ := elder_c hσ (X := h') (by have := E1.nx; omega) a
    obtain ⟨Y, hY⟩ : ∃ Y, Y = xa.getD h' := ⟨_, rfl⟩
    rw [← hY] at Ba Ea la
    have ea' : (lim Try.prog σ).call 25 [.agg [u64 a.c, u64 a.b, u64 a.h0, u64 a.h1]] h' = some (va, xa) := ea
    have E2 := E1.trans Ea
    have lt := T.itr_le' i a.c
    obtain ⟨y, hy⟩ : ∃ y, t[itr t i a.c]? = some y := ⟨_, List.getElem?_eq_getElem (by omega)⟩
    have hy' : y = itr t (i + 1) a.c := by rw [itr_succ, List.getD_eq_getElem?_getD, hy]; rfl
    have hai : a.el[i]? = some y := by
      obtain ⟨w, hw⟩ : ∃ w, a.el[i]? = some w := ⟨_, List.getElem?_eq_getElem hi⟩
      rw [hw, hy', ca i w hw]
    have y0 : 0 < y := Nat.pos_of_ne_zero (el_nz a y (List.mem_of_getElem? hai))
    obtain ⟨id, bb, ei, _, hb1, hg⟩ := (B.ext (XE.trans E2)).at_ hy
    have w1 := wrap_succ (i := i) (by omega)
    simp only [go_sem, Nat.reduceLT, Nat.reduceLeDiff, Nat.reduceEqDiff, Nat.reduceAdd, Nat.reduceSub, Nat.reduceMul, reduceCtorEq, Int.reduceBEq, Int.reduceLT, Int.reduceLE, Int.reduceAdd, Int.reduceSub, Int.reduceEq, Int.reduceNeg, Int.reduceToNat, Int.reduceGT, Int.reduceGE, e0, e4, e5, e7, e8, e9, a1, ea', ← hY, Ba.len, c0, ei, hb1, hg]
    refine loop_ind (Q := Q) (fun k env h' => Ext X h' ∧ h'.low = h.nx ∧ evT env 0 = v ∧ evT env 4 = .ptr h.nx 0 ∧ evT env 5 = .ptr (h.nx + 1) 0 ∧ evT env 7 = .int .i64 (Int.ofNat y) ∧ evT env 8 = .int .i64 (Int.ofNat b.c) ∧ evT env 9 = .int .i64 (Int.ofNat i) ∧ evT env 10 = .int .i64 (Int.ofNat (itr t k b.c)) ∧ evT env 11 = .int .i64 (Int.ofNat k) ∧ y ∉ b.el.take k) b.el.length 0 ?_ (Nat.zero_le _) ?_ ?_
    · exact ⟨hY ▸ E2, (congrArg H.low hY).symm.trans (by omega), by simp only [go_sem, Nat.reduceLT, Nat.reduceLeDiff, Nat.reduceEqDiff, Nat.reduceAdd, Nat.reduceSub, Nat.reduceMul, reduceCtorEq, Int.reduceBEq, Int.reduceLT, Int.reduceLE, Int.reduceAdd, Int.reduceSub, Int.reduceEq, Int.reduceNeg, Int.reduceToNat, Int.reduceGT, Int.reduceGE, e0], by simp only [go_sem, Nat.reduceLT, Nat.reduceLeDiff, Nat.reduceEqDiff, Nat.reduceAdd, Nat.reduceSub, Nat.reduceMul, reduceCtorEq, Int.reduceBEq, Int.reduceLT, Int.reduceLE, Int.reduceAdd, Int.reduceSub, Int.reduceEq, Int.reduceNeg, Int.reduceToNat, Int.reduceGT, Int.reduceGE, e4], by simp only [go_sem, Nat.reduceLT, Nat.reduceLeDiff, Nat.reduceEqDiff, Nat.reduceAdd, Nat.reduceSub, Nat.reduceMul, reduceCtorEq, Int.reduceBEq, Int.reduceLT, Int.reduceLE, Int.reduceAdd, Int.reduceSub, Int.reduceEq, Int.reduceNeg, Int.reduceToNat, Int.reduceGT, Int.reduceGE, e5], by simp only [go_sem, Nat.reduceLT, Nat.reduceLeDiff, Nat.reduceEqDiff, Nat.reduceAdd, Nat.reduceSub, Nat.reduceMul, reduceCtorEq, Int.reduceBEq, Int.reduceLT, Int.reduceLE, Int.reduceAdd, Int.reduceSub, Int.reduceEq, Int.reduceNeg, Int.reduceToNat, Int.reduceGT, Int.reduceGE], by simp only [go_sem, Nat.reduceLT, Nat.reduceLeDiff, Nat.reduceEqDiff, Nat.reduceAdd, Nat.reduceSub, Nat.reduceMul, reduceCtorEq, Int.reduceBEq, Int.reduceLT, Int.reduceLE, Int.reduceAdd, Int.reduceSub, Int.reduceEq, Int.reduceNeg, Int.reduceToNat, Int.reduceGT, Int.reduceGE, e8], by simp only [go_sem, Nat.reduceLT, Nat.reduceLeDiff, Nat.reduceEqDiff, Nat.reduceAdd, Nat.reduceSub, Nat.reduceMul, reduceCtorEq, Int.reduceBEq, Int.reduceLT, Int.reduceLE, Int.reduceAdd, Int.reduceSub, Int.reduceEq, Int.reduceNeg, Int.reduceToNat, Int.reduceGT, Int.reduceGE, e9], by simp only [go_sem, Nat.reduceLT, Nat.reduceLeDiff, Nat.reduceEqDiff, Nat.reduceAdd, Nat.reduceSub, Nat.reduceMul, reduceCtorEq, Int.reduceBEq, Int.reduceLT, Int.reduceLE, Int.reduceAdd, Int.reduceSub, Int.reduceEq, Int.reduceNeg, Int.reduceToNat, Int.reduceGT, Int.reduceGE]; rfl, by simp only [go_sem, Nat.reduceLT, Nat.reduceLeDiff, Nat.reduceEqDiff, Nat.reduceAdd, Nat.reduceSub, Nat.reduceMul, reduceCtorEq, Int.reduceBEq, Int.reduceLT, Int.reduceLE, Int.reduceAdd, Int.reduceSub, Int.reduceEq, Int.reduceNeg, Int.reduceToNat, Int.reduceGT, Int.reduceGE]; rfl, by simp⟩
    · rintro k env h' ⟨E1, l1, e0, e4, e5, e7, e8, e9, e10, e11, hx2⟩ hk next2
      have c1 := ofNat_lt hk
      have b1 := bX _ E1
      obtain ⟨vb, xb, eb, Bb, Eb, lb⟩ := elder_c hσ (X := h') (by have := E1.nx; omega) b
      obtain ⟨Y, hY⟩ : ∃ Y, Y = xb.getD h' := ⟨_, rfl⟩
      rw [← hY] at Bb Eb lb
      have eb' : (lim Try.prog σ).call 25 [.agg [u64 b.c, u64 b.b, u64 b.h0, u64 b.h1]] h' = some (vb, xb) := eb
      have E2 := E1.trans Eb
      have lt := T.itr_le' k b.c
      obtain ⟨z, hz⟩ : ∃ z, t[itr t k b.c]? = some z := ⟨_, List.getElem?_eq_getElem (by omega)⟩
      have hz' : z = itr t (k + 1) b.c := by rw [itr_succ, List.getD_eq_getElem?_getD, hz]; rfl
      have hbk : b.el[k]? = some z := by
        obtain ⟨w, hw⟩ : ∃ w, b.el[k]? = some w := ⟨_, List.getElem?_eq_getElem hk⟩
        rw [hw, hz', cb k w hw]
      obtain ⟨id2, bb2, ei2, _, hb2, hg2⟩ := (B.ext (XE.trans E2)).at_ hz
      have w2 := wrap_succ (i := k) (by omega)
      by_cases q : y = z
      · have q' : Int.ofNat y = Int.ofNat z := congrArg _ q
        have y0' : Int.ofNat y > 0 := by simp; exact y0
        have z0' : Int.ofNat z > 0 := q ▸ y0'
        simp only [go_sem, Nat.reduceLT, Nat.reduceLeDiff, Nat.reduceEqDiff, Nat.reduceAdd, Nat.reduceSub, Nat.reduceMul, reduceCtorEq, Int.reduceBEq, Int.reduceLT, Int.reduceLE, Int.reduceAdd, Int.reduceSub, Int.reduceEq, Int.reduceNeg, Int.reduceToNat, Int.reduceGT, Int.reduceGE, e0, e4, e5, e7, e8, e9, e10, e11, b1, eb', ← hY, Bb.len, c1, ei2, hb2, hg2, q', y0', z0']
        exact fin _ _ (by omega) (decide_eq_true (sh_ne.2 ⟨y, List.mem_of_getElem? hai, q ▸ List.mem_of_getElem? hbk⟩)).symm
      · have q' : ¬ Int.ofNat y = Int.ofNat z := fun e => q (Int.ofNat.inj e)
        simp only [go_sem, Nat.reduceLT, Nat.reduceLeDiff, Nat.reduceEqDiff, Nat.reduceAdd, Nat.reduceSub, Nat.reduceMul, reduceCtorEq, Int.reduceBEq, Int.reduceLT, Int.reduceLE, Int.reduceAdd, Int.reduceSub, Int.reduceEq, Int.reduceNeg, Int.reduceToNat, Int.reduceGT, Int.reduceGE, e0, e4, e5, e7, e8, e9, e10, e11, b1, eb', ← hY, Bb.len, c1, ei2, hb2, hg2, q', w2]
        refine next2 _ _ ⟨hY ▸ E2, (congrArg H.low hY).symm.trans (by omega), by simp only [go_sem, Nat.reduceLT, Nat.reduceLeDiff, Nat.reduceEqDiff, Nat.reduceAdd, Nat.reduceSub, Nat.reduceMul, reduceCtorEq, Int.reduceBEq, Int.reduceLT, Int.reduceLE, Int.reduceAdd, Int.reduceSub, Int.reduceEq, Int.reduceNeg, Int.reduceToNat, Int.reduceGT, Int.reduceGE, e0], by simp only [go_sem, Nat.reduceLT, Nat.reduceLeDiff, Nat.reduceEqDiff, Nat.reduceAdd, Nat.reduceSub, Nat.reduceMul, reduceCtorEq, Int.reduceBEq, Int.reduceLT, Int.reduceLE, Int.reduceAdd, Int.reduceSub, Int.reduceEq, Int.reduceNeg, Int.reduceToNat, Int.reduceGT, Int.reduceGE, e4], by simp only [go_sem, Nat.reduceLT, Nat.reduceLeDiff, Nat.reduceEqDiff, Nat.reduceAdd, Nat.reduceSub, Nat.reduceMul, reduceCtorEq, Int.reduceBEq, Int.reduceLT, Int.reduceLE, Int.reduceAdd, Int.reduceSub, Int.reduceEq, Int.reduceNeg, Int.reduceToNat, Int.reduceGT, Int.reduceGE, e5], by simp only [go_sem, Nat.reduceLT, Nat.reduceLeDiff, Nat.reduceEqDiff, Nat.reduceAdd, Nat.reduceSub, Nat.reduceMul, reduceCtorEq, Int.reduceBEq, Int.reduceLT, Int.reduceLE, Int.reduceAdd, Int.reduceSub, Int.reduceEq, Int.reduceNeg, Int.reduceToNat, Int.reduceGT, Int.reduceGE, e7], by simp only [go_sem, Nat.reduceLT, Nat.reduceLeDiff, Nat.reduceEqDiff, Nat.reduceAdd, Nat.reduceSub, Nat.reduceMul, reduceCtorEq, Int.reduceBEq, Int.reduceLT, Int.reduceLE, Int.reduceAdd, Int.reduceSub, Int.reduceEq, Int.reduceNeg, Int.reduceToNat, Int.reduceGT, Int.reduceGE, e8], by simp only [go_sem, Nat.reduceLT, Nat.reduceLeDiff, Nat.reduceEqDiff, Nat.reduceAdd, Nat.reduceSub, Nat.reduceMul, reduceCtorEq, Int.reduceBEq, Int.reduceLT, Int.reduceLE, Int.reduceAdd, Int.reduceSub, Int.reduceEq, Int.reduceNeg, Int.reduceToNat, Int.reduceGT, Int.reduceGE, e9], by simp only [go_sem, Nat.reduceLT, Nat.reduceLeDiff, Nat.reduceEqDiff, Nat.reduceAdd, Nat.reduceSub, Nat.reduceMul, reduceCtorEq, Int.reduceBEq, Int.reduceLT, Int.reduceLE, Int.reduceAdd, Int.reduceSub, Int.reduceEq, Int.reduceNeg, Int.reduceToNat, Int.reduceGT, Int.reduceGE, hz'], by simp only [go_sem, Nat.reduceLT, Nat.reduceLeDiff, Nat.reduceEqDiff, Nat.reduceAdd, Nat.reduceSub, Nat.reduceMul, reduceCtorEq, Int.reduceBEq, Int.reduceLT, Int.reduceLE, Int.reduceAdd, Int.reduceSub, Int.reduceEq, Int.reduceNeg, Int.reduceToNat, Int.reduceGT, Int.reduceGE], ?_⟩
        rw [List.take_succ, hbk]
        simp [hx2, q]
    · rintro env h' ⟨E1, l1, e0, e4, e5, e7, e8, e9, e10, e11, hx2⟩
      have c1 := ofNat_nlt (Nat.le_refl b.el.length)
      have b1 := bX _ E1
      obtain ⟨vb, xb, eb, Bb, Eb, lb⟩ := elder_c hσ (X := h') (by have := E1.nx; omega) b
      obtain ⟨Y, hY⟩ : ∃ Y, Y = xb.getD h' := ⟨_, rfl⟩
      rw [← hY] at Bb Eb lb
      have eb' : (lim Try.prog σ).call 25 [.agg [u64 b.c, u64 b.b, u64 b.h0, u64 b.h1]] h' = some (vb, xb) := eb
      have E2 := E1.trans Eb
      rw [List.take_length] at hx2
      simp only [go_sem, Nat.reduceLT, Nat.reduceLeDiff, Nat.reduceEqDiff, Nat.reduceAdd, Nat.reduceSub, Nat.reduceMul, reduceCtorEq, Int.reduceBEq, Int.reduceLT, Int.reduceLE, Int.reduceAdd, Int.reduceSub, Int.reduceEq, Int.reduceNeg, Int.reduceToNat, Int.reduceGT, Int.reduceGE, e0, e4, e5, e7, e8, e9, e10, e11, b1, eb', ← hY, Bb.len, c1, w1]
      refine next _ _ ⟨hY ▸ E2, (congrArg H.low hY).symm.trans (by omega), by simp only [go_sem, Nat.reduceLT, Nat.reduceLeDiff, Nat.reduceEqDiff, Nat.reduceAdd, Nat.reduceSub, Nat.reduceMul, reduceCtorEq, Int.reduceBEq, Int.reduceLT, Int.reduceLE, Int.reduceAdd, Int.reduceSub, Int.reduceEq, Int.reduceNeg, Int.reduceToNat, Int.reduceGT, Int.reduceGE, e0], by simp only [go_sem, Nat.reduceLT, Nat.reduceLeDiff, Nat.reduceEqDiff, Nat.reduceAdd, Nat.reduceSub, Nat.reduceMul, reduceCtorEq, Int.reduceBEq, Int.reduceLT, Int.reduceLE, Int.reduceAdd, Int.reduceSub, Int.reduceEq, Int.reduceNeg, Int.reduceToNat, Int.reduceGT, Int.reduceGE, e4], by simp only [go_sem, Nat.reduceLT, Nat.reduceLeDiff, Nat.reduceEqDiff, Nat.reduceAdd, Nat.reduceSub, Nat.reduceMul, reduceCtorEq, Int.reduceBEq, Int.reduceLT, Int.reduceLE, Int.reduceAdd, Int.reduceSub, Int.reduceEq, Int.reduceNeg, Int.reduceToNat, Int.reduceGT, Int.reduceGE, e5], by simp only [go_sem, Nat.reduceLT, Nat.reduceLeDiff, Nat.reduceEqDiff, Nat.reduceAdd, Nat.reduceSub, Nat.reduceMul, reduceCtorEq, Int.reduceBEq, Int.reduceLT, Int.reduceLE, Int.reduceAdd, Int.reduceSub, Int.reduceEq, Int.reduceNeg, Int.reduceToNat, Int.reduceGT, Int.reduceGE, e7, hy'], by simp only [go_sem, Nat.reduceLT, Nat.reduceLeDiff, Nat.reduceEqDiff, Nat.reduceAdd, Nat.reduceSub, Nat.reduceMul, reduceCtorEq, Int.reduceBEq, Int.reduceLT, Int.reduceLE, Int.reduceAdd, Int.reduceSub, Int.reduceEq, Int.reduceNeg, Int.reduceToNat, Int.reduceGT, Int.reduceGE, e8], by simp only [go_sem, Nat.reduceLT, Nat.reduceLeDiff, Nat.reduceEqDiff, Nat.reduceAdd, Nat.reduceSub, Nat.reduceMul, reduceCtorEq, Int.reduceBEq, Int.reduceLT, Int.reduceLE, Int.reduceAdd, Int.reduceSub, Int.reduceEq, Int.reduceNeg, Int.reduceToNat, Int.reduceGT, Int.reduceGE], ?_⟩
      intro x hx3
      rw [List.take_succ, hai] at hx3
      rcases List.mem_append.1 hx3 with h1 | h1
      · exact hx x h1
      · simp at h1; rw [h1]; exact hx2
  · rintro env h' ⟨E1, l1, e0, e4, e5, e7, e8, e9, hx⟩
    have c0 := ofNat_nlt (Nat.le_refl a.el.length)
    have a1 := aX _ E1
    obtain ⟨va, xa, ea, Ba, Ea, la⟩ := elder_c hσ (X := h') (by have := E1.nx; omega) a
    obtain ⟨Y, hY⟩ : ∃ Y, Y = xa.getD h' := ⟨_, rfl⟩
    rw [← hY] at Ba Ea la
    have ea' : (lim Try.prog σ).call 25 [.agg [u64 a.c, u64 a.b, u64 a.h0, u64 a.h1]] h' = some (va, xa) := ea
    rw [List.take_length] at hx
    simp only [go_sem, Nat.reduceLT, Nat.reduceLeDiff, Nat.reduceEqDiff, Nat.reduceAdd, Nat.reduceSub, Nat.reduceMul, reduceCtorEq, Int.reduceBEq, Int.reduceLT, Int.reduceLE, Int.reduceAdd, Int.reduceSub, Int.reduceEq, Int.reduceNeg, Int.reduceToNat, Int.reduceGT, Int.reduceGE, e0, e4, e5, e7, e8, e9, a1, ea', ← hY, Ba.len, c0]
    refine fin _ _ (by omega) (decide_eq_false fun q => ?_).symm
    obtain ⟨x, h1, h2⟩ := sh_ne.1 q
    exact hx x h1 h2
end Go.Cl.U

namespace Go.Cl.U
variable {σ : Sums}
set_option maxRecDepth 1000000

theorem row0 (o off : Nat) (kd : IntKind) : indexAddrT Try.prog 54 (.ptr o off) (.int kd 0) = some (.ptr o off) := by
  rw [show (0 : Int) = Int.ofNat 0 from rfl, ia_54]; simp [blt_eq']
theorem row1 (o off : Nat) (kd : IntKind) : indexAddrT Try.prog 54 (.ptr o off) (.int kd 1) = some (.ptr o (off + 4)) := by
  rw [show (1 : Int) = Int.ofNat 1 from rfl, ia_54]; simp [blt_eq']
def l8 (a b : Ln) : List CV := [u64 a.c, u64 a.b, u64 a.h0, u64 a.h1, u64 b.c, u64 b.b, u64 b.h0, u64 b.h1]
theorem ids_ptr (q : Nat → Bool) (id off) : idsIn q (.ptr id off) = q id := by unfold idsIn; rfl
theorem ids_4 (q : Nat → Bool) (a b c d) : idsIn q (.agg [u64 a, u64 b, u64 c, u64 d]) = true := rfl
theorem beqC_4 (a b c d) : beqC (.agg [u64 a, u64 b, u64 c, u64 d]) (.agg [u64 a, u64 b, u64 c, u64 d]) = true := by simp [beqC, beqCL, u64]
theorem leadId_lt {id n0 : Nat} (h : id < n0) (ops : List Oper) (i : Nat) (ls : List Nat) : leadId ops n0 i ls id = true := by
  unfold leadId; rw [blt_eq', decide_eq_true h]; rfl
theorem storeA_8 (b : Blk) (off p q r s t u v w) : b.storeA off [p, q, r, s, t, u, v, w] = b.storeN off [p, q, r, s, t, u, v, w] := rfl
attribute [go_sem] storeA_8
structure LB (h : H) (id : Nat) (a b : Ln) : Prop where
  lt : id < h.nx
  bk : ∃ k, h.blk id = some k ∧ k.n = 8 ∧ k.ro = false ∧ ∀ i, k.get i = nth (l8 a b) i
structure TG (t : List Nat) (a : Ln) : Prop where
  pos : 0 < a.c
  lt : a.c < t.length
  ch : Ch t a.c a.el
/-- what holds at a round's start -/
def tb : Blk := ({ n := 2, d := [CV.int .i64 0], t := T.nil : Blk }.st 0 (CV.int .i64 0)).st 1 (CV.int .i64 0)
/-- the tree's list: the law's own two, or one that has grown -/
def TLst (h : H) (v : CV) (id : Nat) (t : List Nat) : Prop := Lst h 1 v id t.length (t.map iN) ∨ (t = [0, 0] ∧ v = .sl id 0 2 (.exact 2) ∧ id < h.nx ∧ h.blk id = some tb)
theorem TLst.mono {h h' : H} {v : CV} {id : Nat} {t : List Nat} (l : TLst h v id t) (hn : h.nx ≤ h'.nx) (hb : h'.blk id = h.blk id) : TLst h' v id t := by
  rcases l with l | ⟨h1, h2, h3, h4⟩
  · exact .inl (l.mono hn fun _ => hb)
  · exact .inr ⟨h1, h2, by omega, hb.trans h4⟩
theorem TLst.lt {h : H} {v : CV} {id : Nat} {t : List Nat} (l : TLst h v id t) (hn : 0 < t.length) : id < h.nx := by
  rcases l with l | ⟨_, _, h3, _⟩
  · rcases l.val with ⟨h1, _⟩ | ⟨_, _, h2, _⟩
    · omega
    · exact h2
  · exact h3
theorem TLst.tl {h : H} {v : CV} {id : Nat} {t : List Nat} (l : TLst h v id t) (hn : 0 < t.length) : TL h v t := by
  rcases l with l | ⟨rfl, rfl, h3, h4⟩
  · rcases l.val with ⟨h0, _⟩ | ⟨_, h1, h2, b, h3, _, _, h6⟩
    · omega
    · exact ⟨id, b, _, h1, h2, h3, fun i x hx => by rw [h6, nth_eq, List.getElem?_map, hx]; rfl⟩
  · refine ⟨id, tb, _, rfl, h3, h4, fun i x hx => ?_⟩
    match i with
    | 0 => simp at hx; rw [← hx]; rfl
    | 1 => simp at hx; rw [← hx]; rfl
    | i+2 => simp at hx
theorem tapp {X : H} {v : CV} {lid x : Nat} {t : List Nat} (l : TLst X v lid t) (hx : x < t.length) (hl : t.length ≤ 1000) :
    ∃ Y, appS X 1 8 1 v 1 (some [.int .i64 (Int.ofNat x)]) = some (.sl X.nx 0 (t.length + 1) (.opn 1), Y) ∧ Lst Y 1 (.sl X.nx 0 (t.length + 1) (.opn 1)) X.nx (t.length + 1) (t.map iN ++ [iN x]) ∧ Y.nx = X.nx + 1 ∧ Y.gn = X.gn ∧
      (∀ k, k < X.nx → k ≠ lid → Y.t.get k = X.t.get k) ∧ (Y.low = X.low ∨ Y.low = min X.low lid) := by
  rcases l with l | ⟨rfl, rfl, h3, h4⟩
  · obtain ⟨h', e, l', h1, h2, h3, _, h5⟩ := app_Lst (by_ := 8) (m := 1) (new := [iN x]) l (by decide) rfl rfl rfl (by decide) (by omega) (by omega)
    exact ⟨h', e, l', h1, h2, fun k hk hne => h3 k hk fun _ => hne, h5⟩
  · refine ⟨X.alloc (.cells (fillB 3 [iN 0, iN 0, iN x])), ?_, ⟨rfl, .inr ⟨by decide, rfl, by rw [alloc_nx]; omega, _, alloc_blk_same _ _ _ rfl, fillB_ro _ _, fillB_n _ _, fun i => ?_⟩⟩, rfl, rfl, fun k hk _ => alloc_get_ne _ _ _ (by omega), .inl rfl⟩
    · unfold appS
      rw [lenC_sl, bind_some', bind_some']
      have hg : (Nat.blt 0 1 && Nat.ble ((2 + 1) * 8) 70368744177664 && Nat.ble (2 + 1) 70368744177664 && Nat.beq 1 1 && Nat.beq [CV.int .i64 (Int.ofNat x)].length (1 * 1) && [CV.int .i64 (Int.ofNat x)].all CV.one) = true := rfl
      rw [hg, cond_true]
      dsimp only
      rw [show Nat.ble (2 + 1) 2 = false from rfl, cond_false, h4, bind_some']
      rfl
    · rw [fillB_get 3 _ i rfl]; rfl
structure Sta (h h' : H) (t : List Nat) (a b : Ln) (v : CV) (lid lb : Nat) : Prop where
  ext : Ext h h'
  low : h'.low = h.nx
  tree : Tree t
  A : TG t a
  B : TG t b
  lst : TLst h' v lid t
  ge : h.nx ≤ lid
  lines : LB h' lb a b
  ge2 : h.nx ≤ lb
  ne : lid ≠ lb
theorem LB.put {h : H} {lb : Nat} {k' : Blk} {a b : Ln} (hl : lb < h.nx) (hn : k'.n = 8) (hr : k'.ro = false) (hg : ∀ i, k'.get i = nth (l8 a b) i) : LB (h.put lb (.cells k')) lb a b :=
  ⟨hl, k', put_blk_same _ _ _, hn, hr, hg⟩
theorem LB.ext {h h' : H} {lb : Nat} {a b : Ln} (L : LB h lb a b) (e : Ext h h') : LB h' lb a b := by
  obtain ⟨h1, k, h2, h3⟩ := L
  exact ⟨Nat.lt_of_lt_of_le h1 e.nx, k, (e.blk h1).trans h2, h3⟩
theorem Sta.grow {h X Y : H} {t : List Nat} {a b : Ln} {v : CV} {lid lb : Nat} (s : Sta h X t a b v lid lb) (e : Ext X Y) (hl : Y.low = h.nx) : Sta h Y t a b v lid lb :=
  ⟨s.ext.trans e, hl, s.tree, s.A, s.B, s.lst.mono e.nx (e.blk (s.lst.lt (by have := s.A.lt; omega))), s.ge, s.lines.ext e, s.ge2, s.ne⟩
theorem Sta.put {h X : H} {t : List Nat} {a b a' b' : Ln} {v : CV} {lid lb : Nat} (s : Sta h X t a b v lid lb) {k' : Blk} (hn : k'.n = 8) (hr : k'.ro = false) (hg : ∀ i, k'.get i = nth (l8 a' b') i) (ta : TG t a') (tb : TG t b') : Sta h (X.put lb (.cells k')) t a' b' v lid lb :=
  ⟨s.ext.put _ s.ge2, by rw [put_low, s.low]; have := s.ge2; omega, s.tree, ta, tb, s.lst.mono (Nat.le_refl _) (put_blk_ne _ _ _ _ s.ne), s.ge, LB.put s.lines.lt hn hr hg, s.ge2, s.ne⟩
theorem Sta.tl {h X : H} {t : List Nat} {a b : Ln} {v : CV} {lid lb : Nat} (s : Sta h X t a b v lid lb) : TL X v t := s.lst.tl (by have := s.A.lt; omega)
theorem l8_set0 {k : Blk} {a b a' : Ln} (hn : k.n = 8) (hg : ∀ i, k.get i = nth (l8 a b) i) (i : Nat) : ((((k.st 0 (u64 a'.c)).st 1 (u64 a'.b)).st 2 (u64 a'.h0)).st 3 (u64 a'.h1)).get i = nth (l8 a' b) i := by
  rcases Nat.lt_or_ge i 8 with h | h
  · have : i = 0 ∨ i = 1 ∨ i = 2 ∨ i = 3 ∨ i = 4 ∨ i = 5 ∨ i = 6 ∨ i = 7 := by omega
    rcases this with rfl | rfl | rfl | rfl | rfl | rfl | rfl | rfl <;> simp [st_get, hn, hg, blt_eq', l8, nth_eq, st_n]
  · have h8 : (l8 a' b).length = 8 := rfl
    rw [nth_eq, List.getElem?_eq_none (by omega), st_get, blt_eq', st_n, st_n, st_n, hn, decide_eq_false (by omega)]; rfl
theorem l8_set1 {k : Blk} {a b b' : Ln} (hn : k.n = 8) (hg : ∀ i, k.get i = nth (l8 a b) i) (i : Nat) : ((((k.st 4 (u64 b'.c)).st 5 (u64 b'.b)).st 6 (u64 b'.h0)).st 7 (u64 b'.h1)).get i = nth (l8 a b') i := by
  rcases Nat.lt_or_ge i 8 with h | h
  · have : i = 0 ∨ i = 1 ∨ i = 2 ∨ i = 3 ∨ i = 4 ∨ i = 5 ∨ i = 6 ∨ i = 7 := by omega
    rcases this with rfl | rfl | rfl | rfl | rfl | rfl | rfl | rfl <;> simp [st_get, hn, hg, blt_eq', l8, nth_eq, st_n]
  · have h8 : (l8 a b').length = 8 := rfl
    rw [nth_eq, List.getElem?_eq_none (by omega), st_get, blt_eq', st_n, st_n, st_n, hn, decide_eq_false (by omega)]; rfl
/-! the tree grows -/
theorem getD_app {t : List Nat} {x i : Nat} (h : i < t.length) : (t ++ [x]).getD i 0 = t.getD i 0 := by
  rw [List.getD_eq_getElem?_getD, List.getD_eq_getElem?_getD, List.getElem?_append_left h]
theorem getD_last {t : List Nat} {x : Nat} : (t ++ [x]).getD t.length 0 = x := by
  rw [List.getD_eq_getElem?_getD]; simp
theorem Tree.app {t : List Nat} (T : Tree t) {x : Nat} (hx : x < t.length) : Tree (t ++ [x]) := by
  refine ⟨fun i hi => ?_, ?_⟩
  · rcases Nat.lt_trichotomy i t.length with h | h | h
    · rw [getD_app h]; exact T.1 i hi
    · rw [h, getD_last]; omega
    · rw [List.getD_eq_getElem?_getD, List.getElem?_eq_none (by simp; omega)]; exact hi
  · rw [getD_app (by omega)]; exact T.2
theorem itr_app {t : List Nat} (T : Tree t) {x : Nat} : ∀ (k b : Nat), b < t.length → itr (t ++ [x]) k b = itr t k b
  | 0, _, _ => rfl
  | k+1, b, h => by
    show itr _ k ((t ++ [x]).getD b 0) = itr t k (t.getD b 0)
    rw [getD_app h]
    refine itr_app T k _ ?_
    rcases Nat.eq_zero_or_pos b with h0 | h0
    · rw [h0, T.2]; omega
    · have := T.1 b h0; omega
theorem TG.app {t : List Nat} (T : Tree t) {a : Ln} (g : TG t a) (x : Nat) : TG (t ++ [x]) a :=
  ⟨g.pos, by rw [List.length_append]; have := g.lt; omega, fun i y hy => (g.ch i y hy).trans (itr_app T _ _ g.lt).symm⟩
theorem TG.alone {t : List Nat} (T : Tree t) {a : Ln} (g : TG t a) (h0 : a.b = 0) : TG (t ++ [a.c]) (alone a t.length) := by
  have e : Go.Cl.U.alone a t.length = ⟨t.length, a.c, a.h0, a.h1⟩ := if_pos h0
  rw [e]
  refine ⟨by have := g.lt; show 0 < t.length; omega, by rw [List.length_append]; show t.length < _; simp, fun i y hy => ?_⟩
  have el : (⟨t.length, a.c, a.h0, a.h1⟩ : Ln).el = a.c :: a.el := by
    have := g.pos
    unfold Ln.el nz
    rw [h0]
    have : a.c ≠ 0 := by omega
    simp [List.filter_cons, this]
  rw [el] at hy
  show y = itr _ i ((t ++ [a.c]).getD t.length 0)
  rw [getD_last, itr_app T _ _ g.lt]
  cases i with
  | zero => simp at hy; exact hy.symm
  | succ i => simp at hy; exact g.ch i y hy
theorem TG.ended {t : List Nat} {a : Ln} (g : TG t a) : TG t (ended a) := by
  unfold Go.Cl.U.ended
  split
  · exact g
  · rename_i h0
    refine ⟨g.pos, g.lt, fun i y hy => g.ch i y ?_⟩
    have e1 : (⟨a.c, 0, a.b, a.h0⟩ : Ln).el = nz [a.b, a.h0] := by unfold Ln.el nz; simp
    have e2 : a.el = nz [a.b, a.h0] ++ nz [a.h1] := by
      unfold Ln.el nz
      rw [show [a.b, a.h0, a.h1] = [a.b, a.h0] ++ [a.h1] from rfl, List.filter_append]
    rw [e1] at hy
    rw [e2, List.getElem?_append_left (List.getElem?_eq_some_iff.1 hy).1]
    exact hy
/-! what the tree says, and what the lines say -/
theorem itr_inj {t : List Nat} (T : Tree t) {a b : Nat} (ha : 0 < a) : ∀ {j k : Nat}, j < k → itr t j b = a → itr t k b ≠ a := by
  intro j k hjk e1 e2
  obtain ⟨m, rfl⟩ : ∃ m, k = j + 1 + m := ⟨k - j - 1, by omega⟩
  have h : ∀ m, itr t (j + 1 + m) b < a := fun m => by
    induction m with
    | zero => rw [Nat.add_zero, itr_succ, e1]; exact T.1 a ha
    | succ m ih =>
      rw [← Nat.add_assoc, itr_succ]
      rcases Nat.eq_zero_or_pos (itr t (j + 1 + m) b) with h0 | h0
      · rw [h0, T.2]; exact ha
      · exact Nat.lt_trans (T.1 _ h0) ih
  have := h m
  omega
theorem mem_iff {t : List Nat} (T : Tree t) {b : Ln} (g : TG t b) {p far : Nat} {up : Bool} (hp : 0 < p) (hne : p ≠ b.c) (r : AbR t p b.c far up) : p ∈ b.el ↔ up = true ∧ far ≤ b.el.length := by
  constructor
  · intro h
    obtain ⟨i, hi⟩ := List.getElem?_of_mem h
    have e := g.ch i p hi
    have hl := (List.getElem?_eq_some_iff.1 hi).1
    rcases r with ⟨h1, h2⟩ | ⟨_, _, h3⟩
    · refine ⟨h1, ?_⟩
      rcases Nat.lt_trichotomy far (i + 1) with h4 | h4 | h4
      · omega
      · omega
      · exact absurd h2 (itr_inj T hp h4 e.symm)
    · exact absurd e.symm (h3 (i + 1))
  · rintro ⟨h1, h2⟩
    rcases r with ⟨_, h3⟩ | ⟨h3, _⟩
    · cases far with
      | zero => exact absurd h3.symm hne
      | succ i =>
        obtain ⟨y, hy⟩ : ∃ y, b.el[i]? = some y := ⟨_, List.getElem?_eq_getElem (by omega)⟩
        have e := g.ch i y hy
        rw [h3] at e
        rw [← e]
        exact List.mem_of_getElem? hy
    · rw [h1] at h3; cases h3
theorem growT {β : Type} {Q : Option β → Prop} {h X : H} {t : List Nat} {a b : Ln} {v : CV} {lid lb x : Nat} {K : Out → Option β} (s : Sta h X t a b v lid lb) (hx : x < t.length) (hl : t.length ≤ 1000)
    (k : ∀ Y v', Sta h Y (t ++ [x]) a b v' X.nx lb → (∀ k, k < X.nx → k ≠ lid → Y.blk k = X.blk k) → Q (K (.upd v' Y))) :
    Q (@thn _ β (uv (appS X 1 8 1 v 1 (some [.int .i64 (Int.ofNat x)]))) ⟨K⟩) := by
  obtain ⟨Y, e0, L, hnx, hgn, hold, hlow2⟩ := tapp s.lst hx hl
  rw [e0]
  have e := s.ext.nx
  have hlen : t.length ≠ 0 := by omega
  have g1 := s.ge
  have g2 := s.ge2
  have g3 := s.lines.lt
  have g4 := s.low
  refine k Y _ ⟨⟨by omega, hgn.trans s.ext.gn, fun i hi => (hold i (by omega) (by omega)).trans (s.ext.old i hi)⟩, by omega, s.tree.app hx, s.A.app s.tree x, s.B.app s.tree x, ?_, e, ?_, g2, by omega⟩ fun i hi hne => blk_eq (hold i hi hne)
  · refine .inl ?_
    rw [List.length_append, List.map_append]; exact L
  · obtain ⟨_, k', h2, h3⟩ := s.lines
    exact ⟨by omega, k', (blk_eq (hold lb g3 fun e => s.ne e.symm)).trans h2, h3⟩
end Go.Cl.U
