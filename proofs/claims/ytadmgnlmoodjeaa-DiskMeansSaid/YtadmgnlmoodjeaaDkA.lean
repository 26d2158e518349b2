/- The program's functions, run by the rewriting evaluator: what each answers and leaves (DkA). -/
import Derived.Shelf.SlIterI.Nil
import Derived.Shelf.SortM.Plain
import Derived.Shelf.SortM.SortNone
import Derived.Test.YtadmgnlmoodjeaaClH
set_option linter.all false
open Go Go.Cl Go.Proofs
attribute [go_sem] Nat.reduceLT Nat.reduceLeDiff Nat.reduceEqDiff Nat.reduceAdd Nat.reduceSub Nat.reduceMul reduceCtorEq Int.reduceBEq Int.reduceLT Int.reduceLE Int.reduceAdd Int.reduceSub Int.reduceEq Int.reduceNeg Int.reduceToNat Int.reduceGT Int.reduceGE

namespace Go.Cl
noncomputable section
open Go Go.RowKit Go.Maps
open Go.WideElems (Fit rd rg)

def keyInt : CV → Option Int
  | .int .i64 n => cond (decide (-9223372036854775808 ≤ n) && decide (n < 9223372036854775808)) (some n) none
  | _ => none
def keyInts : List (CV × CV × Nat) → Option (List Int)
  | [] => some []
  | e :: l => (keyInt e.1).bind fun n => (keyInts l).bind fun r => some (n :: r)
def insI (x : Int) : List Int → List Int
  | [] => [x]
  | y :: l => cond (decide (x ≤ y)) (x :: y :: l) (y :: insI x l)
def sortI : List Int → List Int
  | [] => []
  | x :: l => insI x (sortI l)
def noDupI : List Int → Bool
  | [] => true
  | x :: l => !(l.any fun y => decide (x = y)) && noDupI l
def noDupN : List Nat → Bool
  | [] => true
  | x :: l => !(l.any fun y => Nat.beq x y) && noDupN l
def stampOk (es : List (CV × CV × Nat)) (c : Nat) : Bool := (es.all fun e => Nat.blt e.2.2 c) && noDupN (es.map fun e => e.2.2)

theorem noDupI_iff : ∀ l, noDupI l = true → l.Nodup
  | [], _ => List.nodup_nil
  | x :: l, h => by
    simp only [noDupI, Bool.and_eq_true, Bool.not_eq_true', List.any_eq_false, decide_eq_true_eq] at h
    exact List.nodup_cons.2 ⟨fun hx => h.1 x hx rfl, noDupI_iff l h.2⟩
theorem noDupN_iff : ∀ l, noDupN l = true → l.Nodup
  | [], _ => List.nodup_nil
  | x :: l, h => by
    simp only [noDupN, Bool.and_eq_true, Bool.not_eq_true', List.any_eq_false] at h
    exact List.nodup_cons.2 ⟨fun hx => h.1 x hx (Nat.beq_refl x), noDupN_iff l h.2⟩

theorem insI_perm (x : Int) : ∀ l, (insI x l).Perm (x :: l)
  | [] => .refl _
  | y :: l => by
    unfold insI
    cases decide (x ≤ y)
    · exact ((insI_perm x l).cons y).trans (.swap x y l)
    · exact .refl _
theorem sortI_perm : ∀ l, (sortI l).Perm l
  | [] => .refl _
  | x :: l => (insI_perm x _).trans ((sortI_perm l).cons x)
theorem insI_sorted (x : Int) : ∀ l : List Int, l.Pairwise (· ≤ ·) → (insI x l).Pairwise (· ≤ ·)
  | [], _ => by simp [insI]
  | y :: l, h => by
    unfold insI
    have h' := List.pairwise_cons.1 h
    cases hd : decide (x ≤ y) with
    | true =>
      have hxy : x ≤ y := of_decide_eq_true hd
      exact List.pairwise_cons.2 ⟨fun z hz => by
        rcases List.mem_cons.1 hz with rfl | hz
        · exact hxy
        · exact Int.le_trans hxy (h'.1 z hz), h⟩
    | false =>
      have hxy : ¬ x ≤ y := of_decide_eq_false hd
      exact List.pairwise_cons.2 ⟨fun z hz => by
        rcases List.mem_cons.1 ((insI_perm x l).mem_iff.1 hz) with rfl | hz
        · omega
        · exact h'.1 z hz, insI_sorted x l h'.2⟩
theorem sortI_sorted : ∀ l, (sortI l).Pairwise (· ≤ ·)
  | [] => List.Pairwise.nil
  | x :: l => insI_sorted x _ (sortI_sorted l)
theorem sortI_eq {l ss : List Int} (h : ss.Perm l) : ss.mergeSort (fun x y => decide (x ≤ y)) = sortI l := by
  have tr : ∀ a b c : Int, decide (a ≤ b) = true → decide (b ≤ c) = true → decide (a ≤ c) = true := fun a b c h1 h2 => by
    simp only [decide_eq_true_eq] at *; exact Int.le_trans h1 h2
  have to : ∀ a b : Int, (decide (a ≤ b) || decide (b ≤ a)) = true := fun a b => by
    simp only [Bool.or_eq_true, decide_eq_true_eq]; exact Int.le_total a b
  refine List.Perm.eq_of_pairwise (le := fun a b => a ≤ b) (fun a b _ _ h1 h2 => Int.le_antisymm h1 h2) ?_ (sortI_sorted l) (((List.mergeSort_perm ss _).trans h).trans (sortI_perm l).symm)
  exact (List.pairwise_mergeSort tr to ss).imp fun hh => by simpa using hh

theorem keyInt_eq {v : CV} {n : Int} (h : keyInt v = some n) : v = .int .i64 n ∧ -9223372036854775808 ≤ n ∧ n < 9223372036854775808 := by
  unfold keyInt at h
  split at h
  · rename_i m
    cases hd : (decide (-9223372036854775808 ≤ m) && decide (m < 9223372036854775808)) <;> rw [hd] at h
    · cases h
    · cases h; simp at hd; exact ⟨rfl, hd.1, hd.2⟩
  · cases h

theorem keyInts_eq : ∀ {es : List (CV × CV × Nat)} {ks : List Int}, keyInts es = some ks → es.map (fun e => e.1) = ks.map (CV.int .i64) ∧ ∀ n ∈ ks, -9223372036854775808 ≤ n ∧ n < 9223372036854775808
  | [], ks, h => by simp [keyInts] at h; subst h; simp
  | e :: l, ks, h => by
    simp only [keyInts, Option.bind_eq_some_iff] at h
    obtain ⟨n, h1, r, h2, h3⟩ := h
    cases h3
    obtain ⟨a, b, c⟩ := keyInt_eq h1
    obtain ⟨i1, i2⟩ := keyInts_eq h2
    exact ⟨by simp [a, i1], fun m hm => by
      rcases List.mem_cons.1 hm with rfl | hm
      · exact ⟨b, c⟩
      · exact i2 m hm⟩

/-- a disk's open blocks, told: the keys of the map in its second cell, sorted -/
def openK (P : Program) (gn : FuncId) (h : H) (id off : Nat) : Option (CV × Option H) :=
  match callK P noSums 60 gn [.ptr id off] h with
  | some (.bool false, none) => match (h.blk id).bind fun b => b.get (off + 1) with
    | some (.map m) => (h.mp m).bind fun p => (keyInts p.1).bind fun ks =>
        cond (stampOk p.1 p.2 && noDupI ks && Nat.ble p.1.length 1000000)
          (match ks with
           | [] => some (.nils, none)
           | _ :: _ => some (.sl h.nx 0 ks.length (.opn 1), some (h.alloc (.cells (fillB (sortI ks).length ((sortI ks).map (CV.int .i64))))))) none
    | _ => none
  | _ => none
def openS (P : Program) (go gn : FuncId) : Sums := fun f args h => cond (Nat.beq f go) (match args with | [.ptr id off] => openK P gn h id off | _ => none) none

theorem openS_at {P : Program} {go gn : FuncId} {f : FuncId} {args : List CV} {h : H} {v : CV} {x : Option H} (e : openS P go gn f args h = some (v, x)) :
    f = go ∧ ∃ id off, args = [.ptr id off] ∧ openK P gn h id off = some (v, x) := by
  unfold openS at e
  cases hb : Nat.beq f go <;> rw [hb] at e
  · cases e
  · refine ⟨Nat.eq_of_beq_eq_true hb, ?_⟩
    simp only [cond_true] at e
    split at e
    · exact ⟨_, _, rfl, e⟩
    · cases e
theorem openK_at {P : Program} {gn : FuncId} {h : H} {id off : Nat} {v : CV} {x : Option H} (e : openK P gn h id off = some (v, x)) :
    callC P noSums 60 gn [.ptr id off] h = some (.bool false, none) ∧ ∃ b m es c ks, h.blk id = some b ∧ b.get (off + 1) = some (.map m) ∧ h.mp m = some (es, c) ∧ keyInts es = some ks ∧ stampOk es c = true ∧ noDupI ks = true ∧ es.length ≤ 1000000 ∧
      ((ks = [] ∧ v = .nils ∧ x = none) ∨ (ks ≠ [] ∧ v = .sl h.nx 0 ks.length (.opn 1) ∧ x = some (h.alloc (.cells (fillB (sortI ks).length ((sortI ks).map (CV.int .i64))))))) := by
  unfold openK at e
  rw [callK_eq] at e
  split at e
  · rename_i hcall
    refine ⟨hcall, ?_⟩
    split at e
    · rename_i m hm
      simp only [Option.bind_eq_some_iff] at e hm
      obtain ⟨b, hb, hbg⟩ := hm
      obtain ⟨p, hp, ks, hks, e⟩ := e
      cases hcd : (stampOk p.1 p.2 && noDupI ks && Nat.ble p.1.length 1000000) <;> rw [hcd] at e
      · cases e
      · simp only [Bool.and_eq_true] at hcd
        refine ⟨b, m, p.1, p.2, ks, hb, hbg, hp, hks, hcd.1.1, hcd.1.2, Nat.le_of_ble_eq_true hcd.2, ?_⟩
        simp only [cond_true] at e
        cases ks with
        | nil => cases e; exact .inl ⟨rfl, rfl, rfl⟩
        | cons k ks => cases e; exact .inr ⟨by simp, rfl, rfl⟩
    · cases e
  · cases e

section
variable {P : Program} {w : World} {f : Val} {h : H}

/-- whatever a value is, it reads as nothing -/
def rdAny : Value → Option (DataW Unit × List MemPlace) := fun _ => some (.nil, [])

theorem owns_of {k : TypeId} (hk : P.underlying k = some (.int .i64)) (r : Rel f h w) {m : Nat} {es : List (CV × CV × Nat)} {c : Nat} (hm : h.mp m = some (es, c)) {ks : List Int} (hks : keyInts es = some ks)
    (hst : stampOk es c = true) (hn : noDupI ks = true) (hl : es.length ≤ 1000000) :
    ∃ D : DataW Unit, w.ownsMap P k rdAny (f.blk m) es.length D ∧ (intKeys D).Perm ks ∧ Maps.size D = es.length := by
  obtain ⟨_, hw, _⟩ := r.mp hm
  obtain ⟨hkeys, hwf⟩ := keyInts_eq hks
  have hkv : ∀ x ∈ es, ∃ n ∈ ks, x.1 = .int .i64 n := fun x hx => by
    have : x.1 ∈ ks.map (CV.int .i64) := by rw [← hkeys]; exact List.mem_map.2 ⟨x, hx, rfl⟩
    obtain ⟨n, hn, e⟩ := List.mem_map.1 this
    exact ⟨n, hn, e.symm⟩
  have hwf' : ∀ n ∈ ks, (Lit.int .i64 n).wf = true := fun n hn => by
    have := hwf n hn
    simp [Lit.wf, IntKind.min, IntKind.max, IntKind.signed, IntKind.bits]
    omega
  have hrd : ∀ x ∈ es, ∀ n, x.1 = .int .i64 n → rd P k rdAny (renE f x) = some (.int .i64 n, .nil) := fun x hx n e => by
    obtain ⟨n', hn', e'⟩ := hkv x hx
    rw [e] at e'; cases e'
    simp only [rd, renE, e, ren, Maps.keyOf_int_mk hk (hwf' n hn'), rdAny]
    rfl
  have hkl : (es.map (renE f)).map (rg P k rdAny) = ks.map fun n => ((Lit.int .i64 n, DataW.nil) : Lit × DataW Unit) := by
    have : es.map (fun x => rg P k rdAny (renE f x)) = (es.map fun e => e.1).map fun v => (match v with | .int _ n => ((Lit.int .i64 n, DataW.nil) : Lit × DataW Unit) | _ => (.bool false, .nil)) := by
      rw [List.map_map]
      refine List.map_congr_left fun x hx => ?_
      obtain ⟨n, _, e⟩ := hkv x hx
      rw [Go.WideElems.rg_of (hrd x hx n e)]
      simp [e]
    rw [List.map_map]
    refine Eq.trans this ?_
    rw [hkeys, List.map_map]
    rfl
  have hnd := noDupI_iff ks hn
  simp only [stampOk, Bool.and_eq_true, List.all_eq_true] at hst
  have hfit : Fit P k rdAny (es.map (renE f)).toArray c := by
    refine ⟨by simp [maxLen]; omega, ⟨fun x hx => ?_, ?_, ?_⟩, fun x hx => ?_⟩
    · simp only [List.mem_map] at hx
      obtain ⟨y, hy, rfl⟩ := hx
      exact Nat.blt_eq.mp (hst.1 y hy)
    · have := noDupN_iff _ hst.2
      simpa [List.map_map, Function.comp_def, renE] using this
    · have e1 : ((es.map (renE f)).toArray.toList.map fun x => x.key) = (es.map fun e => e.1).map (ren f) := by simp [List.map_map, Function.comp_def, renE]
      rw [e1, hkeys, List.map_map]
      refine List.pairwise_map.2 (hnd.imp fun hne e => hne ?_)
      simpa [ren] using e
    · simp only [List.mem_map] at hx
      obtain ⟨y, hy, rfl⟩ := hx
      obtain ⟨n, _, e⟩ := hkv y hy
      exact ⟨_, hrd y hy n e⟩
  refine ⟨_, ⟨_, c, hw, hfit, by simp, rfl⟩, ?_, ?_⟩
  · show (List.map (fun p : Lit × DataW Unit => Go.intOf p.1) _).Perm ks
    have hp := (Go.WideShapes.sorted_perm ((es.map (renE f)).toArray.toList.map (rg P k rdAny))).map (fun p : Lit × DataW Unit => Go.intOf p.1)
    refine hp.trans ?_
    show (List.map (fun p : Lit × DataW Unit => Go.intOf p.1) ((es.map (renE f)).map (rg P k rdAny))).Perm ks
    rw [hkl, List.map_map]
    show (List.map (fun n => n) ks).Perm ks
    simp
  · rw [Maps.size_eq]
    have := (Go.WideShapes.sorted_perm ((es.map (renE f)).toArray.toList.map (rg P k rdAny))).length_eq
    rw [this]; simp

/-- a block that is new to the evaluator, of which it sees the first cells -/
theorem Step.adopt {w' : World} (r : Rel f h w) (k : Keeps w w') {g cap : Nat} {cs : Array Value} {t : TypeId} {vs : List CV} (hg : w.heap.size ≤ g) (hb : w'.heap[g]? = some (.cells cs t (0, 0)))
    (ho : ∀ v ∈ vs, v.one = true ∧ ok 0 v) (hcs : cs.toList.take vs.length = renL f vs) (hc : vs.length ≤ cap) (hc' : cap ≤ cs.size) :
    Step f h w (f.add h.nx g 0 cap) (h.alloc (.cells (fillB vs.length vs))) w' := by
  have hag := Val.add_agree f h.nx g 0 cap
  have hbk : ∀ i, i < h.nx → (f.add h.nx g 0 cap).blk i = f.blk i := fun i hi => ((hag i hi).1).symm
  have hO : ObjOk (h.nx + 1) (f.add h.nx g 0 cap) h.nx (.cells (fillB vs.length vs)) (.cells cs t (0, 0)) := by
    refine .cells ⟨.inr (.inl rfl), by rw [fillB_n, Val.add_ext]; exact hc, by rw [Val.add_base, Val.add_ext]; omega, fun i hi => ?_⟩ (TyOk.none (fillB_ty _ _))
    rw [fillB_n] at hi
    have hv : vs[i]? = some vs[i] := List.getElem?_eq_getElem hi
    have hm : vs[i] ∈ vs := List.getElem_mem hi
    refine ⟨vs[i], by rw [fill_get rfl, hv], (ho _ hm).1, ok_mono (Nat.zero_le _) _ (ho _ hm).2, ?_⟩
    rw [Val.add_base, Nat.zero_add, ← ren_congr (Agree.mono hag (Nat.zero_le _)) _ (ho _ hm).2, ← Array.getElem?_toList]
    have e1 : (cs.toList.take vs.length)[i]? = cs.toList[i]? := by rw [List.getElem?_take, if_pos hi]
    rw [← e1, hcs, renL_eq, List.getElem?_map, hv]
    rfl
  refine ⟨⟨fun i p hp => ?_, fun i j p q hp hq hr e => ?_, fun g' hg' => ⟨by have := (r.glob g' hg').1; simp only [H.alloc]; omega, by rw [hbk g' (r.glob g' hg').1]; exact (r.glob g' hg').2.1, by rw [← (hag g' (r.glob g' hg').1).2.1]; exact (r.glob g' hg').2.2⟩⟩, hag, by simp [H.alloc], rfl, k.os, k.tape, k.output, k.size, fun j hj _ => k.get j hj, fun i p hp => ?_, Nat.le_refl _, fun i hi _ => ?_⟩
  · simp only [H.alloc] at hp ⊢
    rw [T.get_set] at hp
    split at hp
    · rename_i e
      cases hp; subst e
      exact ⟨by omega, _, by rw [Val.add_blk]; exact hb, hO⟩
    · obtain ⟨h1, Q, h2, h3⟩ := r.obj i p hp
      exact ⟨by omega, Q, by rw [hbk i h1, k.get _ (r.lt hp)]; exact h2, h3.mono hag (by omega) h1⟩
  · simp only [H.alloc] at hp hq
    rw [T.get_set] at hp hq
    split at hp <;> split at hq
    · omega
    · rename_i e1 e2; subst e1
      have := r.lt hq
      rw [Val.add_blk, hbk j (r.obj j q hq).1] at e
      omega
    · rename_i e1 e2; subst e2
      have := r.lt hp
      rw [Val.add_blk, hbk i (r.obj i p hp).1] at e
      omega
    · rw [hbk i (r.obj i p hp).1, hbk j (r.obj j q hq).1] at e
      exact r.inj _ _ _ _ hp hq hr e
  · simp only [H.alloc] at hp
    rw [T.get_set] at hp
    split at hp
    · rename_i e; subst e; exact .inr (by simpa using hg)
    · exact .inl ⟨i, p, hp, fun h => h, (hbk i (r.obj i p hp).1).symm⟩
  · simp only [H.alloc]
    rw [T.get_set_ne _ _ (by omega)]

theorem Keeps.below {w' : World} (b : Below w.heap.size w w') : Keeps w w' := ⟨b.os, b.tape, b.output, b.size, b.block⟩
theorem Keeps.trans {w' w'' : World} (a : Keeps w w') (b : Keeps w' w'') : Keeps w w'' :=
  ⟨b.os.trans a.os, b.tape.trans a.tape, b.output.trans a.output, Nat.le_trans a.size b.size, fun k hk => (b.get k (Nat.lt_of_lt_of_le hk a.size)).trans (a.get k hk)⟩
end
end
end Go.Cl

namespace Go.Cl.Sh
noncomputable section
variable {σ : Sums}
set_option maxRecDepth 1000000

theorem storeA_ok (new : List CV) (b : Blk) (off : Nat) (h : off + new.length ≤ b.n) (ho : new.all CV.one = true) : ∃ b', b.storeA off new = some b' ∧ b'.n = b.n ∧ b'.ro = b.ro ∧ ∀ i, b'.get i = if off ≤ i ∧ i < off + new.length then nth new (i - off) else b.get i := by
  have : ∃ b', b.storeA off new = some b' := by
    obtain ⟨b1, e1, _⟩ := storeN_ok new b off h ho
    unfold Blk.storeA
    cases (Nat.blt 24 new.length && Nat.ble (off + new.length) b.n)
    · exact ⟨b1, e1⟩
    · rw [cond_true]
      cases b.loadF 0 b.n with
      | none => exact ⟨b1, e1⟩
      | some l => rw [ho]; exact ⟨_, rfl⟩
  obtain ⟨b', e⟩ := this
  obtain ⟨h1, h2, _, _, h5⟩ := storeA_spec e
  exact ⟨b', e, h1, h2, fun i => by rw [h5]; split <;> simp [nth_eq]⟩
theorem nlt {α : Type} {l : List α} {i : Nat} {v : α} (h : nth l i = some v) : i < l.length := by
  by_cases q : i < l.length
  · exact q
  · rw [nth_none _ _ (by omega)] at h; cases h
theorem okBL_all {n : Nat} : ∀ {l : List CV}, (∀ c ∈ l, okB n c = true) → okBL n l = true
  | [], _ => rfl
  | c :: l, h => by rw [okBL_cons, h c (by simp), okBL_all fun c hc => h c (by simp [hc])]; rfl
theorem store_step {β : Type} {Q : Option β → Prop} {b : Blk} {L : List CV} {K : H → Option β} {f : Blk → H} (hl : L.length = b.n) (ho : L.all CV.one = true) 
    (k : ∀ b', b'.n = b.n → b'.ro = b.ro → b'.loadN 0 b.n = some L → (∀ i, b'.get i = nth L i) → Q (K (f b'))) : Q (@thn _ β (Option.map f (b.storeA 0 L)) ⟨K⟩) := by
  obtain ⟨b', e, h1, h2, h3⟩ := storeA_ok L b 0 (by omega) ho
  rw [e]
  have hg : ∀ i, b'.get i = nth L i := fun i => by
    rw [h3, Nat.zero_add]
    by_cases h : i < L.length
    · rw [if_pos ⟨Nat.zero_le _, h⟩]; rfl
    · rw [if_neg (fun q => h q.2), nth_none _ _ (by omega)]; exact get_none (by omega)
  exact k b' h1 h2 (loadN_of _ _ _ hl fun i v hv => by rw [Nat.zero_add, hg, hv]) hg
theorem wrap_n {x : Int} {n : Nat} (e : x = Int.ofNat n) (h : n < 1000000000000) : IntKind.wrap .i64 x = Int.ofNat n := by
  rw [e, wrap_i64 (by simp) (by simp; omega)]
def bc (l : List Nat) : List CV := l.map u8
theorem bc_len (l : List Nat) : (bc l).length = l.length := by simp [bc]
theorem bc_app (a b : List Nat) : bc (a ++ b) = bc a ++ bc b := by simp [bc]
theorem bc_one (l : List Nat) : (bc l).all CV.one = true := List.all_eq_true.2 fun x hx => by
  obtain ⟨b, _, rfl⟩ := List.mem_map.1 hx; rfl
def zs (n : Nat) : List Nat := List.replicate n 0
theorem loadN_app {b : Blk} : ∀ (m n off : Nat), b.loadN off (m + n) = (b.loadN off m).bind fun x => (b.loadN (off + m) n).map fun y => x ++ y
  | 0, n, off => by simp [loadN_z, Nat.zero_add]
  | m + 1, n, off => by
    rw [show m + 1 + n = (m + n) + 1 by omega, loadN_s, loadN_s, loadN_app m n (off + 1)]
    cases b.get off with
    | none => rfl
    | some v =>
      simp only [bind_some']
      rw [show off + (m + 1) = off + 1 + m by omega]
      cases b.loadN (off + 1) m with
      | none => rfl
      | some x => simp only [bind_some']; cases b.loadN (off + 1 + m) n <;> rfl
end
end Go.Cl.Sh

namespace Go.Cl.Sh
noncomputable section
variable {σ : Sums}
set_option maxRecDepth 1000000

/-- an open block: its number, the row of what was written, when it came -/
structure En where
  (k : Nat) (v : CV) (id : Nat) (vs : List (List Nat)) (born : Nat)
def En.cv (e : En) : CV × CV × Nat := (.int .i64 (Int.ofNat e.k), e.v, e.born)
def findE (k : Nat) : List En → Nat → Option (Nat × En)
  | [], _ => none
  | e :: l, i => if e.k = k then some (i, e) else findE k l (i + 1)
def vsOf (es : List En) (k : Nat) : List (List Nat) := match findE k es 0 with | some (_, e) => e.vs | none => []
def vOf' (es : List En) (k : Nat) : CV := match findE k es 0 with | some (_, e) => e.v | none => .nils
theorem keyEq_i (a b : Nat) : keyEq (.int .i64 (Int.ofNat a)) (.int .i64 (Int.ofNat b)) = some (decide (a = b)) := by
  show cond (IntKind.i64 == IntKind.i64) (some (Int.ofNat a == Int.ofNat b)) none = _
  have : (Int.ofNat a == Int.ofNat b) = decide (a = b) := by
    rw [Bool.eq_iff_iff, beq_iff_eq, decide_eq_true_eq]
    exact ⟨fun e => Int.ofNat.inj e, fun e => by rw [e]⟩
  rw [this]; rfl
theorem findKF_i (k : Nat) : ∀ (es : List En) (i : Nat), findKF (.int .i64 (Int.ofNat k)) (es.map En.cv) i = some ((findE k es i).map fun p => (p.1, p.2.v))
  | [], _ => rfl
  | e :: l, i => by
    simp only [List.map_cons, findKF, En.cv, keyEq_i, Option.bind_some, findE]
    by_cases q : e.k = k
    · rw [decide_eq_true q.symm, cond_true, if_pos q]; rfl
    · rw [decide_eq_false (fun h => q h.symm), cond_false, if_neg q]
      exact findKF_i k l (i + 1)
theorem findE_shift (k : Nat) : ∀ (es : List En) (i : Nat), findE k es i = (findE k es 0).map fun p => (p.1 + i, p.2)
  | [], _ => rfl
  | e :: l, i => by
    simp only [findE]
    by_cases q : e.k = k
    · rw [if_pos q, if_pos q, Option.map_some, Nat.zero_add]
    · rw [if_neg q, if_neg q, findE_shift k l (i + 1), findE_shift k l (0 + 1)]
      cases findE k l 0 with
      | none => rfl
      | some p => simp [Nat.add_assoc, Nat.add_comm 1 i]
theorem findE_spec {k : Nat} : ∀ {es : List En} {j : Nat} {e : En}, findE k es 0 = some (j, e) → es[j]? = some e ∧ e.k = k
  | [], _, _, h => by cases h
  | a :: l, j, e, h => by
    simp only [findE] at h
    by_cases q : a.k = k
    · rw [if_pos q] at h; cases h; exact ⟨rfl, q⟩
    · rw [if_neg q, findE_shift] at h
      cases hf : findE k l 0 with
      | none => rw [hf] at h; cases h
      | some p =>
        rw [hf] at h; cases h
        obtain ⟨h1, h2⟩ := findE_spec (j := p.1) (e := p.2) hf
        exact ⟨by simpa using h1, h2⟩
theorem keyOk_i (k : Nat) : keyOk Try.prog 3 (.int .i64 (Int.ofNat k)) = true := by
  unfold keyOk; rw [Try.underlying3]
theorem zero_rb : zeroT Try.prog 30 = some .nils := by kernel_rfl
theorem lookup_i {h : H} {m c : Nat} {es : List En} (hm : h.mp m = some (es.map En.cv, c)) (k : Nat) :
    lookupT Try.prog h 46 (.map m) (.int .i64 (Int.ofNat k)) false = some (vOf' es k) := by
  unfold lookupT vOf'
  rw [Try.underlying46, Option.bind_some]
  simp only [keyOk_i, cond_true, hm, Option.map_some, Option.bind_some, findK, findKF_i]
  cases findE k es 0 with
  | none => simp [zero_rb]
  | some p => simp
/-- a row laid under a number -/
def putE' (es : List En) (k : Nat) (v : CV) (id : Nat) (vs : List (List Nat)) (c : Nat) : List En := match findE k es 0 with
  | some (j, e) => es.modify j fun e => ⟨k, v, id, vs, e.born⟩
  | none => es ++ [⟨k, v, id, vs, c⟩]
def putC (es : List En) (k c : Nat) : Nat := match findE k es 0 with | some _ => c | none => c + 1
theorem map_modify {α β : Type} (f : α → β) (g : α → α) (g' : β → β) (h : ∀ a, f (g a) = g' (f a)) : ∀ (l : List α) (i : Nat), (l.modify i g).map f = (l.map f).modify i g'
  | [], i => by simp
  | a :: l, 0 => by simp [h]
  | a :: l, i + 1 => by simp [map_modify f g g' h l i]
theorem update_i {h : H} {m c : Nat} {es : List En} (hm : h.mp m = some (es.map En.cv, c)) (k : Nat) (v : CV) (id : Nat) (vs : List (List Nat)) :
    mapUpdateT Try.prog h 46 (.map m) (.int .i64 (Int.ofNat k)) v = some (h.put m (.map ((putE' es k v id vs c).map En.cv) (putC es k c))) := by
  unfold mapUpdateT putE' putC
  rw [Try.underlying46, Option.bind_some]
  simp only [keyOk_i, cond_true, hm, Option.bind_some, findK, findKF_i]
  cases findE k es 0 with
  | none => simp [En.cv]
  | some p =>
    simp only [Option.map_some]
    rw [map_modify En.cv _ (fun e => (.int .i64 (Int.ofNat k), v, e.2.2)) (fun a => rfl)]
    rfl
def delE (es : List En) (k : Nat) : List En := match findE k es 0 with | some (j, _) => es.eraseIdx j | none => es
theorem map_erase {α β : Type} (f : α → β) : ∀ (l : List α) (i : Nat), (l.eraseIdx i).map f = (l.map f).eraseIdx i
  | [], i => by simp
  | a :: l, 0 => by simp
  | a :: l, i + 1 => by simp [map_erase f l i]
theorem delete_i {h : H} {m c : Nat} {es : List En} (hm : h.mp m = some (es.map En.cv, c)) (k : Nat) :
    deleteT Try.prog h 46 (.map m) (.int .i64 (Int.ofNat k)) = some (h.put m (.map ((delE es k).map En.cv) c)) := by
  unfold deleteT delE
  rw [Try.underlying46, Option.bind_some]
  simp only [keyOk_i, cond_true, hm, Option.bind_some, findK, findKF_i]
  cases findE k es 0 with
  | none => simp
  | some p =>
    simp only [Option.map_some]
    rw [map_erase]
end
end Go.Cl.Sh

namespace Go.Cl.Sh
noncomputable section
variable {σ : Sums}
set_option maxRecDepth 1000000

def keysE (es : List En) : List Nat := es.map (·.k)
theorem findE_none {k : Nat} : ∀ {es : List En}, findE k es 0 = none ↔ k ∉ keysE es
  | [] => by simp [findE, keysE]
  | a :: l => by
    simp only [findE, keysE, List.map_cons, List.mem_cons, not_or]
    by_cases q : a.k = k
    · rw [if_pos q]; simp [q]
    · rw [if_neg q, findE_shift]
      have := findE_none (k := k) (es := l)
      simp only [keysE] at this
      cases hf : findE k l 0 with
      | none => simp [Ne.symm q, this.1 hf]
      | some p =>
        have hm : k ∈ l.map (·.k) := by
          obtain ⟨h1, h2⟩ := findE_spec (j := p.1) (e := p.2) hf
          exact List.mem_map.2 ⟨p.2, List.mem_of_getElem? h1, h2⟩
        simp [hm]
theorem findE_at {k : Nat} {e : En} : ∀ {es : List En} {j : Nat}, (keysE es).Nodup → es[j]? = some e → e.k = k → findE k es 0 = some (j, e)
  | [], j, _, h, _ => by simp at h
  | a :: l, 0, _, h, hk => by
    simp at h; subst h
    simp [findE, hk]
  | a :: l, j + 1, hn, h, hk => by
    simp only [keysE, List.map_cons, List.nodup_cons] at hn
    have h' : l[j]? = some e := by simpa using h
    have hne : a.k ≠ k := fun q => hn.1 (List.mem_map.2 ⟨e, List.mem_of_getElem? h', by rw [hk, q]⟩)
    simp only [findE]
    rw [if_neg hne, findE_shift, findE_at hn.2 h' hk]
    rfl
/-- what stands in the map, as the heap has it -/
structure EnOk (h : H) (es : List En) (c : Nat) : Prop where
  keys : (keysE es).Nodup
  ids : ∀ e ∈ es, ∀ e' ∈ es, e.k ≠ e'.k → e.id ≠ e'.id
  born : (es.map (·.born)).Nodup
  lt : ∀ e ∈ es, e.born < c
  row : ∀ e ∈ es, Lst h 256 e.v e.id e.vs.length (e.vs.flatMap bc) ∧ 0 < e.vs.length ∧ e.vs.length ≤ 1000000 ∧ ∀ x ∈ e.vs, x.length = 256
theorem putE_new {es : List En} {k : Nat} {v : CV} {id : Nat} {vs : List (List Nat)} {c : Nat} (h : k ∉ keysE es) : putE' es k v id vs c = es ++ [⟨k, v, id, vs, c⟩] ∧ putC es k c = c + 1 := by
  unfold putE' putC; rw [findE_none.2 h]; exact ⟨rfl, rfl⟩
theorem putE_old {es : List En} {k : Nat} {v : CV} {id : Nat} {vs : List (List Nat)} {c j : Nat} {e : En} (h : findE k es 0 = some (j, e)) : putE' es k v id vs c = es.modify j (fun e => ⟨k, v, id, vs, e.born⟩) ∧ putC es k c = c := by
  unfold putE' putC; rw [h]; exact ⟨rfl, rfl⟩
theorem keys_put (es : List En) (k : Nat) (v : CV) (id : Nat) (vs : List (List Nat)) (c : Nat) : (∀ x, x ∈ keysE (putE' es k v id vs c) ↔ x = k ∨ x ∈ keysE es) := by
  intro x
  by_cases q : k ∈ keysE es
  · cases hf : findE k es 0 with
    | none => exact absurd q (findE_none.1 hf)
    | some p =>
      obtain ⟨h1, h2⟩ := findE_spec (j := p.1) (e := p.2) hf
      rw [(putE_old hf).1]
      have : keysE (es.modify p.1 fun e => ⟨k, v, id, vs, e.born⟩) = keysE es := by
        unfold keysE
        apply List.ext_getElem?; intro i
        rw [List.getElem?_map, List.getElem?_map, List.getElem?_modify]
        by_cases qi : p.1 = i
        · subst qi; rw [h1]; simp [h2]
        · simp [qi]
      rw [this]
      exact ⟨.inr, fun h => h.elim (fun h => h ▸ q) fun h => h⟩
  · rw [(putE_new q).1]
    unfold keysE
    simp only [List.map_append, List.map_cons, List.map_nil, List.mem_append, List.mem_singleton]
    exact ⟨fun h => h.elim .inr .inl, fun h => h.elim .inr .inl⟩
theorem keysE_modify {es : List En} {k j : Nat} {e : En} {v : CV} {id : Nat} {vs : List (List Nat)} (h : findE k es 0 = some (j, e)) : keysE (es.modify j fun e => ⟨k, v, id, vs, e.born⟩) = keysE es := by
  obtain ⟨h1, h2⟩ := findE_spec h
  unfold keysE
  apply List.ext_getElem?; intro i
  rw [List.getElem?_map, List.getElem?_map, List.getElem?_modify]
  by_cases qi : j = i
  · subst qi; rw [h1]; simp [h2]
  · simp [qi]
theorem vsOf_put {es : List En} (hn : (keysE es).Nodup) (k : Nat) (v : CV) (id : Nat) (vs : List (List Nat)) (c x : Nat) : vsOf (putE' es k v id vs c) x = if x = k then vs else vsOf es x := by
  by_cases q : k ∈ keysE es
  · cases hf : findE k es 0 with
    | none => exact absurd q (findE_none.1 hf)
    | some p =>
      obtain ⟨j, e⟩ := p
      obtain ⟨h1, h2⟩ := findE_spec hf
      have hk := keysE_modify (v := v) (id := id) (vs := vs) hf
      rw [(putE_old hf).1]
      have hn' : (keysE (es.modify j fun e => ⟨k, v, id, vs, e.born⟩)).Nodup := by rw [hk]; exact hn
      by_cases qx : x = k
      · subst qx
        rw [if_pos rfl]
        unfold vsOf
        rw [findE_at (j := j) (e := ⟨x, v, id, vs, e.born⟩) hn' (by rw [List.getElem?_modify, h1]; simp) rfl]
      · rw [if_neg qx]
        unfold vsOf
        cases hx : findE x es 0 with
        | none => rw [findE_none.2 (by rw [hk]; exact findE_none.1 hx)]
        | some r =>
          obtain ⟨i, e2⟩ := r
          obtain ⟨g1, g2⟩ := findE_spec hx
          have hij : j ≠ i := fun q => by subst q; rw [h1] at g1; cases g1; exact qx (g2.symm.trans h2)
          rw [findE_at (j := i) (e := e2) hn' (by rw [List.getElem?_modify, g1]; simp [hij]) g2]
  · rw [(putE_new q).1]
    have hn' : (keysE (es ++ [⟨k, v, id, vs, c⟩])).Nodup := by
      unfold keysE at hn q ⊢
      rw [List.map_append, List.nodup_append]
      exact ⟨hn, by simp, fun a ha b hb => by simp at hb; subst hb; intro e; subst e; exact q ha⟩
    by_cases qx : x = k
    · subst qx
      rw [if_pos rfl]
      unfold vsOf
      rw [findE_at (j := es.length) (e := ⟨x, v, id, vs, c⟩) hn' (by simp) rfl]
    · rw [if_neg qx]
      unfold vsOf
      cases hx : findE x es 0 with
      | none =>
        rw [findE_none.2]
        have := findE_none.1 hx
        unfold keysE at this ⊢
        simp [List.map_append, qx] at this ⊢
        exact this
      | some r =>
        obtain ⟨i, e2⟩ := r
        obtain ⟨g1, g2⟩ := findE_spec hx
        rw [findE_at (j := i) (e := e2) hn' (by rw [List.getElem?_append_left (List.getElem?_eq_some_iff.1 g1).1]; exact g1) g2]
theorem vsOf_del {es : List En} (hn : (keysE es).Nodup) (k x : Nat) : vsOf (delE es k) x = if x = k then [] else vsOf es x := by
  unfold delE
  cases hf : findE k es 0 with
  | none =>
    by_cases qx : x = k
    · subst qx; rw [if_pos rfl]; unfold vsOf; rw [hf]
    · rw [if_neg qx]
  | some p =>
    obtain ⟨j, e⟩ := p
    obtain ⟨h1, h2⟩ := findE_spec hf
    have hj := (List.getElem?_eq_some_iff.1 h1).1
    have hke : keysE (es.eraseIdx j) = (keysE es).eraseIdx j := by unfold keysE; rw [map_erase]
    have hn' : (keysE (es.eraseIdx j)).Nodup := by rw [hke]; exact hn.sublist (List.eraseIdx_sublist _ _)
    by_cases qx : x = k
    · subst qx
      rw [if_pos rfl]
      unfold vsOf
      rw [findE_none.2]
      rw [hke]
      intro hm
      have hkj : (keysE es)[j]? = some x := by unfold keysE; rw [List.getElem?_map, h1]; simp [h2]
      obtain ⟨i, hi⟩ := List.getElem?_of_mem hm
      rw [List.getElem?_eraseIdx] at hi
      have uniq : ∀ i', (keysE es)[i']? = some x → i' = j := fun i' hi' => by
        exact (List.getElem?_inj (List.getElem?_eq_some_iff.1 hi').1 hn).1 (hi'.trans hkj.symm)
      split at hi
      · have := uniq _ hi; omega
      · have := uniq _ hi; omega
    · rw [if_neg qx]
      unfold vsOf
      cases hx : findE x es 0 with
      | none =>
        rw [findE_none.2]
        rw [hke]
        exact fun hm => findE_none.1 hx ((List.eraseIdx_sublist _ _).subset hm)
      | some r =>
        obtain ⟨i, e2⟩ := r
        obtain ⟨g1, g2⟩ := findE_spec hx
        have hij : j ≠ i := fun q => by subst q; rw [h1] at g1; cases g1; exact qx (g2.symm.trans h2)
        rcases Nat.lt_or_ge i j with hlt | hge
        · rw [findE_at (j := i) (e := e2) hn' (by rw [List.getElem?_eraseIdx, if_pos hlt]; exact g1) g2]
        · rw [findE_at (j := i - 1) (e := e2) hn' (by rw [List.getElem?_eraseIdx, if_neg (by omega), show i - 1 + 1 = i by omega]; exact g1) g2]
end
end Go.Cl.Sh

namespace Go.Cl.Sh
noncomputable section
variable {σ : Sums}
set_option maxRecDepth 1000000

def dkf (f : FuncId) : Bool := [7, 24, 28, 30, 29, 25, 14, 15, 16].contains f
structure DkB (b : Blk) (lid mid n : Nat) : Prop where
  n6 : b.n = 6
  ro : b.ro = false
  g0 : b.get 0 = some (.sl lid 0 n (.exact n))
  g1 : b.get 1 = some (.map mid)
  g2 : b.get 2 = some (.bool false)
  g3 : b.get 3 = some (.int .i64 0)
  g4 : b.get 4 = some (.bool false)
  g5 : b.get 5 = some (.bool false)
structure DkOk (h : H) (d lid mid n : Nat) (last : List (List Nat)) (es : List En) (c : Nat) : Prop where
  dlt : d < h.nx
  llt : lid < h.nx
  mlt : mid < h.nx
  db : ∃ b, h.blk d = some b ∧ DkB b lid mid n
  lb : ∃ b, h.blk lid = some b ∧ b.n = n * 256 ∧ b.ro = false ∧ ∀ i x, last[i]? = some x → b.loadN (i * 256) 256 = some (bc x)
  len : last.length = n
  npos : 0 < n
  nle : n ≤ 1000
  l256 : ∀ x ∈ last, x.length = 256
  mp : h.mp mid = some (es.map En.cv, c)
  en : EnOk h es c
  ne1 : d ≠ lid
  ne2 : ∀ e ∈ es, e.id ≠ d ∧ e.id ≠ lid
  kn : ∀ k ∈ keysE es, k < n

theorem none_run (hσ : ∀ f a h, dkf f = true → σ f a h = none) {h : H} {d : Nat} {b : Blk} {lid mid n : Nat} (hb : h.blk d = some b) (B : DkB b lid mid n) (hn : 0 < n) :
    (lim Try.prog σ).call 24 [.ptr d 0] h = some (.bool false, none) := by
  rw [call_eq (hσ _ _ _ rfl) fn_24 rfl rfl, Try.ntmps24, Try.results24]
  have c0 : ¬ Int.ofNat n = 0 := by simp; omega
  simp only [go_sem, hb, B.g0, c0]
  rw [fin_q _ _ _ rfl rfl]
theorem there_run (hσ : ∀ f a h, dkf f = true → σ f a h = none) {h : H} {d : Nat} {b : Blk} {lid mid n : Nat} (hb : h.blk d = some b) (B : DkB b lid mid n) (hn : 0 < n) (hn2 : n ≤ 1000) (i : Int) :
    (lim Try.prog σ).call 28 [.ptr d 0, .int .i64 i] h = some (.int .i64 (if 0 ≤ i ∧ i < Int.ofNat n then 0 else 2), none) := by
  rw [call_eq (hσ _ _ _ rfl) fn_28 rfl rfl, Try.ntmps28, Try.results28]
  have e := none_run hσ (h := h.lo) hb B hn
  by_cases c1 : i < 0
  · simp only [go_sem, hb, B.g0, B.g5, e, c1]
    rw [fin_q _ _ _ rfl rfl, if_neg (by omega)]
  · by_cases c2 : i ≥ Int.ofNat n
    · simp only [go_sem, hb, B.g0, B.g5, e, c1, c2]
      rw [fin_q _ _ _ rfl rfl, if_neg (by omega)]
    · simp only [go_sem, hb, B.g0, B.g5, e, c1, c2]
      rw [fin_q _ _ _ rfl rfl, if_pos (by omega)]
theorem step_run (hσ : ∀ f a h, dkf f = true → σ f a h = none) {h : H} {d : Nat} {b : Blk} {lid mid n : Nat} (hb : h.blk d = some b) (B : DkB b lid mid n) :
    (lim Try.prog σ).call 30 [.ptr d 0] h = some (.int .i64 0, none) := by
  rw [call_eq (hσ _ _ _ rfl) fn_30 rfl rfl, Try.ntmps30, Try.results30]
  simp only [go_sem, hb, B.g2, B.g4]
  rw [fin_q _ _ _ rfl rfl]
theorem alloc_mp_ne {h : H} {o : CObj} {m : Nat} (q : m ≠ h.nx) : (h.alloc o).mp m = h.mp m := by
  unfold H.mp; rw [alloc_get_ne _ _ _ q]
/-- what is read of a block -/
def seenL (last : List (List Nat)) (es : List En) (k : Nat) : List Nat := ((vsOf es k).getLast?).getD ((last[k]?).getD [])
theorem DkOk.look {h : H} {d lid mid n : Nat} {last : List (List Nat)} {es : List En} {c : Nat} (D : DkOk h d lid mid n last es c) (k : Nat) :
    (vOf' es k = .nils ∧ vsOf es k = [] ∧ findE k es 0 = none) ∨ ∃ j e, findE k es 0 = some (j, e) ∧ vOf' es k = e.v ∧ vsOf es k = e.vs ∧ e ∈ es := by
  unfold vOf' vsOf
  cases q : findE k es 0 with
  | none => exact .inl ⟨rfl, rfl, rfl⟩
  | some p => exact .inr ⟨p.1, p.2, rfl, rfl, rfl, List.mem_of_getElem? (findE_spec (j := p.1) (e := p.2) q).1⟩
theorem load_row {b : Blk} {vs : List (List Nat)} (hg : ∀ i, b.get i = nth (vs.flatMap bc) i) (h256' : ∀ x ∈ vs, x.length = 256) {i : Nat} {x : List Nat} (hx : vs[i]? = some x) : b.loadN (i * 256) 256 = some (bc x) := by
  have hl : ∀ (vs : List (List Nat)), (∀ x ∈ vs, x.length = 256) → ∀ (i j : Nat) (x : List Nat), vs[i]? = some x → j < 256 → nth (vs.flatMap bc) (i * 256 + j) = nth (bc x) j := by
    intro vs
    induction vs with
    | nil => intro _ i j x hx; simp at hx
    | cons a l ih =>
      intro ha i j x hx hj
      have h1 : (bc a).length = 256 := by rw [bc_len]; exact ha a (by simp)
      rw [List.flatMap_cons, nth_app, h1]
      cases i with
      | zero =>
        simp at hx; subst hx
        rw [if_pos (by omega), Nat.zero_mul, Nat.zero_add]
      | succ i =>
        rw [if_neg (by omega), show (i + 1) * 256 + j - 256 = i * 256 + j by omega]
        exact ih (fun y hy => ha y (by simp [hy])) i j x (by simpa using hx) hj
  have h256 : x.length = 256 := h256' x (List.mem_of_getElem? hx)
  refine loadN_of _ _ _ (by rw [bc_len, h256]) fun j v hv => ?_
  have hj := nlt hv
  rw [bc_len, h256] at hj
  rw [hg, hl vs h256' i j x hx hj, hv]
theorem ze_blk : zeroT Try.prog 33 = some (.agg (bc (zs 256))) := by kernel_rfl
theorem okB_bc (n : Nat) (l : List Nat) : okB n (.agg (bc l)) = true := by
  rw [okB_agg]; exact okBL_all fun c hc => by obtain ⟨p, _, rfl⟩ := List.mem_map.1 hc; rfl
theorem seen_run (hσ : ∀ f a h, dkf f = true → σ f a h = none) {h : H} {d lid mid n : Nat} {last : List (List Nat)} {es : List En} {c : Nat} (D : DkOk h d lid mid n last es c) {k : Nat} (hk : k < n) :
    (lim Try.prog σ).call 29 [.ptr d 0, .int .i64 (Int.ofNat k)] h = some (.agg (bc (seenL last es k)), none) := by
  rw [call_eq (hσ _ _ _ rfl) fn_29 rfl rfl, Try.ntmps29, Try.results29]
  obtain ⟨b, hb, B⟩ := D.db
  obtain ⟨l, hl, hln, hlr, hlg⟩ := D.lb
  have d1 := Nat.ne_of_lt D.dlt
  have d2 := Nat.ne_of_lt D.llt
  have d3 := Nat.ne_of_lt D.mlt
  have hlk : ∀ o, lookupT Try.prog (h.lo.alloc o) 46 (.map mid) (.int .i64 (Int.ofNat k)) false = some (vOf' es k) := fun o => lookup_i (by rw [alloc_mp_ne (by exact d3)]; exact D.mp) k
  obtain ⟨Q, hQ⟩ : ∃ Q : Option (CV × Option H) → Prop, Q = fun r => r = some (.agg (bc (seenL last es k)), none) := ⟨_, rfl⟩
  suffices Q _ by rw [hQ] at this; exact this
  rcases D.look k with ⟨h1, h2, _⟩ | ⟨j, e, h1, h2, h3, h4⟩
  · rw [h1] at hlk
    obtain ⟨x, hx⟩ : ∃ x, last[k]? = some x := ⟨_, List.getElem?_eq_getElem (by rw [D.len]; exact hk)⟩
    have hs : seenL last es k = x := by unfold seenL; rw [h2, hx]; rfl
    have h256 := D.l256 x (List.mem_of_getElem? hx)
    have hld := hlg k x hx
    have hbl : (bc x).length = 256 := by rw [bc_len, h256]
    simp only [go_sem, hb, B.g0, B.g1, d1, d2, d3, hlk, hl, hk, hld, hbl, Nat.zero_add, ze_blk, bc_one, bc_len]
    refine store_step (Q := Q) (by rw [hbl, allocB_n, bc_len]; rfl) (bc_one _) fun b' h1 h2 h3 h4 => ?_
    rw [allocB_n, bc_len, show (zs 256).length = 256 from rfl] at h3
    simp only [go_sem, h3]
    rw [fin_q _ _ _ (by simp only [go_sem]; omega) (okB_bc _ _), hQ, hs]
  · obtain ⟨L, hv0, hv1, hv256⟩ := D.en.row e h4
    rcases L.val with ⟨h0, _⟩ | ⟨h0, ev, hid, b2, hb2, hro, hn2, hg2⟩
    · omega
    rw [h2, ev] at hlk
    obtain ⟨x, hx⟩ : ∃ x, e.vs[e.vs.length - 1]? = some x := ⟨_, List.getElem?_eq_getElem (by omega)⟩
    have hs : seenL last es k = x := by unfold seenL; rw [h3, List.getLast?_eq_getElem?, hx]; rfl
    have h256 := hv256 x (List.mem_of_getElem? hx)
    have hld := load_row hg2 hv256 hx
    have hbl : (bc x).length = 256 := by rw [bc_len, h256]
    have d4 := Nat.ne_of_lt hid
    have c0 : Int.ofNat e.vs.length > 0 := by simp; omega
    have w1 : IntKind.wrap .i64 (Int.ofNat e.vs.length - 1) = Int.ofNat (e.vs.length - 1) := wrap_n (by simp; omega) (by omega)
    have c1 : e.vs.length - 1 < e.vs.length := by omega
    simp only [go_sem, hb, B.g0, B.g1, d1, d2, d3, d4, hlk, hb2, c0, c1, w1, hld, hbl, Nat.zero_add, ze_blk, bc_one, bc_len]
    refine store_step (Q := Q) (by rw [hbl, allocB_n, bc_len]; rfl) (bc_one _) fun b' h1 h2 h3 h4 => ?_
    rw [allocB_n, bc_len, show (zs 256).length = 256 from rfl] at h3
    simp only [go_sem, h3]
    rw [fin_q _ _ _ (by simp only [go_sem]; omega) (okB_bc _ _), hQ, hs]
theorem EnOk.ext {h h' : H} {es : List En} {c : Nat} (E : EnOk h es c) (x : Ext h h') : EnOk h' es c :=
  ⟨E.keys, E.ids, E.born, E.lt, fun e he => ⟨(E.row e he).1.ext x, (E.row e he).2⟩⟩
theorem ext_mp {h h' : H} (x : Ext h h') {m : Nat} (hm : m < h.nx) : h'.mp m = h.mp m := by
  unfold H.mp; rw [x.old m hm]
theorem DkOk.ext {h h' : H} {d lid mid n : Nat} {last : List (List Nat)} {es : List En} {c : Nat} (D : DkOk h d lid mid n last es c) (x : Ext h h') : DkOk h' d lid mid n last es c := by
  have hn := x.nx
  refine ⟨Nat.lt_of_lt_of_le D.dlt hn, Nat.lt_of_lt_of_le D.llt hn, Nat.lt_of_lt_of_le D.mlt hn, ?_, ?_, D.len, D.npos, D.nle, D.l256, (ext_mp x D.mlt).trans D.mp, D.en.ext x, D.ne1, D.ne2, D.kn⟩
  · obtain ⟨b, hb, B⟩ := D.db; exact ⟨b, (x.blk D.dlt).trans hb, B⟩
  · obtain ⟨b, hb, B⟩ := D.lb; exact ⟨b, (x.blk D.llt).trans hb, B⟩
theorem DkOk.seen_len {h : H} {d lid mid n : Nat} {last : List (List Nat)} {es : List En} {c : Nat} (D : DkOk h d lid mid n last es c) {k : Nat} (hk : k < n) : (seenL last es k).length = 256 := by
  obtain ⟨x, hx⟩ : ∃ x, last[k]? = some x := ⟨_, List.getElem?_eq_getElem (by rw [D.len]; exact hk)⟩
  unfold seenL
  rcases D.look k with ⟨h1, h2, _⟩ | ⟨j, e, h1, h2, h3, h4⟩
  · rw [h2, hx]; exact D.l256 x (List.mem_of_getElem? hx)
  · rw [h3, hx]
    cases q : e.vs.getLast? with
    | none => exact D.l256 x (List.mem_of_getElem? hx)
    | some y => exact (D.en.row e h4).2.2.2 y (List.mem_of_getLast? q)
theorem read_run (hσ : ∀ f a h, dkf f = true → σ f a h = none) {h : H} {d lid mid n : Nat} {last : List (List Nat)} {es : List En} {c : Nat} (D : DkOk h d lid mid n last es c) (i : Int) :
    (lim Try.prog σ).call 14 [.ptr d 0, .int .i64 i] h = some (.tup (if 0 ≤ i ∧ i < Int.ofNat n then [.agg (bc (seenL last es i.toNat)), .int .i64 0] else [.agg (bc (zs 256)), .int .i64 2]), none) := by
  rw [call_eq (hσ _ _ _ rfl) fn_14 rfl rfl, Try.ntmps14, Try.results14]
  obtain ⟨Q, hQ⟩ : ∃ Q : Option (CV × Option H) → Prop, Q = fun r => r = some (.tup (if 0 ≤ i ∧ i < Int.ofNat n then [.agg (bc (seenL last es i.toNat)), .int .i64 0] else [.agg (bc (zs 256)), .int .i64 2]), none) := ⟨_, rfl⟩
  suffices Q _ by rw [hQ] at this; exact this
  have D1 : ∀ o, DkOk (h.lo.alloc o) d lid mid n last es c := fun o => D.ext ((Ext.lo h).alloc' _)
  have e1 : ∀ o, (lim Try.prog σ).call 28 [.ptr d 0, .int .i64 i] (h.lo.alloc o) = some (.int .i64 (if 0 ≤ i ∧ i < Int.ofNat n then 0 else 2), none) := fun o => by
    obtain ⟨b, hb, B⟩ := (D1 o).db
    exact there_run hσ hb B D.npos D.nle i
  by_cases c1 : 0 ≤ i ∧ i < Int.ofNat n
  · obtain ⟨k, rfl⟩ := Int.eq_ofNat_of_zero_le c1.1
    have hk : k < n := by have := c1.2; simpa using this
    have e2 : ∀ o, (lim Try.prog σ).call 29 [.ptr d 0, .int .i64 (k : Int)] (h.lo.alloc o) = some (.agg (bc (seenL last es k)), none) := fun o => seen_run hσ (D1 o) hk
    simp only [if_pos c1] at e1
    have hsl := D.seen_len hk
    simp only [go_sem, e1, e2, ze_blk, bc_one, bc_len, hsl]
    refine store_step (Q := Q) (by rw [bc_len, hsl, allocB_n, bc_len]; rfl) (bc_one _) fun b' h1 h2 h3 h4 => ?_
    rw [allocB_n, bc_len, show (zs 256).length = 256 from rfl] at h3
    simp only [go_sem, h3]
    rw [fin_q _ _ _ (by simp only [go_sem]; omega) (by rw [okB_tup]; simp only [okBL_cons, okB_bc]; rfl), hQ, if_pos c1]
    rfl
  · simp only [if_neg c1] at e1
    have eb : buildT Try.prog 33 [] = some (.agg (bc (zs 256))) := by kernel_rfl
    have hz : (zs 256).length = 256 := rfl
    simp only [go_sem, e1, ze_blk, eb, bc_one, bc_len, hz]
    refine store_step (Q := Q) (by rw [allocB_n]) (bc_one _) fun b' h1 h2 h3 h4 => ?_
    rw [allocB_n, bc_len, hz] at h3
    simp only [go_sem, h3]
    rw [fin_q _ _ _ (by simp only [go_sem]; omega) (by rw [okB_tup]; simp only [okBL_cons, okB_bc]; rfl), hQ, if_neg c1]
end
end Go.Cl.Sh

namespace Go.Cl.Sh
variable {σ : Sums}
set_option maxRecDepth 1000000

theorem mem_put {es : List En} {k : Nat} {v : CV} {id : Nat} {vs : List (List Nat)} {c : Nat} (hn : (keysE es).Nodup) {e : En} (he : e ∈ putE' es k v id vs c) :
    (e.k = k ∧ e.v = v ∧ e.id = id ∧ e.vs = vs) ∨ (e ∈ es ∧ e.k ≠ k) := by
  by_cases q : k ∈ keysE es
  · cases hf : findE k es 0 with
    | none => exact absurd q (findE_none.1 hf)
    | some p =>
      obtain ⟨j, e1⟩ := p
      obtain ⟨h1, h2⟩ := findE_spec hf
      rw [(putE_old hf).1] at he
      obtain ⟨i, hi⟩ := List.getElem?_of_mem he
      rw [List.getElem?_modify] at hi
      by_cases qi : j = i
      · subst qi; rw [h1] at hi; simp at hi; subst hi
        exact .inl ⟨rfl, rfl, rfl, rfl⟩
      · simp [qi] at hi
        refine .inr ⟨List.mem_of_getElem? hi, fun hk => qi ?_⟩
        have a1 : (keysE es)[j]? = some k := by unfold keysE; rw [List.getElem?_map, h1]; simp [h2]
        have a2 : (keysE es)[i]? = some k := by unfold keysE; rw [List.getElem?_map, hi]; simp [hk]
        exact (List.getElem?_inj (List.getElem?_eq_some_iff.1 a1).1 hn).1 (a1.trans a2.symm)
  · rw [(putE_new q).1] at he
    rcases List.mem_append.1 he with he | he
    · exact .inr ⟨he, fun hk => q (List.mem_map.2 ⟨e, he, hk⟩)⟩
    · simp at he; subst he; exact .inl ⟨rfl, rfl, rfl, rfl⟩
theorem mem_del {es : List En} {k : Nat} (hn : (keysE es).Nodup) {e : En} (he : e ∈ delE es k) : e ∈ es ∧ e.k ≠ k := by
  unfold delE at he
  cases hf : findE k es 0 with
  | none =>
    rw [hf] at he
    exact ⟨he, fun hk => findE_none.1 hf (List.mem_map.2 ⟨e, he, hk⟩)⟩
  | some p =>
    obtain ⟨j, e1⟩ := p
    rw [hf] at he
    have he : e ∈ es.eraseIdx j := he
    obtain ⟨h1, h2⟩ := findE_spec hf
    refine ⟨(List.eraseIdx_sublist _ _).subset he, fun hk => ?_⟩
    have := vsOf_del hn k k
    have hke : k ∈ keysE (es.eraseIdx j) := List.mem_map.2 ⟨e, he, hk⟩
    have hm : keysE (es.eraseIdx j) = (keysE es).eraseIdx j := by unfold keysE; rw [map_erase]
    rw [hm] at hke
    obtain ⟨i, hi⟩ := List.getElem?_of_mem hke
    rw [List.getElem?_eraseIdx] at hi
    have hkj : (keysE es)[j]? = some k := by unfold keysE; rw [List.getElem?_map, h1]; simp [h2]
    have uniq : ∀ i', (keysE es)[i']? = some k → i' = j := fun i' hi' =>
      (List.getElem?_inj (List.getElem?_eq_some_iff.1 hi').1 hn).1 (hi'.trans hkj.symm)
    split at hi
    · have := uniq _ hi; omega
    · have := uniq _ hi; omega
theorem keys_del_nodup {es : List En} (k : Nat) {f : En → Nat} (hn : (es.map f).Nodup) : ((delE es k).map f).Nodup := by
  unfold delE
  cases findE k es 0 with
  | none => exact hn
  | some p =>
    show ((es.eraseIdx p.1).map f).Nodup
    rw [map_erase]; exact hn.sublist (List.eraseIdx_sublist _ _)
theorem keys_put_nodup {es : List En} {k : Nat} {v : CV} {id : Nat} {vs : List (List Nat)} {c : Nat} (hn : (keysE es).Nodup) : (keysE (putE' es k v id vs c)).Nodup := by
  by_cases q : k ∈ keysE es
  · cases hf : findE k es 0 with
    | none => exact absurd q (findE_none.1 hf)
    | some p => rw [(putE_old (j := p.1) (e := p.2) hf).1, keysE_modify (j := p.1) (e := p.2) hf]; exact hn
  · rw [(putE_new q).1]
    unfold keysE at hn q ⊢
    rw [List.map_append, List.nodup_append]
    exact ⟨hn, by simp, fun a ha b hb => by simp at hb; subst hb; intro e; subst e; exact q ha⟩
theorem born_put {es : List En} {k : Nat} {v : CV} {id : Nat} {vs : List (List Nat)} {c : Nat} (hn : (es.map (·.born)).Nodup) (hlt : ∀ e ∈ es, e.born < c) :
    ((putE' es k v id vs c).map (·.born)).Nodup ∧ ∀ e ∈ putE' es k v id vs c, e.born < putC es k c := by
  by_cases q : k ∈ keysE es
  · cases hf : findE k es 0 with
    | none => exact absurd q (findE_none.1 hf)
    | some p =>
      obtain ⟨j, e1⟩ := p
      obtain ⟨h1, h2⟩ := findE_spec hf
      rw [(putE_old hf).1, (putE_old (v := v) (id := id) (vs := vs) hf).2]
      have hb : (es.modify j fun e => ⟨k, v, id, vs, e.born⟩).map (·.born) = es.map (·.born) := by
        apply List.ext_getElem?; intro i
        rw [List.getElem?_map, List.getElem?_map, List.getElem?_modify]
        by_cases qi : j = i
        · subst qi; rw [h1]; simp
        · simp [qi]
      refine ⟨by rw [hb]; exact hn, fun e he => ?_⟩
      have : e.born ∈ es.map (·.born) := by rw [← hb]; exact List.mem_map.2 ⟨e, he, rfl⟩
      obtain ⟨e2, he2, hq⟩ := List.mem_map.1 this
      rw [← hq]; exact hlt e2 he2
  · rw [(putE_new q).1, (putE_new (v := v) (id := id) (vs := vs) q).2, List.map_append, List.nodup_append]
    refine ⟨⟨hn, by simp, fun a ha b hb => ?_⟩, fun e he => ?_⟩
    · simp at hb; subst hb
      obtain ⟨e, he, rfl⟩ := List.mem_map.1 ha
      exact Nat.ne_of_lt (hlt e he)
    · rcases List.mem_append.1 he with he | he
      · exact Nat.lt_succ_of_lt (hlt e he)
      · simp at he; subst he; exact Nat.lt_succ_self _
theorem EnOk.put {h h' : H} {es : List En} {c : Nat} (E : EnOk h es c) {k : Nat} {v : CV} {id : Nat} {vs : List (List Nat)} (hnx : h.nx ≤ h'.nx) (hid : h.nx ≤ id) (hrow : Lst h' 256 v id vs.length (vs.flatMap bc) ∧ 0 < vs.length ∧ vs.length ≤ 1000000 ∧ ∀ x ∈ vs, x.length = 256)
    (hold : ∀ e ∈ es, e.k ≠ k → h'.t.get e.id = h.t.get e.id) : EnOk h' (putE' es k v id vs c) (putC es k c) := by
  have hlt : ∀ e ∈ es, e.id < h.nx := fun e he => by
    obtain ⟨L, h0, _⟩ := E.row e he
    rcases L.val with ⟨q, _⟩ | ⟨_, _, q, _⟩
    · omega
    · exact q
  refine ⟨keys_put_nodup E.keys, fun e he e' he' hne => ?_, (born_put E.born E.lt).1, (born_put E.born E.lt).2, fun e he => ?_⟩
  · rcases mem_put E.keys he with ⟨a1, a2, a3, a4⟩ | ⟨a1, a2⟩ <;> rcases mem_put E.keys he' with ⟨b1, b2, b3, b4⟩ | ⟨b1, b2⟩
    · exact absurd (a1.trans b1.symm) hne
    · have := hlt e' b1; omega
    · have := hlt e a1; omega
    · exact E.ids e a1 e' b1 hne
  · rcases mem_put E.keys he with ⟨a1, a2, a3, a4⟩ | ⟨a1, a2⟩
    · rw [a2, a3, a4]; exact hrow
    · obtain ⟨L, r⟩ := E.row e a1
      exact ⟨L.mono hnx fun _ => by unfold H.blk; rw [hold e a1 a2], r⟩
theorem EnOk.del {h h' : H} {es : List En} {c : Nat} (E : EnOk h es c) {k : Nat} (hnx : h.nx ≤ h'.nx) (hold : ∀ e ∈ es, h'.t.get e.id = h.t.get e.id) : EnOk h' (delE es k) c :=
  ⟨keys_del_nodup (f := (·.k)) k E.keys, fun e he e' he' => E.ids e (mem_del E.keys he).1 e' (mem_del E.keys he').1, keys_del_nodup (f := (·.born)) k E.born, fun e he => E.lt e (mem_del E.keys he).1,
    fun e he => ⟨(E.row e (mem_del E.keys he).1).1.mono hnx fun _ => by unfold H.blk; rw [hold e (mem_del E.keys he).1], (E.row e (mem_del E.keys he).1).2⟩⟩
end Go.Cl.Sh

namespace Go.Cl.Sh
noncomputable section
variable {σ : Sums}
set_option maxRecDepth 1000000

theorem row_of {h : H} {d lid mid n : Nat} {last : List (List Nat)} {es : List En} {c : Nat} (D : DkOk h d lid mid n last es c) (k : Nat) :
    ∃ id, Lst h 256 (vOf' es k) id (vsOf es k).length ((vsOf es k).flatMap bc) ∧ (vsOf es k).length ≤ 1000000 ∧ (∀ x ∈ vsOf es k, x.length = 256) ∧ ((vsOf es k).length ≠ 0 → ∃ e ∈ es, e.k = k ∧ e.id = id) ∧ ((vsOf es k).length = 0 → id = mid) := by
  rcases D.look k with ⟨h1, h2, _⟩ | ⟨j, e, h1, h2, h3, h4⟩
  · rw [h1, h2]; refine ⟨mid, Lst.nil _ _ _, by decide, fun x hx => by simp at hx, fun h => absurd rfl h, fun _ => rfl⟩
  · obtain ⟨L, r1, r2, r3⟩ := D.en.row e h4
    rw [h2, h3]; exact ⟨e.id, L, r2, r3, fun _ => ⟨e, h4, (findE_spec h1).2, rfl⟩, fun q => by omega⟩
theorem blk_mp_ne {h : H} {i m : Nat} {b : Blk} {p : List (CV × CV × Nat) × Nat} (hb : h.blk i = some b) (hm : h.mp m = some p) : i ≠ m := by
  rintro rfl
  unfold H.blk at hb; unfold H.mp at hm
  split at hb
  · rename_i q; rw [q] at hm; cases hm
  · cases hb
theorem DkOk.idlt {h : H} {d lid mid n : Nat} {last : List (List Nat)} {es : List En} {c : Nat} (D : DkOk h d lid mid n last es c) {e : En} (he : e ∈ es) : e.id < h.nx := by
  obtain ⟨L, h0, _⟩ := D.en.row e he
  rcases L.val with ⟨q, _⟩ | ⟨_, _, q, _⟩
  · omega
  · exact q
theorem beqC_bc : ∀ x : List Nat, beqC (.agg (bc x)) (.agg (bc x)) = true
  | [] => rfl
  | a :: l => by
    have := beqC_bc l
    simp only [bc, List.map_cons, beqC, beqCL] at this ⊢
    rw [this, show beqC (u8 a) (u8 a) = true by simp [beqC, u8]]; rfl
structure Fr (h h' : H) (S : Nat → Prop) : Prop where
  nx : h.nx ≤ h'.nx
  gn : h'.gn = h.gn
  old : ∀ k, k < h.nx → ¬ S k → h'.t.get k = h.t.get k
def dkS (lid mid : Nat) (es : List En) (k : Nat) : Prop := k = lid ∨ k = mid ∨ ∃ e ∈ es, e.id = k
/-- what a change of a disk leaves -/
structure DkTo (h h' : H) (d lid mid n : Nat) (last : List (List Nat)) (es : List En) (last' : List (List Nat)) (es' : List En) (c' : Nat) : Prop where
  ok : DkOk h' d lid mid n last' es' c'
  fr : Fr h h' (dkS lid mid es)
  ids : ∀ e ∈ es', (∃ e0 ∈ es, e0.id = e.id) ∨ h.nx ≤ e.id
  low : ∀ lo, lo ≤ h.low → lo ≤ lid → lo ≤ mid → (∀ e ∈ es, lo ≤ e.id) → lo ≤ h'.low
theorem DkOk.up {h : H} {d lid mid n : Nat} {last : List (List Nat)} {es : List En} {c : Nat} (D : DkOk h d lid mid n last es c) (l : Nat) : DkOk (h.up l) d lid mid n last es c := D.ext (Ext.up _ _)
def WriteR (h : H) (d lid mid n : Nat) (last : List (List Nat)) (es : List En) (k : Nat) (x : List Nat) (r : Option (CV × Option H)) : Prop :=
  ∃ h' es' c', r = some (.int .i64 0, some h') ∧ DkTo h h' d lid mid n last es last es' c' ∧ h'.low ≤ mid ∧ ∀ y, vsOf es' y = if y = k then vsOf es k ++ [x] else vsOf es y
theorem sz_blk : szOf Try.prog 33 = some 256 := by kernel_rfl
theorem bs1_blk {x : List Nat} (hx : x.length = 256) : ∃ B, B.loadN 0 256 = some (bc x) ∧ (∀ X, buildSliceT Try.prog X 30 1 [(0, .agg (bc x))] = some (.sl X.nx 0 1 (.exact 1), X.alloc (.cells B))) ∧ B.ro = false := by
  have hl : (bc x).length = 256 := by rw [bc_len, hx]
  have hz : (zs 256).length = 256 := rfl
  refine ⟨{ n := 256, d := bc (zs 256), t := setAll (bc x) 0 .nil }, loadN_of _ _ _ hl fun i v hv => ?_, fun X => ?_, rfl⟩
  · have hi := nlt hv
    rw [nth_eq] at hv
    unfold Blk.get
    rw [setAll_get, if_pos (by omega), Nat.zero_add, Nat.sub_zero, hv]
    rw [show Nat.blt i 256 = true by rw [blt_eq']; exact decide_eq_true (by omega)]; rfl
  · unfold buildSliceT
    rw [Try.underlying30, Option.bind_some]
    have hf : fillC (fun i => some (i * 256, 256)) (1 * 256) [(0, .agg (bc x))] .nil = some (setAll (bc x) 0 .nil) := by
      rw [fillC_c, fillP_s, fillC_n]
      simp only [CV.cells, hl, bc_one]; rfl
    simp only [sz_blk, ze_blk, Option.bind_some, CV.cells, bc_len, hz, bc_one, hf]
    rfl
theorem write_run (hσ : ∀ f a h, dkf f = true → σ f a h = none) {h : H} {d lid mid n : Nat} {last : List (List Nat)} {es : List En} {c : Nat} (D : DkOk h d lid mid n last es c) {k : Nat} (hk : k < n) {x : List Nat} (hx : x.length = 256) (hbig : (vsOf es k).length < 1000000) :
    WriteR h d lid mid n last es k x ((lim Try.prog σ).call 15 [.ptr d 0, .int .i64 (Int.ofNat k), .agg (bc x)] h) := by
  obtain ⟨Q, hQ⟩ : ∃ Q, Q = WriteR h d lid mid n last es k x := ⟨_, rfl⟩
  rw [← hQ]
  rw [call_eq (hσ _ _ _ rfl) fn_15 rfl rfl, Try.ntmps15, Try.results15]
  obtain ⟨nb, hnb⟩ : ∃ nb, nb = allocB 33 (bc x) := ⟨_, rfl⟩
  have nbn : nb.n = 256 := by rw [hnb, allocB_n, bc_len, hx]
  have ldn : nb.loadN 0 256 = some (bc x) := loadN_of _ _ _ (by rw [bc_len, hx]) fun i v hv => by rw [Nat.zero_add, hnb, aB_g, hv]
  obtain ⟨X, hX⟩ : ∃ X, X = h.lo.alloc (.cells nb) := ⟨_, rfl⟩
  have XE : Ext h X := by rw [hX]; exact (Ext.lo h).alloc' _
  have Xb : X.blk h.nx = some nb := by rw [hX]; simp only [go_sem]
  have Xn : X.nx = h.nx + 1 := by rw [hX]; simp only [go_sem]
  have Xl : X.low = h.nx := by rw [hX]; simp only [go_sem]
  have D1 : DkOk X d lid mid n last es c := D.ext XE
  obtain ⟨b, hb, B⟩ := D1.db
  have e1 : (lim Try.prog σ).call 28 [.ptr d 0, .int .i64 (Int.ofNat k)] X = some (.int .i64 0, none) := by
    rw [there_run hσ hb B D.npos D.nle, if_pos ⟨Int.natCast_nonneg _, by simp; exact hk⟩]
  have e2 : (lim Try.prog σ).call 30 [.ptr d 0] X = some (.int .i64 0, none) := step_run hσ hb B
  have hlk : lookupT Try.prog X 46 (.map mid) (.int .i64 (Int.ofNat k)) false = some (vOf' es k) := lookup_i D1.mp k
  obtain ⟨id, L, r1, r2, r3, r4⟩ := row_of D1 k
  obtain ⟨SB, hSB, hbs, _⟩ := bs1_blk hx
  have hbs := hbs X
  have hfc : firstC (X.alloc (.cells SB)) 256 1 (.sl X.nx 0 1 (.exact 1)) = some (bc x) := by
    rw [firstC_sl, alloc_blk_same _ _ _ rfl, bind_some']; exact hSB
  simp only [go_sem, ← hnb, ← hX, e1, e2, hb, B.g0, B.g1, hlk, bc_one, bc_len, hx, ldn]
  refine cnd_go (Q := Q) (by kernel_rfl) ?_
  simp only [go_sem, ← hnb, ← hX, e1, e2, hb, B.g0, B.g1, hlk, bc_one, bc_len, hx, ldn, Xb, hbs, hfc]
  refine app_step (Q := Q) (by_ := 256) (L.ext (Ext.alloc _ _)) (by decide) (by rw [bc_len, hx]) (bc_one _) rfl (by decide) (by omega) (by omega) fun h2 L2 hnx2 hgn2 hold2 hlow2 hlow2' => ?_
  obtain ⟨nid, hnid⟩ : ∃ nid, nid = (X.alloc (.cells SB)).nx := ⟨_, rfl⟩
  rw [← hnid] at L2 hnx2 hold2 ⊢
  have hnid' : nid = h.nx + 2 := by rw [hnid, alloc_nx, Xn]
  have hmlt := D.mlt
  have hmid : mid < nid := by omega
  have hidm : (vsOf es k).length ≠ 0 → mid ≠ id := fun q => by
    rcases L.val with ⟨q0, _⟩ | ⟨_, _, _, b0, hb0, _⟩
    · exact absurd q0 q
    · exact (blk_mp_ne hb0 D1.mp).symm
  have hm2 : h2.mp mid = some (es.map En.cv, c) := by
    unfold H.mp; rw [hold2 mid hmid hidm, alloc_get_ne _ _ _ (by rw [Xn]; omega)]; exact D1.mp
  have hvs : ((vsOf es k ++ [x]).flatMap bc) = (vsOf es k).flatMap bc ++ bc x := by rw [List.flatMap_append]; simp
  have hup := update_i hm2 k (.sl nid 0 ((vsOf es k).length + 1) (.opn 256)) nid (vsOf es k ++ [x])
  simp only [go_sem, hup]
  refine cnd_go (Q := Q) (by kernel_rfl) ?_
  have hdlt := D.dlt
  have hdid : (vsOf es k).length ≠ 0 → d ≠ id := fun q => by
    obtain ⟨e, he, _, rfl⟩ := r3 q
    exact (D.ne2 e he).1.symm
  have hnid2 : (vsOf es k).length ≠ 0 → h.nx ≠ id := fun q => by
    obtain ⟨e, he, _, rfl⟩ := r3 q
    have := D.idlt he; omega
  have XE1 : Ext X (X.alloc (.cells SB)) := Ext.alloc _ _
  have hb1 : (X.alloc (.cells SB)).blk d = some b := (XE1.blk (by omega)).trans hb
  have hb2 : h2.blk d = some b := by
    unfold H.blk; rw [hold2 d (by omega) hdid]; exact hb1
  have hn1 : (X.alloc (.cells SB)).blk h.nx = some nb := (XE1.blk (by omega)).trans Xb
  have hn2 : h2.blk h.nx = some nb := by
    unfold H.blk; rw [hold2 h.nx (by omega) hnid2]; exact hn1
  have hlk1 : lookupT Try.prog (X.alloc (.cells SB)) 46 (.map mid) (.int .i64 (Int.ofNat k)) false = some (vOf' es k) := lookup_i (D1.ext XE1).mp k
  have hlk2 : lookupT Try.prog h2 46 (.map mid) (.int .i64 (Int.ofNat k)) false = some (vOf' es k) := lookup_i hm2 k
  have bm : beqC (.map mid) (.map mid) = true := by simp [beqC]
  have bv : beqC (vOf' es k) (vOf' es k) = true := by
    rcases L.val with ⟨_, q⟩ | ⟨_, q, _⟩ <;> rw [q] <;> simp [beqC]
  have bx : beqC (.agg (bc x)) (.agg (bc x)) = true := beqC_bc x
  simp only [go_sem, hup, hb1, hb2, hn1, hn2, hlk1, B.g1, ldn, bm, bv, bx, hlk2]
  rw [cond_al (i := 3) (d := [12, 13, 14])]
  rotate_left
  · kernel_rfl
  rw [cond_al (i := 8) (d := [12, 13, 14])]
  rotate_left
  · kernel_rfl
  rw [cond_al (i := 10) (d := [12, 13, 14])]
  rotate_left
  · kernel_rfl
  rw [cond_al (i := 11) (d := [12, 13, 14])]
  rotate_left
  · kernel_rfl
  simp only [go_sem, hup, hb1, hb2, hn1, hn2, hlk1, B.g1, ldn, bm, bv, bx, hlk2]
  rw [fin_l _ _ _ (by show min h2.low mid < h.nx; omega), hQ]
  obtain ⟨h3, hh3⟩ : ∃ h3 : H, h3 = h2.put mid (.map ((putE' es k (.sl nid 0 ((vsOf es k).length + 1) (.opn 256)) nid (vsOf es k ++ [x]) c).map En.cv) (putC es k c)) := ⟨_, rfl⟩
  have G : ∀ i, i < nid → i ≠ mid → ((vsOf es k).length ≠ 0 → i ≠ id) → h3.t.get i = (X.alloc (.cells SB)).t.get i := fun i h1 h2 h3 => by
    rw [hh3, put_get_ne _ _ _ _ h2, hold2 i h1 h3]
  have G0 : ∀ i, i < h.nx → i ≠ mid → ((vsOf es k).length ≠ 0 → i ≠ id) → h3.t.get i = h.t.get i := fun i h1 h2 h3 => by
    rw [G i (by omega) h2 h3, alloc_get_ne _ _ _ (by omega), XE.old i h1]
  have n3 : h3.nx = nid + 1 := by rw [hh3]; exact hnx2
  have l3 : h3.low = min h2.low mid := by rw [hh3]; rfl
  have g3 : h3.gn = h.gn := by rw [hh3]; exact hgn2.trans (XE1.gn.trans XE.gn)
  have m3 : h3.mp mid = some ((putE' es k (.sl nid 0 ((vsOf es k).length + 1) (.opn 256)) nid (vsOf es k ++ [x]) c).map En.cv, putC es k c) := by
    rw [hh3]; unfold H.mp; rw [put_get, if_pos rfl]
  have hne3 : nid ≠ mid := by omega
  have E3 : EnOk h3 (putE' es k (.sl nid 0 ((vsOf es k).length + 1) (.opn 256)) nid (vsOf es k ++ [x]) c) (putC es k c) := by
    refine D.en.put (by omega) (by omega) ⟨?_, by simp, by simp; omega, fun y hy => ?_⟩ fun e he hk' => ?_
    · rw [hvs, List.length_append]
      exact L2.mono (by rw [n3]; omega) fun _ => by rw [hh3]; exact put_blk_ne _ _ _ _ hne3
    · rcases List.mem_append.1 hy with hy | hy
      · exact r2 y hy
      · simp at hy; subst hy; exact hx
    · have := D.idlt he
      refine G0 e.id this ?_ fun q => ?_
      · obtain ⟨Le, h0, _⟩ := D.en.row e he
        rcases Le.val with ⟨q, _⟩ | ⟨_, _, _, b0, hb0, _⟩
        · omega
        · exact blk_mp_ne hb0 D.mp
      · obtain ⟨e', he', hk2, rfl⟩ := r3 q
        exact D.en.ids e he e' he' (by rw [hk2]; exact hk')
  obtain ⟨bd, hbd, Bd⟩ := D.db
  obtain ⟨bl, hbl, hbl2⟩ := D.lb
  have hdm : d ≠ mid := blk_mp_ne hbd D.mp
  have hlm : lid ≠ mid := blk_mp_ne hbl D.mp
  have hlid : (vsOf es k).length ≠ 0 → lid ≠ id := fun q => by
    obtain ⟨e, he, _, rfl⟩ := r3 q
    exact (D.ne2 e he).2.symm
  have hids : ∀ e ∈ putE' es k (.sl nid 0 ((vsOf es k).length + 1) (.opn 256)) nid (vsOf es k ++ [x]) c, (∃ e0 ∈ es, e0.id = e.id) ∨ h.nx ≤ e.id := fun e he => by
    rcases mem_put D.en.keys he with ⟨_, _, q, _⟩ | ⟨q, _⟩
    · exact .inr (by omega)
    · exact .inl ⟨e, q, rfl⟩
  have DK : DkOk h3 d lid mid n last (putE' es k (.sl nid 0 ((vsOf es k).length + 1) (.opn 256)) nid (vsOf es k ++ [x]) c) (putC es k c) := by
    refine ⟨by omega, by have := D.llt; omega, by omega, ⟨bd, ?_, Bd⟩, ⟨bl, ?_, hbl2⟩, D.len, D.npos, D.nle, D.l256, m3, E3, D.ne1, fun e he => ?_, fun y hy => ?_⟩
    · unfold H.blk; rw [G0 d hdlt hdm hdid]; exact hbd
    · unfold H.blk; rw [G0 lid D.llt hlm hlid]; exact hbl
    · rcases hids e he with ⟨e0, q, q2⟩ | q
      · rw [← q2]; exact D.ne2 e0 q
      · have := D.llt; constructor <;> omega
    · rcases (keys_put es k _ nid _ c y).1 hy with rfl | q
      · exact hk
      · exact D.kn y q
  rw [← hh3]
  refine ⟨h3.up (min h.low h3.low), _, _, rfl, ⟨DK.up _, ⟨by show h.nx ≤ h3.nx; omega, g3, fun i hi hS => ?_⟩, hids, fun lo q1 q2 q3 q4 => ?_⟩, ?_, fun y => ?_⟩
  · refine G0 i hi (fun q => hS (.inr (.inl q))) fun q q2 => ?_
    obtain ⟨e, he, _, rfl⟩ := r3 q
    exact hS (.inr (.inr ⟨e, he, q2.symm⟩))
  · show lo ≤ min h.low h3.low
    rw [l3]
    rcases hlow2' with q | q
    · have : (X.alloc (.cells SB)).low = X.low := rfl
      omega
    · have : (X.alloc (.cells SB)).low = X.low := rfl
      by_cases q0 : (vsOf es k).length = 0
      · have := r4 q0
        omega
      · obtain ⟨e, he, _, hide⟩ := r3 q0
        have q5 := q4 e he
        rw [hide] at q5
        clear r3 hids q4
        omega
  · show min h.low h3.low ≤ mid
    omega
  · rw [vsOf_put D.en.keys]
end
end Go.Cl.Sh
