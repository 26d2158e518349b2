/- The program's functions, run by the rewriting evaluator: what each answers and leaves (ScA). -/
import Derived.Shelf.SlIterI.Nil
import Derived.Shelf.SortM.Plain
import Derived.Shelf.SortM.SortNone
import Derived.Shelf.Strings.OnBuilder
import Derived.Shelf.Strconv.Itoa2
import Derived.Shelf.Strconv.Itoa1
import Derived.Shelf.Strings.Split
import Derived.Shelf.Strings.Cut
import Derived.Shelf.Strings.Count
import Derived.Test.YtolenjlggpdigaaGreatDoorProg
import Derived.KernelRfl
import Derived.Test.YtolenjlggpdigaaGreatDoorClH
set_option linter.all false
open Go Go.Cl Go.Proofs
attribute [go_sem] Nat.reduceLT Nat.reduceLeDiff Nat.reduceEqDiff Nat.reduceAdd Nat.reduceSub Nat.reduceMul reduceCtorEq Int.reduceBEq Int.reduceLT Int.reduceLE Int.reduceAdd Int.reduceSub Int.reduceEq Int.reduceNeg Int.reduceToNat Int.reduceGT Int.reduceGE

namespace Go.Cl
noncomputable section
open Go Go.RowKit Go.Maps
open Go.WideElems (Fit rd rg)

def keyInt : CV → Option Int
  | .int .i64 n => cond (decide (-9223372036854775808 ≤ n) && decide (n < 9223372036854775808)) (some n) none
  | _ => none
def keyInts : List (CV × CV × Nat) → Option (List Int)
  | [] => some []
  | e :: l => (keyInt e.1).bind fun n => (keyInts l).bind fun r => some (n :: r)
def insI (x : Int) : List Int → List Int
  | [] => [x]
  | y :: l => cond (decide (x ≤ y)) (x :: y :: l) (y :: insI x l)
def sortI : List Int → List Int
  | [] => []
  | x :: l => insI x (sortI l)
def noDupI : List Int → Bool
  | [] => true
  | x :: l => !(l.any fun y => decide (x = y)) && noDupI l
def noDupN : List Nat → Bool
  | [] => true
  | x :: l => !(l.any fun y => Nat.beq x y) && noDupN l
def stampOk (es : List (CV × CV × Nat)) (c : Nat) : Bool := (es.all fun e => Nat.blt e.2.2 c) && noDupN (es.map fun e => e.2.2)

theorem noDupI_iff : ∀ l, noDupI l = true → l.Nodup
  | [], _ => List.nodup_nil
  | x :: l, h => by
    simp only [noDupI, Bool.and_eq_true, Bool.not_eq_true', List.any_eq_false, decide_eq_true_eq] at h
    exact List.nodup_cons.2 ⟨fun hx => h.1 x hx rfl, noDupI_iff l h.2⟩
theorem noDupN_iff : ∀ l, noDupN l = true → l.Nodup
  | [], _ => List.nodup_nil
  | x :: l, h => by
    simp only [noDupN, Bool.and_eq_true, Bool.not_eq_true', List.any_eq_false] at h
    exact List.nodup_cons.2 ⟨fun hx => h.1 x hx (Nat.beq_refl x), noDupN_iff l h.2⟩

theorem insI_perm (x : Int) : ∀ l, (insI x l).Perm (x :: l)
  | [] => .refl _
  | y :: l => by
    unfold insI
    cases decide (x ≤ y)
    · exact ((insI_perm x l).cons y).trans (.swap x y l)
    · exact .refl _
theorem sortI_perm : ∀ l, (sortI l).Perm l
  | [] => .refl _
  | x :: l => (insI_perm x _).trans ((sortI_perm l).cons x)
theorem insI_sorted (x : Int) : ∀ l : List Int, l.Pairwise (· ≤ ·) → (insI x l).Pairwise (· ≤ ·)
  | [], _ => by simp [insI]
  | y :: l, h => by
    unfold insI
    have h' := List.pairwise_cons.1 h
    cases hd : decide (x ≤ y) with
    | true =>
      have hxy : x ≤ y := of_decide_eq_true hd
      exact List.pairwise_cons.2 ⟨fun z hz => by
        rcases List.mem_cons.1 hz with rfl | hz
        · exact hxy
        · exact Int.le_trans hxy (h'.1 z hz), h⟩
    | false =>
      have hxy : ¬ x ≤ y := of_decide_eq_false hd
      exact List.pairwise_cons.2 ⟨fun z hz => by
        rcases List.mem_cons.1 ((insI_perm x l).mem_iff.1 hz) with rfl | hz
        · omega
        · exact h'.1 z hz, insI_sorted x l h'.2⟩
theorem sortI_sorted : ∀ l, (sortI l).Pairwise (· ≤ ·)
  | [] => List.Pairwise.nil
  | x :: l => insI_sorted x _ (sortI_sorted l)
theorem sortI_eq {l ss : List Int} (h : ss.Perm l) : ss.mergeSort (fun x y => decide (x ≤ y)) = sortI l := by
  have tr : ∀ a b c : Int, decide (a ≤ b) = true → decide (b ≤ c) = true → decide (a ≤ c) = true := fun a b c h1 h2 => by
    simp only [decide_eq_true_eq] at *; exact Int.le_trans h1 h2
  have to : ∀ a b : Int, (decide (a ≤ b) || decide (b ≤ a)) = true := fun a b => by
    simp only [Bool.or_eq_true, decide_eq_true_eq]; exact Int.le_total a b
  refine List.Perm.eq_of_pairwise (le := fun a b => a ≤ b) (fun a b _ _ h1 h2 => Int.le_antisymm h1 h2) ?_ (sortI_sorted l) (((List.mergeSort_perm ss _).trans h).trans (sortI_perm l).symm)
  exact (List.pairwise_mergeSort tr to ss).imp fun hh => by simpa using hh

theorem keyInt_eq {v : CV} {n : Int} (h : keyInt v = some n) : v = .int .i64 n ∧ -9223372036854775808 ≤ n ∧ n < 9223372036854775808 := by
  unfold keyInt at h
  split at h
  · rename_i m
    cases hd : (decide (-9223372036854775808 ≤ m) && decide (m < 9223372036854775808)) <;> rw [hd] at h
    · cases h
    · cases h; simp at hd; exact ⟨rfl, hd.1, hd.2⟩
  · cases h

theorem keyInts_eq : ∀ {es : List (CV × CV × Nat)} {ks : List Int}, keyInts es = some ks → es.map (fun e => e.1) = ks.map (CV.int .i64) ∧ ∀ n ∈ ks, -9223372036854775808 ≤ n ∧ n < 9223372036854775808
  | [], ks, h => by simp [keyInts] at h; subst h; simp
  | e :: l, ks, h => by
    simp only [keyInts, Option.bind_eq_some_iff] at h
    obtain ⟨n, h1, r, h2, h3⟩ := h
    cases h3
    obtain ⟨a, b, c⟩ := keyInt_eq h1
    obtain ⟨i1, i2⟩ := keyInts_eq h2
    exact ⟨by simp [a, i1], fun m hm => by
      rcases List.mem_cons.1 hm with rfl | hm
      · exact ⟨b, c⟩
      · exact i2 m hm⟩

/-- a disk's open blocks, told: the keys of the map in its second cell, sorted -/
def openK (P : Program) (gn : FuncId) (h : H) (id off : Nat) : Option (CV × Option H) :=
  match callK P noSums 60 gn [.ptr id off] h with
  | some (.bool false, none) => match (h.blk id).bind fun b => b.get (off + 1) with
    | some (.map m) => (h.mp m).bind fun p => (keyInts p.1).bind fun ks =>
        cond (stampOk p.1 p.2 && noDupI ks && Nat.ble p.1.length 1000000)
          (match ks with
           | [] => some (.nils, none)
           | _ :: _ => some (.sl h.nx 0 ks.length (.opn 1), some (h.alloc (.cells (fillB (sortI ks).length ((sortI ks).map (CV.int .i64))))))) none
    | _ => none
  | _ => none
def openS (P : Program) (go gn : FuncId) : Sums := fun f args h => cond (Nat.beq f go) (match args with | [.ptr id off] => openK P gn h id off | _ => none) none

theorem openS_at {P : Program} {go gn : FuncId} {f : FuncId} {args : List CV} {h : H} {v : CV} {x : Option H} (e : openS P go gn f args h = some (v, x)) :
    f = go ∧ ∃ id off, args = [.ptr id off] ∧ openK P gn h id off = some (v, x) := by
  unfold openS at e
  cases hb : Nat.beq f go <;> rw [hb] at e
  · cases e
  · refine ⟨Nat.eq_of_beq_eq_true hb, ?_⟩
    simp only [cond_true] at e
    split at e
    · exact ⟨_, _, rfl, e⟩
    · cases e
theorem openK_at {P : Program} {gn : FuncId} {h : H} {id off : Nat} {v : CV} {x : Option H} (e : openK P gn h id off = some (v, x)) :
    callC P noSums 60 gn [.ptr id off] h = some (.bool false, none) ∧ ∃ b m es c ks, h.blk id = some b ∧ b.get (off + 1) = some (.map m) ∧ h.mp m = some (es, c) ∧ keyInts es = some ks ∧ stampOk es c = true ∧ noDupI ks = true ∧ es.length ≤ 1000000 ∧
      ((ks = [] ∧ v = .nils ∧ x = none) ∨ (ks ≠ [] ∧ v = .sl h.nx 0 ks.length (.opn 1) ∧ x = some (h.alloc (.cells (fillB (sortI ks).length ((sortI ks).map (CV.int .i64))))))) := by
  unfold openK at e
  rw [callK_eq] at e
  split at e
  · rename_i hcall
    refine ⟨hcall, ?_⟩
    split at e
    · rename_i m hm
      simp only [Option.bind_eq_some_iff] at e hm
      obtain ⟨b, hb, hbg⟩ := hm
      obtain ⟨p, hp, ks, hks, e⟩ := e
      cases hcd : (stampOk p.1 p.2 && noDupI ks && Nat.ble p.1.length 1000000) <;> rw [hcd] at e
      · cases e
      · simp only [Bool.and_eq_true] at hcd
        refine ⟨b, m, p.1, p.2, ks, hb, hbg, hp, hks, hcd.1.1, hcd.1.2, Nat.le_of_ble_eq_true hcd.2, ?_⟩
        simp only [cond_true] at e
        cases ks with
        | nil => cases e; exact .inl ⟨rfl, rfl, rfl⟩
        | cons k ks => cases e; exact .inr ⟨by simp, rfl, rfl⟩
    · cases e
  · cases e

section
variable {P : Program} {w : World} {f : Val} {h : H}

/-- whatever a value is, it reads as nothing -/
def rdAny : Value → Option (DataW Unit × List MemPlace) := fun _ => some (.nil, [])

theorem owns_of {k : TypeId} (hk : P.underlying k = some (.int .i64)) (r : Rel f h w) {m : Nat} {es : List (CV × CV × Nat)} {c : Nat} (hm : h.mp m = some (es, c)) {ks : List Int} (hks : keyInts es = some ks)
    (hst : stampOk es c = true) (hn : noDupI ks = true) (hl : es.length ≤ 1000000) :
    ∃ D : DataW Unit, w.ownsMap P k rdAny (f.blk m) es.length D ∧ (intKeys D).Perm ks ∧ Maps.size D = es.length := by
  obtain ⟨_, hw, _⟩ := r.mp hm
  obtain ⟨hkeys, hwf⟩ := keyInts_eq hks
  have hkv : ∀ x ∈ es, ∃ n ∈ ks, x.1 = .int .i64 n := fun x hx => by
    have : x.1 ∈ ks.map (CV.int .i64) := by rw [← hkeys]; exact List.mem_map.2 ⟨x, hx, rfl⟩
    obtain ⟨n, hn, e⟩ := List.mem_map.1 this
    exact ⟨n, hn, e.symm⟩
  have hwf' : ∀ n ∈ ks, (Lit.int .i64 n).wf = true := fun n hn => by
    have := hwf n hn
    simp [Lit.wf, IntKind.min, IntKind.max, IntKind.signed, IntKind.bits]
    omega
  have hrd : ∀ x ∈ es, ∀ n, x.1 = .int .i64 n → rd P k rdAny (renE f x) = some (.int .i64 n, .nil) := fun x hx n e => by
    obtain ⟨n', hn', e'⟩ := hkv x hx
    rw [e] at e'; cases e'
    simp only [rd, renE, e, ren, Maps.keyOf_int_mk hk (hwf' n hn'), rdAny]
    rfl
  have hkl : (es.map (renE f)).map (rg P k rdAny) = ks.map fun n => ((Lit.int .i64 n, DataW.nil) : Lit × DataW Unit) := by
    have : es.map (fun x => rg P k rdAny (renE f x)) = (es.map fun e => e.1).map fun v => (match v with | .int _ n => ((Lit.int .i64 n, DataW.nil) : Lit × DataW Unit) | _ => (.bool false, .nil)) := by
      rw [List.map_map]
      refine List.map_congr_left fun x hx => ?_
      obtain ⟨n, _, e⟩ := hkv x hx
      rw [Go.WideElems.rg_of (hrd x hx n e)]
      simp [e]
    rw [List.map_map]
    refine Eq.trans this ?_
    rw [hkeys, List.map_map]
    rfl
  have hnd := noDupI_iff ks hn
  simp only [stampOk, Bool.and_eq_true, List.all_eq_true] at hst
  have hfit : Fit P k rdAny (es.map (renE f)).toArray c := by
    refine ⟨by simp [maxLen]; omega, ⟨fun x hx => ?_, ?_, ?_⟩, fun x hx => ?_⟩
    · simp only [List.mem_map] at hx
      obtain ⟨y, hy, rfl⟩ := hx
      exact Nat.blt_eq.mp (hst.1 y hy)
    · have := noDupN_iff _ hst.2
      simpa [List.map_map, Function.comp_def, renE] using this
    · have e1 : ((es.map (renE f)).toArray.toList.map fun x => x.key) = (es.map fun e => e.1).map (ren f) := by simp [List.map_map, Function.comp_def, renE]
      rw [e1, hkeys, List.map_map]
      refine List.pairwise_map.2 (hnd.imp fun hne e => hne ?_)
      simpa [ren] using e
    · simp only [List.mem_map] at hx
      obtain ⟨y, hy, rfl⟩ := hx
      obtain ⟨n, _, e⟩ := hkv y hy
      exact ⟨_, hrd y hy n e⟩
  refine ⟨_, ⟨_, c, hw, hfit, by simp, rfl⟩, ?_, ?_⟩
  · show (List.map (fun p : Lit × DataW Unit => Go.intOf p.1) _).Perm ks
    have hp := (Go.WideShapes.sorted_perm ((es.map (renE f)).toArray.toList.map (rg P k rdAny))).map (fun p : Lit × DataW Unit => Go.intOf p.1)
    refine hp.trans ?_
    show (List.map (fun p : Lit × DataW Unit => Go.intOf p.1) ((es.map (renE f)).map (rg P k rdAny))).Perm ks
    rw [hkl, List.map_map]
    show (List.map (fun n => n) ks).Perm ks
    simp
  · rw [Maps.size_eq]
    have := (Go.WideShapes.sorted_perm ((es.map (renE f)).toArray.toList.map (rg P k rdAny))).length_eq
    rw [this]; simp

/-- a block that is new to the evaluator, of which it sees the first cells -/
theorem Step.adopt {w' : World} (r : Rel f h w) (k : Keeps w w') {g cap : Nat} {cs : Array Value} {t : TypeId} {vs : List CV} (hg : w.heap.size ≤ g) (hb : w'.heap[g]? = some (.cells cs t (0, 0)))
    (ho : ∀ v ∈ vs, v.one = true ∧ ok 0 v) (hcs : cs.toList.take vs.length = renL f vs) (hc : vs.length ≤ cap) (hc' : cap ≤ cs.size) :
    Step f h w (f.add h.nx g 0 cap) (h.alloc (.cells (fillB vs.length vs))) w' := by
  have hag := Val.add_agree f h.nx g 0 cap
  have hbk : ∀ i, i < h.nx → (f.add h.nx g 0 cap).blk i = f.blk i := fun i hi => ((hag i hi).1).symm
  have hO : ObjOk (h.nx + 1) (f.add h.nx g 0 cap) h.nx (.cells (fillB vs.length vs)) (.cells cs t (0, 0)) := by
    refine .cells ⟨.inr (.inl rfl), by rw [fillB_n, Val.add_ext]; exact hc, by rw [Val.add_base, Val.add_ext]; omega, fun i hi => ?_⟩ (TyOk.none (fillB_ty _ _))
    rw [fillB_n] at hi
    have hv : vs[i]? = some vs[i] := List.getElem?_eq_getElem hi
    have hm : vs[i] ∈ vs := List.getElem_mem hi
    refine ⟨vs[i], by rw [fill_get rfl, hv], (ho _ hm).1, ok_mono (Nat.zero_le _) _ (ho _ hm).2, ?_⟩
    rw [Val.add_base, Nat.zero_add, ← ren_congr (Agree.mono hag (Nat.zero_le _)) _ (ho _ hm).2, ← Array.getElem?_toList]
    have e1 : (cs.toList.take vs.length)[i]? = cs.toList[i]? := by rw [List.getElem?_take, if_pos hi]
    rw [← e1, hcs, renL_eq, List.getElem?_map, hv]
    rfl
  refine ⟨⟨fun i p hp => ?_, fun i j p q hp hq hr e => ?_, fun g' hg' => ⟨by have := (r.glob g' hg').1; simp only [H.alloc]; omega, by rw [hbk g' (r.glob g' hg').1]; exact (r.glob g' hg').2.1, by rw [← (hag g' (r.glob g' hg').1).2.1]; exact (r.glob g' hg').2.2⟩⟩, hag, by simp [H.alloc], rfl, k.os, k.tape, k.output, k.size, fun j hj _ => k.get j hj, fun i p hp => ?_, Nat.le_refl _, fun i hi _ => ?_⟩
  · simp only [H.alloc] at hp ⊢
    rw [T.get_set] at hp
    split at hp
    · rename_i e
      cases hp; subst e
      exact ⟨by omega, _, by rw [Val.add_blk]; exact hb, hO⟩
    · obtain ⟨h1, Q, h2, h3⟩ := r.obj i p hp
      exact ⟨by omega, Q, by rw [hbk i h1, k.get _ (r.lt hp)]; exact h2, h3.mono hag (by omega) h1⟩
  · simp only [H.alloc] at hp hq
    rw [T.get_set] at hp hq
    split at hp <;> split at hq
    · omega
    · rename_i e1 e2; subst e1
      have := r.lt hq
      rw [Val.add_blk, hbk j (r.obj j q hq).1] at e
      omega
    · rename_i e1 e2; subst e2
      have := r.lt hp
      rw [Val.add_blk, hbk i (r.obj i p hp).1] at e
      omega
    · rw [hbk i (r.obj i p hp).1, hbk j (r.obj j q hq).1] at e
      exact r.inj _ _ _ _ hp hq hr e
  · simp only [H.alloc] at hp
    rw [T.get_set] at hp
    split at hp
    · rename_i e; subst e; exact .inr (by simpa using hg)
    · exact .inl ⟨i, p, hp, fun h => h, (hbk i (r.obj i p hp).1).symm⟩
  · simp only [H.alloc]
    rw [T.get_set_ne _ _ (by omega)]

theorem Keeps.below {w' : World} (b : Below w.heap.size w w') : Keeps w w' := ⟨b.os, b.tape, b.output, b.size, b.block⟩
theorem Keeps.trans {w' w'' : World} (a : Keeps w w') (b : Keeps w' w'') : Keeps w w'' :=
  ⟨b.os.trans a.os, b.tape.trans a.tape, b.output.trans a.output, Nat.le_trans a.size b.size, fun k hk => (b.get k (Nat.lt_of_lt_of_le hk a.size)).trans (a.get k hk)⟩
end
end
end Go.Cl

namespace Go.Cl.Sh
noncomputable section
variable {σ : Sums}
set_option maxRecDepth 1000000

theorem storeA_ok (new : List CV) (b : Blk) (off : Nat) (h : off + new.length ≤ b.n) (ho : new.all CV.one = true) : ∃ b', b.storeA off new = some b' ∧ b'.n = b.n ∧ b'.ro = b.ro ∧ ∀ i, b'.get i = if off ≤ i ∧ i < off + new.length then nth new (i - off) else b.get i := by
  have : ∃ b', b.storeA off new = some b' := by
    obtain ⟨b1, e1, _⟩ := storeN_ok new b off h ho
    unfold Blk.storeA
    cases (Nat.blt 24 new.length && Nat.ble (off + new.length) b.n)
    · exact ⟨b1, e1⟩
    · rw [cond_true]
      cases b.loadF 0 b.n with
      | none => exact ⟨b1, e1⟩
      | some l => rw [ho]; exact ⟨_, rfl⟩
  obtain ⟨b', e⟩ := this
  obtain ⟨h1, h2, _, _, h5⟩ := storeA_spec e
  exact ⟨b', e, h1, h2, fun i => by rw [h5]; split <;> simp [nth_eq]⟩
theorem nlt {α : Type} {l : List α} {i : Nat} {v : α} (h : nth l i = some v) : i < l.length := by
  by_cases q : i < l.length
  · exact q
  · rw [nth_none _ _ (by omega)] at h; cases h
theorem okBL_all {n : Nat} : ∀ {l : List CV}, (∀ c ∈ l, okB n c = true) → okBL n l = true
  | [], _ => rfl
  | c :: l, h => by rw [okBL_cons, h c (by simp), okBL_all fun c hc => h c (by simp [hc])]; rfl
theorem store_step {β : Type} {Q : Option β → Prop} {b : Blk} {L : List CV} {K : H → Option β} {f : Blk → H} (hl : L.length = b.n) (ho : L.all CV.one = true) 
    (k : ∀ b', b'.n = b.n → b'.ro = b.ro → b'.loadN 0 b.n = some L → (∀ i, b'.get i = nth L i) → Q (K (f b'))) : Q (@thn _ β (Option.map f (b.storeA 0 L)) ⟨K⟩) := by
  obtain ⟨b', e, h1, h2, h3⟩ := storeA_ok L b 0 (by omega) ho
  rw [e]
  have hg : ∀ i, b'.get i = nth L i := fun i => by
    rw [h3, Nat.zero_add]
    by_cases h : i < L.length
    · rw [if_pos ⟨Nat.zero_le _, h⟩]; rfl
    · rw [if_neg (fun q => h q.2), nth_none _ _ (by omega)]; exact get_none (by omega)
  exact k b' h1 h2 (loadN_of _ _ _ hl fun i v hv => by rw [Nat.zero_add, hg, hv]) hg
theorem wrap_n {x : Int} {n : Nat} (e : x = Int.ofNat n) (h : n < 1000000000000) : IntKind.wrap .i64 x = Int.ofNat n := by
  rw [e, wrap_i64 (by simp) (by simp; omega)]
def bc (l : List Nat) : List CV := l.map u8
theorem bc_len (l : List Nat) : (bc l).length = l.length := by simp [bc]
theorem bc_app (a b : List Nat) : bc (a ++ b) = bc a ++ bc b := by simp [bc]
theorem bc_one (l : List Nat) : (bc l).all CV.one = true := List.all_eq_true.2 fun x hx => by
  obtain ⟨b, _, rfl⟩ := List.mem_map.1 hx; rfl
def zs (n : Nat) : List Nat := List.replicate n 0
theorem loadN_app {b : Blk} : ∀ (m n off : Nat), b.loadN off (m + n) = (b.loadN off m).bind fun x => (b.loadN (off + m) n).map fun y => x ++ y
  | 0, n, off => by simp [loadN_z, Nat.zero_add]
  | m + 1, n, off => by
    rw [show m + 1 + n = (m + n) + 1 by omega, loadN_s, loadN_s, loadN_app m n (off + 1)]
    cases b.get off with
    | none => rfl
    | some v =>
      simp only [bind_some']
      rw [show off + (m + 1) = off + 1 + m by omega]
      cases b.loadN (off + 1) m with
      | none => rfl
      | some x => simp only [bind_some']; cases b.loadN (off + 1 + m) n <;> rfl
end
end Go.Cl.Sh

namespace Go.Proofs
open Go.Shelf
def Tryz.lays156_ren : Go.Shelf.Ren := ⟨fun | 156 => 51 | 165 => 85 | 166 => 65 | 169 => 68 | 240 => 91 | 241 => 124 | 276 => 131 | 277 => 140 | n => n, fun | 31 => 87 | 9 => 9 | 3 => 3 | 4 => 4 | 0 => 0 | 20 => 20 | 72 => 112 | 76 => 115 | 70 => 110 | 37 => 83 | 75 => 114 | 127 => 147 | 164 => 168 | 5 => 5 | 80 => 119 | n => n, fun | n => n⟩
theorem Tryz.lays156 : Go.Proofs.Lays.n156 Tryz.prog Tryz.lays156_ren := {
  mixed := by kernel_rfl
  f156 := Tryz.func51.trans (congrArg some (by kernel_rfl))
  f165 := Tryz.func85.trans (congrArg some (by kernel_rfl))
  f166 := Tryz.func65.trans (congrArg some (by kernel_rfl))
  f169 := Tryz.func68.trans (congrArg some (by kernel_rfl))
  f240 := Tryz.func91.trans (congrArg some (by kernel_rfl))
  f241 := Tryz.func124.trans (congrArg some (by kernel_rfl))
  f276 := Tryz.func131.trans (congrArg some (by kernel_rfl))
  f277 := Tryz.func140.trans (congrArg some (by kernel_rfl))
  t0 := Tryz.underlying0
  a0 := Tryz.isAgg0
  z0 := Tryz.sizeOf0
  v0 := Tryz.zeroValue0
  t3 := Tryz.underlying3
  a3 := Tryz.isAgg3
  z3 := Tryz.sizeOf3
  v3 := Tryz.zeroValue3
  t4 := Tryz.underlying4
  a4 := Tryz.isAgg4
  z4 := Tryz.sizeOf4
  v4 := Tryz.zeroValue4
  t9 := Tryz.underlying9
  a9 := Tryz.isAgg9
  z9 := Tryz.sizeOf9
  v9 := Tryz.zeroValue9
  t20 := Tryz.underlying20
  a20 := Tryz.isAgg20
  z20 := Tryz.sizeOf20
  v20 := Tryz.zeroValue20
  t31 := Tryz.underlying87
  a31 := Tryz.isAgg87
  z31 := Tryz.sizeOf87
  v31 := Tryz.zeroValue87
  t37 := Tryz.underlying83
  a37 := Tryz.isAgg83
  z37 := Tryz.sizeOf83
  v37 := Tryz.zeroValue83
  t70 := Tryz.underlying110
  a70 := Tryz.isAgg110
  z70 := Tryz.sizeOf110
  v70 := Tryz.zeroValue110
  t72 := Tryz.underlying112
  a72 := Tryz.isAgg112
  z72 := Tryz.sizeOf112
  v72 := Tryz.zeroValue112
  t75 := Tryz.underlying114
  a75 := Tryz.isAgg114
  z75 := Tryz.sizeOf114
  v75 := Tryz.zeroValue114
  t76 := Tryz.underlying115
  a76 := Tryz.isAgg115
  z76 := Tryz.sizeOf115
  v76 := Tryz.zeroValue115
  t127 := Tryz.underlying147
  a127 := Tryz.isAgg147
  z127 := Tryz.sizeOf147
  v127 := Tryz.zeroValue147
  t164 := Tryz.underlying168
  a164 := Tryz.isAgg168
  z164 := Tryz.sizeOf168
  v164 := Tryz.zeroValue168 }
theorem Tryz.joinX : Builder.Extra Tryz.prog Tryz.lays156_ren := {
  sizeBuilder := by kernel_rfl
  liesBuilder := by kernel_rfl
  t5 := Tryz.underlying5
  a5 := Tryz.isAgg5
  z5 := Tryz.sizeOf5
  v5 := Tryz.zeroValue5
  infoByte := by kernel_rfl
  cellsByte := by kernel_rfl
  sizeByte := by kernel_rfl
  neB5 := by decide }
def Tryz.lays129_ren : Go.Shelf.Ren := ⟨fun | 129 => 136 | n => n, fun | 53 => 22 | 3 => 3 | 4 => 4 | 46 => 138 | 5 => 5 | 9 => 9 | n => n, fun | n => n⟩
theorem Tryz.lays129 : Go.Proofs.Lays.n129 Tryz.prog Tryz.lays129_ren := {
  mixed := by kernel_rfl
  f129 := Tryz.func136.trans (congrArg some (by kernel_rfl))
  t3 := Tryz.underlying3
  a3 := Tryz.isAgg3
  z3 := Tryz.sizeOf3
  v3 := Tryz.zeroValue3
  t4 := Tryz.underlying4
  a4 := Tryz.isAgg4
  z4 := Tryz.sizeOf4
  v4 := Tryz.zeroValue4
  t5 := Tryz.underlying5
  a5 := Tryz.isAgg5
  z5 := Tryz.sizeOf5
  v5 := Tryz.zeroValue5
  t9 := Tryz.underlying9
  a9 := Tryz.isAgg9
  z9 := Tryz.sizeOf9
  v9 := Tryz.zeroValue9
  t46 := Tryz.underlying138
  a46 := Tryz.isAgg138
  z46 := Tryz.sizeOf138
  v46 := Tryz.zeroValue138
  t53 := Tryz.underlying22
  a53 := Tryz.isAgg22
  z53 := Tryz.sizeOf22
  v53 := Tryz.zeroValue22 }
def Tryz.lays283_ren : Go.Shelf.Ren := ⟨fun | 283 => 120 | n => n, fun | 3 => 3 | 9 => 9 | 4 => 4 | n => n, fun | n => n⟩
theorem Tryz.lays283 : Go.Proofs.Lays.n283 Tryz.prog Tryz.lays283_ren := {
  mixed := by kernel_rfl
  f283 := Tryz.func120.trans (congrArg some (by kernel_rfl))
  t3 := Tryz.underlying3
  a3 := Tryz.isAgg3
  z3 := Tryz.sizeOf3
  v3 := Tryz.zeroValue3
  t4 := Tryz.underlying4
  a4 := Tryz.isAgg4
  z4 := Tryz.sizeOf4
  v4 := Tryz.zeroValue4
  t9 := Tryz.underlying9
  a9 := Tryz.isAgg9
  z9 := Tryz.sizeOf9
  v9 := Tryz.zeroValue9 }
def Tryz.lays285_ren : Go.Shelf.Ren := ⟨fun | 285 => 122 | n => n, fun | 37 => 83 | 53 => 22 | 3 => 3 | 4 => 4 | 51 => 177 | 9 => 9 | 5 => 5 | 0 => 0 | n => n, fun | n => n⟩
theorem Tryz.lays285 : Go.Proofs.Lays.n285 Tryz.prog Tryz.lays285_ren := {
  mixed := by kernel_rfl
  f285 := Tryz.func122.trans (congrArg some (by kernel_rfl))
  t0 := Tryz.underlying0
  a0 := Tryz.isAgg0
  z0 := Tryz.sizeOf0
  v0 := Tryz.zeroValue0
  t3 := Tryz.underlying3
  a3 := Tryz.isAgg3
  z3 := Tryz.sizeOf3
  v3 := Tryz.zeroValue3
  t4 := Tryz.underlying4
  a4 := Tryz.isAgg4
  z4 := Tryz.sizeOf4
  v4 := Tryz.zeroValue4
  t5 := Tryz.underlying5
  a5 := Tryz.isAgg5
  z5 := Tryz.sizeOf5
  v5 := Tryz.zeroValue5
  t9 := Tryz.underlying9
  a9 := Tryz.isAgg9
  z9 := Tryz.sizeOf9
  v9 := Tryz.zeroValue9
  t37 := Tryz.underlying83
  a37 := Tryz.isAgg83
  z37 := Tryz.sizeOf83
  v37 := Tryz.zeroValue83
  t51 := Tryz.underlying177
  a51 := Tryz.isAgg177
  z51 := Tryz.sizeOf177
  v51 := Tryz.zeroValue177
  t53 := Tryz.underlying22
  a53 := Tryz.isAgg22
  z53 := Tryz.sizeOf22
  v53 := Tryz.zeroValue22 }
def Tryz.lays146_ren : Go.Shelf.Ren := ⟨fun | 146 => 53 | 221 => 86 | 268 => 125 | 138 => 88 | 143 => 126 | 195 => 127 | 197 => 141 | 218 => 128 | 219 => 132 | 260 => 149 | 217 => 142 | 225 => 143 | 224 => 144 | 267 => 145 | 266 => 150 | 314 => 151 | n => n, fun | 9 => 9 | 31 => 87 | 3 => 3 | 4 => 4 | 0 => 0 | 105 => 181 | 21 => 21 | 5 => 5 | 46 => 138 | 119 => 24 | 139 => 193 | 138 => 192 | 146 => 187 | 51 => 177 | n => n, fun | 1 => 1 | 3 => 4 | 4 => 5 | n => n⟩
theorem Tryz.lays146 : Go.Proofs.Lays.n146 Tryz.prog Tryz.lays146_ren := {
  mixed := by kernel_rfl
  f138 := Tryz.func88.trans (congrArg some (by kernel_rfl))
  f143 := Tryz.func126.trans (congrArg some (by kernel_rfl))
  f146 := Tryz.func53.trans (congrArg some (by kernel_rfl))
  f195 := Tryz.func127.trans (congrArg some (by kernel_rfl))
  f197 := Tryz.func141.trans (congrArg some (by kernel_rfl))
  f217 := Tryz.func142.trans (congrArg some (by kernel_rfl))
  f218 := Tryz.func128.trans (congrArg some (by kernel_rfl))
  f219 := Tryz.func132.trans (congrArg some (by kernel_rfl))
  f221 := Tryz.func86.trans (congrArg some (by kernel_rfl))
  f224 := Tryz.func144.trans (congrArg some (by kernel_rfl))
  f225 := Tryz.func143.trans (congrArg some (by kernel_rfl))
  f260 := Tryz.func149.trans (congrArg some (by kernel_rfl))
  f266 := Tryz.func150.trans (congrArg some (by kernel_rfl))
  f267 := Tryz.func145.trans (congrArg some (by kernel_rfl))
  f268 := Tryz.func125.trans (congrArg some (by kernel_rfl))
  f314 := Tryz.func151.trans (congrArg some (by kernel_rfl))
  t0 := Tryz.underlying0
  a0 := Tryz.isAgg0
  z0 := Tryz.sizeOf0
  v0 := Tryz.zeroValue0
  t3 := Tryz.underlying3
  a3 := Tryz.isAgg3
  z3 := Tryz.sizeOf3
  v3 := Tryz.zeroValue3
  t4 := Tryz.underlying4
  a4 := Tryz.isAgg4
  z4 := Tryz.sizeOf4
  v4 := Tryz.zeroValue4
  t5 := Tryz.underlying5
  a5 := Tryz.isAgg5
  z5 := Tryz.sizeOf5
  v5 := Tryz.zeroValue5
  t9 := Tryz.underlying9
  a9 := Tryz.isAgg9
  z9 := Tryz.sizeOf9
  v9 := Tryz.zeroValue9
  t21 := Tryz.underlying21
  a21 := Tryz.isAgg21
  z21 := Tryz.sizeOf21
  v21 := Tryz.zeroValue21
  t31 := Tryz.underlying87
  a31 := Tryz.isAgg87
  z31 := Tryz.sizeOf87
  v31 := Tryz.zeroValue87
  t46 := Tryz.underlying138
  a46 := Tryz.isAgg138
  z46 := Tryz.sizeOf138
  v46 := Tryz.zeroValue138
  t51 := Tryz.underlying177
  a51 := Tryz.isAgg177
  z51 := Tryz.sizeOf177
  v51 := Tryz.zeroValue177
  t105 := Tryz.underlying181
  a105 := Tryz.isAgg181
  z105 := Tryz.sizeOf181
  v105 := Tryz.zeroValue181
  t119 := Tryz.underlying24
  a119 := Tryz.isAgg24
  z119 := Tryz.sizeOf24
  t138 := Tryz.underlying192
  a138 := Tryz.isAgg192
  z138 := Tryz.sizeOf192
  v138 := Tryz.zeroValue192
  t139 := Tryz.underlying193
  a139 := Tryz.isAgg193
  z139 := Tryz.sizeOf193
  v139 := Tryz.zeroValue193
  t146 := Tryz.underlying187
  a146 := Tryz.isAgg187
  z146 := Tryz.sizeOf187
  v146 := Tryz.zeroValue187
  g1 := by kernel_rfl
  g3 := by kernel_rfl
  g4 := by kernel_rfl }
def Tryz.lays145_ren : Go.Shelf.Ren := ⟨fun | 145 => 69 | 220 => 92 | 219 => 132 | 217 => 142 | 225 => 143 | 224 => 144 | 267 => 145 | 266 => 150 | 314 => 151 | n => n, fun | 9 => 9 | 4 => 4 | 59 => 120 | 3 => 3 | 5 => 5 | 46 => 138 | 146 => 187 | 51 => 177 | n => n, fun | 1 => 1 | n => n⟩
theorem Tryz.lays145 : Go.Proofs.Lays.n145 Tryz.prog Tryz.lays145_ren := {
  mixed := by kernel_rfl
  f145 := Tryz.func69.trans (congrArg some (by kernel_rfl))
  f217 := Tryz.func142.trans (congrArg some (by kernel_rfl))
  f219 := Tryz.func132.trans (congrArg some (by kernel_rfl))
  f220 := Tryz.func92.trans (congrArg some (by kernel_rfl))
  f224 := Tryz.func144.trans (congrArg some (by kernel_rfl))
  f225 := Tryz.func143.trans (congrArg some (by kernel_rfl))
  f266 := Tryz.func150.trans (congrArg some (by kernel_rfl))
  f267 := Tryz.func145.trans (congrArg some (by kernel_rfl))
  f314 := Tryz.func151.trans (congrArg some (by kernel_rfl))
  t3 := Tryz.underlying3
  a3 := Tryz.isAgg3
  z3 := Tryz.sizeOf3
  v3 := Tryz.zeroValue3
  t4 := Tryz.underlying4
  a4 := Tryz.isAgg4
  z4 := Tryz.sizeOf4
  v4 := Tryz.zeroValue4
  t5 := Tryz.underlying5
  a5 := Tryz.isAgg5
  z5 := Tryz.sizeOf5
  v5 := Tryz.zeroValue5
  t9 := Tryz.underlying9
  a9 := Tryz.isAgg9
  z9 := Tryz.sizeOf9
  v9 := Tryz.zeroValue9
  t46 := Tryz.underlying138
  a46 := Tryz.isAgg138
  z46 := Tryz.sizeOf138
  v46 := Tryz.zeroValue138
  t51 := Tryz.underlying177
  a51 := Tryz.isAgg177
  z51 := Tryz.sizeOf177
  v51 := Tryz.zeroValue177
  t59 := Tryz.underlying120
  a59 := Tryz.isAgg120
  z59 := Tryz.sizeOf120
  v59 := Tryz.zeroValue120
  t146 := Tryz.underlying187
  a146 := Tryz.isAgg187
  z146 := Tryz.sizeOf187
  v146 := Tryz.zeroValue187
  g1 := by kernel_rfl }
def Tryz.lays138_ren : Go.Shelf.Ren := ⟨fun | 138 => 88 | 195 => 127 | 218 => 128 | 143 => 126 | 219 => 132 | 217 => 142 | 225 => 143 | 224 => 144 | 267 => 145 | 266 => 150 | 314 => 151 | n => n, fun | 9 => 9 | 3 => 3 | 4 => 4 | 5 => 5 | 0 => 0 | 46 => 138 | 146 => 187 | 51 => 177 | n => n, fun | 1 => 1 | n => n⟩
theorem Tryz.lays138 : Go.Proofs.Lays.n138 Tryz.prog Tryz.lays138_ren := {
  mixed := by kernel_rfl
  f138 := Tryz.func88.trans (congrArg some (by kernel_rfl))
  f143 := Tryz.func126.trans (congrArg some (by kernel_rfl))
  f195 := Tryz.func127.trans (congrArg some (by kernel_rfl))
  f217 := Tryz.func142.trans (congrArg some (by kernel_rfl))
  f218 := Tryz.func128.trans (congrArg some (by kernel_rfl))
  f219 := Tryz.func132.trans (congrArg some (by kernel_rfl))
  f224 := Tryz.func144.trans (congrArg some (by kernel_rfl))
  f225 := Tryz.func143.trans (congrArg some (by kernel_rfl))
  f266 := Tryz.func150.trans (congrArg some (by kernel_rfl))
  f267 := Tryz.func145.trans (congrArg some (by kernel_rfl))
  f314 := Tryz.func151.trans (congrArg some (by kernel_rfl))
  t0 := Tryz.underlying0
  a0 := Tryz.isAgg0
  z0 := Tryz.sizeOf0
  v0 := Tryz.zeroValue0
  t3 := Tryz.underlying3
  a3 := Tryz.isAgg3
  z3 := Tryz.sizeOf3
  v3 := Tryz.zeroValue3
  t4 := Tryz.underlying4
  a4 := Tryz.isAgg4
  z4 := Tryz.sizeOf4
  v4 := Tryz.zeroValue4
  t5 := Tryz.underlying5
  a5 := Tryz.isAgg5
  z5 := Tryz.sizeOf5
  v5 := Tryz.zeroValue5
  t9 := Tryz.underlying9
  a9 := Tryz.isAgg9
  z9 := Tryz.sizeOf9
  v9 := Tryz.zeroValue9
  t46 := Tryz.underlying138
  a46 := Tryz.isAgg138
  z46 := Tryz.sizeOf138
  v46 := Tryz.zeroValue138
  t51 := Tryz.underlying177
  a51 := Tryz.isAgg177
  z51 := Tryz.sizeOf177
  v51 := Tryz.zeroValue177
  t146 := Tryz.underlying187
  a146 := Tryz.isAgg187
  z146 := Tryz.sizeOf187
  v146 := Tryz.zeroValue187
  g1 := by kernel_rfl }
end Go.Proofs

namespace Go.Cl.Jo
noncomputable section
set_option maxRecDepth 1000000

def strs : List CV → Option (List (List Nat))
  | [] => some []
  | .str s :: l => (strs l).bind fun r => some (s :: r)
  | _ :: _ => none
def cellsJ (h : H) : CV → Option (List (List Nat))
  | .nils => some []
  | .sl id off len cap => cond (match cap with | .exact c => Nat.ble len c | .opn s => Nat.beq s 1) ((h.blk id).bind fun b => (b.loadN off len).bind strs) none
  | _ => none
def joinL (sep : List Nat) : List (List Nat) → List Nat
  | [] => []
  | x :: xs => match xs with
    | [] => x
    | _ :: _ => x ++ (sep ++ joinL sep xs)
def joinS (g : FuncId) : Sums := fun f args h => cond (Nat.beq f g) (match args with
  | [v, .str sep] => (cellsJ h v).bind fun xs => cond (Nat.ble (joinL sep xs).length 1000000 && Nat.ble xs.length 1000000) (some (.str (joinL sep xs), none)) none
  | _ => none) none

theorem strs_at : ∀ {l : List CV} {r : List (List Nat)}, strs l = some r → l = r.map CV.str
  | [], r, e => by cases e; rfl
  | c :: l, r, e => by
    cases c <;> simp only [strs] at e <;> try (cases e; done)
    obtain ⟨r', h1, e⟩ := Option.bind_eq_some_iff.1 e
    cases e
    rw [strs_at h1]; rfl

theorem join_eq (sep : List Nat) : ∀ xs : List (List Nat), (Lib.join (xs.map (fun s => s.map UInt8.ofNat)) (sep.map UInt8.ofNat)) = (joinL sep xs).map UInt8.ofNat
  | [] => rfl
  | [x] => by simp [Lib.join, List.intercalate, joinL]
  | x :: y :: l => by
    have ih := join_eq sep (y :: l)
    simp only [Lib.join, List.intercalate, List.map_cons, List.intersperse_cons₂, List.flatten_cons, joinL, List.map_append] at ih ⊢
    rw [ih]
theorem join_ok (sep : List Nat) (hs : ∀ x ∈ sep, x < 256) : ∀ xs : List (List Nat), (∀ s ∈ xs, ∀ x ∈ s, x < 256) → ∀ x ∈ joinL sep xs, x < 256
  | [], _, x, hx => by cases hx
  | [s], h, x, hx => h s (by simp) x hx
  | s :: t :: l, h, x, hx => by
    have ih := join_ok sep hs (t :: l) fun s hs => h s (by simp at hs ⊢; exact .inr hs)
    simp only [joinL, List.mem_append] at hx ih
    rcases hx with hx | hx | hx
    · exact h s (by simp) x hx
    · exact hs x hx
    · exact ih x hx

theorem joinS_at {g f : FuncId} {args : List CV} {h : H} {v : CV} {x : Option H} (e : joinS g f args h = some (v, x)) :
    f = g ∧ x = none ∧ ∃ a sep xs, args = [a, .str sep] ∧ cellsJ h a = some xs ∧ (joinL sep xs).length ≤ 1000000 ∧ xs.length ≤ 1000000 ∧ v = .str (joinL sep xs) := by
  unfold joinS at e
  cases hb : Nat.beq f g <;> rw [hb] at e
  · cases e
  · simp only [cond_true] at e
    split at e
    · obtain ⟨xs, h1, e⟩ := Option.bind_eq_some_iff.1 e
      cases hc : (Nat.ble (joinL _ xs).length 1000000 && Nat.ble xs.length 1000000) <;> rw [hc] at e
      · cases e
      · cases e
        simp only [Bool.and_eq_true] at hc
        exact ⟨Nat.eq_of_beq_eq_true hb, rfl, _, _, xs, rfl, h1, Nat.le_of_ble_eq_true hc.1, Nat.le_of_ble_eq_true hc.2, rfl⟩
    · cases e

theorem str_list (s : List Nat) : (strV s).data.toList = s.map UInt8.ofNat := by simp [strV]

theorem join_ok' : SumOk Tryz.prog (joinS 51) := by
  intro g args h v x e
  obtain ⟨rfl, rfl, a, sep, xs, rfl, hc, hl, hn, rfl⟩ := joinS_at e
  refine ⟨⟨_, Tryz.func51, rfl⟩, fun f w r oa => ?_⟩
  have hsep : ∀ x ∈ sep, x < 256 := by
    have := (okL_iff _ _).1 oa (.str sep) (by simp)
    simpa only [ok] using this
  have fin : ∀ e w', e = Ending.returned (.string ⟨(Lib.join ((xs.map strV).map (·.data.toList)) (strV sep).data.toList).toArray⟩) → Keeps w w' → (∀ s ∈ xs, ∀ x ∈ s, x < 256) → CallPost f h w (.str (joinL sep xs)) none e w' := by
    intro e w' he hk hx
    refine ⟨f, ?_, Step.keeps r hk, join_ok sep hsep xs hx, fun _ => rfl⟩
    rw [he]
    have : (xs.map strV).map (·.data.toList) = xs.map fun s => s.map UInt8.ofNat := by
      rw [List.map_map]; exact List.map_congr_left fun s _ => str_list s
    rw [this, str_list, join_eq]
    rfl
  cases a <;> simp only [cellsJ] at hc <;> try (cases hc; done)
  · cases hc
    refine callsIn_wide.2 ?_
    refine (Any.strings_Join_none Tryz.lays156 Tryz.joinX none 0 (strV sep) w).mono ?_
    rintro e w' ⟨rfl, rfl⟩
    exact fin _ _ rfl ⟨rfl, rfl, rfl, Nat.le_refl _, fun _ _ => rfl⟩ (by simp)
  · rename_i id off len cap
    cases hcap : (match cap with | .exact c => Nat.ble len c | .opn s => Nat.beq s 1) <;> rw [hcap] at hc
    · cases hc
    · simp only [cond_true] at hc
      obtain ⟨b, hb, hc⟩ := Option.bind_eq_some_iff.1 hc
      obtain ⟨vs, hvs, hc⟩ := Option.bind_eq_some_iff.1 hc
      have hvx := strs_at hc
      obtain ⟨hlen, hget⟩ := loadN_spec hvs
      obtain ⟨_, cs, t, fr, h1, h2⟩ := r.blk hb
      have hxl : xs.length = len := by rw [← hlen, hvx, List.length_map]
      have hcell : ∀ j s, xs[j]? = some s → w.cell? (adr f id (off + j)) = some (.string (strV s)) ∧ ∀ x ∈ s, x < 256 := by
        intro j s hj
        have hjl : j < len := by rw [← hxl]; exact (List.getElem?_eq_some_iff.1 hj).1
        have := hget j hjl
        rw [hvx, List.getElem?_map, hj] at this
        have c := cell_at h1 h2 this
        refine ⟨by simpa only [ren] using c.1, ?_⟩
        have := c.2.1
        simpa only [ok] using this
      have hx : ∀ s ∈ xs, ∀ x ∈ s, x < 256 := fun s hs => by
        obtain ⟨j, hj⟩ := List.getElem?_of_mem hs
        exact (hcell j s hj).2
      have hbk : f.blk id < w.heap.size := (Array.getElem?_eq_some_iff.1 h1).1
      have hoff : len = 0 ∨ off + len ≤ b.n := by
        rcases Nat.eq_zero_or_pos len with h0 | h0
        · exact .inl h0
        · refine .inr ?_
          have := hget (len - 1) (by omega)
          have hlt : len - 1 < vs.length := by omega
          rw [List.getElem?_eq_getElem hlt] at this
          have := Blk.get_lt this
          omega
      have key : ∀ c, len ≤ c → CallsIn Fence.wide 0 Tryz.prog 51 #[.slice (some (adr f id off)) len c, .string (strV sep)] w (CallPost f h w (.str (joinL sep xs)) none) := by
        intro c hcl
        have hL : (Lib.join ((xs.map strV).map (·.data.toList)) (strV sep).data.toList).length ≤ 140737488355328 := by
          have : (xs.map strV).map (·.data.toList) = xs.map fun s => s.map UInt8.ofNat := by
            rw [List.map_map]; exact List.map_congr_left fun s _ => str_list s
          rw [this, str_list, join_eq, List.length_map]; omega
        have C := Any.strings_Join Tryz.lays156 Tryz.joinX (f.blk id) (f.base id + off) c (xs.map strV) (strV sep) w (fun j x hj => by
          rw [List.getElem?_map] at hj
          obtain ⟨s, hs, rfl⟩ := Option.map_eq_some_iff.1 hj
          have := (hcell j s hs).1
          simpa [adr, Nat.add_assoc] using this) hbk (by rw [List.length_map]; omega) (by rw [List.length_map]; omega) hL
        rw [List.length_map, hxl] at C
        refine callsIn_wide.2 (C.mono ?_)
        rintro e w' ⟨he, hk⟩
        exact fin _ _ he ⟨hk.os, hk.tape, hk.output, hk.size, hk.block⟩ hx
      cases cap with
      | exact c => exact key c (Nat.le_of_ble_eq_true hcap)
      | opn s =>
        obtain rfl := Nat.eq_of_beq_eq_true hcap
        have he := h2.ext
        exact key _ (by rw [Nat.div_one]; omega)
theorem tru_says {P : Program} {σ : Sums} {k : Nat} {g : FuncId} {h : H} (e : saysTrue (callK P σ k g [] h) = true) : Tru ((lim P σ).call g [] h) := by
  unfold saysTrue at e
  split at e
  · rename_i x hx
    exact ⟨x, lim_of_callK hx⟩
  · cases e
end
end Go.Cl.Jo

namespace Go.Cl.Jo
noncomputable section
set_option maxRecDepth 1000000

/-- a number's digits -/
def dec (n : Nat) : List Nat := (List.range (Lib.nDigits n)).map fun t => 48 + n / 10 ^ (Lib.nDigits n - 1 - t) % 10
theorem dec_eq (n : Nat) : Lib.decDigits n = (dec n).map UInt8.ofNat := by
  rw [Lib.decDigits_eq]
  unfold dec
  rw [List.map_map]
  rfl
theorem dec_lt (n : Nat) : ∀ x ∈ dec n, x < 256 := fun x hx => by
  unfold dec at hx
  obtain ⟨t, _, rfl⟩ := List.mem_map.1 hx
  omega
def digs (len u : Nat) : List Nat := (List.range len).map fun t => 48 + u / 10 ^ (len - 1 - t) % 10
theorem digs_len (len u : Nat) : (digs len u).length = len := by simp [digs]
def u8s (l : List Nat) : List CV := l.map fun n => .int .u8 (Int.ofNat n)

def lenS : Sums := fun f args h => cond (Nat.beq f 136) (match args with
  | [.int .u64 x] => cond (decide (0 ≤ x) && decide (x ≤ 18446744073709551615)) (some (.int .i64 (Int.ofNat (Lib.bitLen x.toNat)), none)) none
  | _ => none) none
def smallS : Sums := fun f args h => cond (Nat.beq f 120) (match args with
  | [.int .i64 x] => cond (decide (0 ≤ x) && decide (x < 100)) (some (.str (dec x.toNat), none)) none
  | _ => none) none
def fmtS : Sums := fun f args h => cond (Nat.beq f 122) (match args with
  | [.sl id off len cap, .int .u64 x] => cond (decide (0 ≤ x) && decide (x ≤ 18446744073709551615) && Nat.blt x.toNat (10 ^ len) && Nat.blt len 1000000)
    ((h.blk id).bind fun b => cond b.ro none ((b.loadN off len).bind fun vs => (bytesOf vs).bind fun _ => (b.storeN off (u8s (digs len x.toNat))).map fun b' => (.tup [], some (h.put id (.cells b'))))) none
  | _ => none) none

theorem len_ok : SumOk Tryz.prog lenS := by
  intro g args h v x e
  unfold lenS at e
  cases hb : Nat.beq g 136 <;> rw [hb] at e
  · cases e
  obtain rfl := Nat.eq_of_beq_eq_true hb
  simp only [cond_true] at e
  split at e
  · rename_i z
    cases hc : (decide (0 ≤ z) && decide (z ≤ 18446744073709551615)) <;> rw [hc] at e
    · cases e
    cases e
    simp only [Bool.and_eq_true, decide_eq_true_eq] at hc
    refine ⟨⟨_, Tryz.func136, rfl⟩, fun f w r oa => callsIn_wide.2 ((Any.bits_Len64 Tryz.lays129 z w hc.1 hc.2).mono ?_)⟩
    rintro e w' ⟨rfl, rfl⟩
    exact ⟨f, rfl, Step.refl r, trivial, fun _ => rfl⟩
  · cases e
theorem small_ok : SumOk Tryz.prog smallS := by
  intro g args h v x e
  unfold smallS at e
  cases hb : Nat.beq g 120 <;> rw [hb] at e
  · cases e
  obtain rfl := Nat.eq_of_beq_eq_true hb
  simp only [cond_true] at e
  split at e
  · rename_i z
    cases hc : (decide (0 ≤ z) && decide (z < 100)) <;> rw [hc] at e
    · cases e
    cases e
    simp only [Bool.and_eq_true, decide_eq_true_eq] at hc
    refine ⟨⟨_, Tryz.func120, rfl⟩, fun f w r oa => ?_⟩
    have C := Any.internal_strconv_small Tryz.lays283 z.toNat (by omega) w
    have hz : ((z.toNat : Nat) : Int) = z := by omega
    rw [hz] at C
    refine callsIn_wide.2 (C.mono ?_)
    rintro e w' ⟨rfl, rfl⟩
    exact ⟨f, by rw [dec_eq]; rfl, Step.refl r, dec_lt _, fun _ => rfl⟩
  · cases e

theorem putObj_mod {w : World} {k : Nat} {g : Array Value → Array Value} {cs : Array Value} {t : TypeId} {fr : Nat × Nat} (h : w.heap[k]? = some (.cells cs t fr)) : Sort.mapBlock w k g = w.putObj k (.cells (g cs) t fr) := by
  unfold Sort.mapBlock World.putObj
  congr 1
  refine Array.ext_getElem? fun i => ?_
  rw [Array.getElem?_modify, Array.getElem?_setIfInBounds]
  by_cases q : k = i
  · subst q
    have hlt := (Array.getElem?_eq_some_iff.1 h).1
    rw [if_pos rfl, if_pos rfl, if_pos hlt, h]; rfl
  · rw [if_neg q, if_neg q]
theorem putCells_many {cs : Array Value} {off : Nat} {dk : Array UInt8} {vs : List Value} (hl : vs.length = dk.size) (hv : ∀ j, j < dk.size → vs[j]? = some (Value.int .u8 (dk[j]!.toNat : Int))) :
    Sort.putCells (fun (b : UInt8) => Value.int .u8 (b.toNat : Int)) off dk cs = setMany cs off vs := by
  refine Array.ext_getElem? fun i => ?_
  unfold Sort.putCells
  rw [Array.getElem?_mapIdx]
  by_cases hi : i < cs.size
  · rw [setMany_get _ _ _ _ hi]
    by_cases q : off ≤ i ∧ i < off + dk.size
    · rw [if_pos (by omega), hv _ (by omega), Array.getElem?_eq_getElem hi, Option.map_some, if_pos q]
    · rw [if_neg (by omega), Array.getElem?_eq_getElem hi, Option.map_some, if_neg q]
  · rw [Array.getElem?_eq_none (by omega), Array.getElem?_eq_none (by rw [setMany_size]; omega)]; rfl

theorem fmt_ok : SumOk Tryz.prog fmtS := by
  intro g args h v x e
  unfold fmtS at e
  cases hb : Nat.beq g 122 <;> rw [hb] at e
  · cases e
  obtain rfl := Nat.eq_of_beq_eq_true hb
  simp only [cond_true] at e
  split at e
  · rename_i id off len cap z
    cases hc : (decide (0 ≤ z) && decide (z ≤ 18446744073709551615) && Nat.blt z.toNat (10 ^ len) && Nat.blt len 1000000) <;> rw [hc] at e
    · cases e
    simp only [cond_true] at e
    simp only [Bool.and_eq_true, decide_eq_true_eq] at hc
    obtain ⟨⟨⟨hz0, hz1⟩, hz2⟩, hlen⟩ := hc
    have hz2 : z.toNat < 10 ^ len := Nat.blt_eq ▸ hz2
    have hlen : len < 1000000 := Nat.blt_eq ▸ hlen
    obtain ⟨b, hbk, e⟩ := Option.bind_eq_some_iff.1 e
    cases hro : b.ro <;> rw [hro] at e
    case true => cases e
    simp only [cond_false] at e
    obtain ⟨vs, hvs, e⟩ := Option.bind_eq_some_iff.1 e
    obtain ⟨bs, hbs, e⟩ := Option.bind_eq_some_iff.1 e
    obtain ⟨b', hst, e⟩ := Option.map_eq_some_iff.1 e
    cases e
    obtain ⟨hvx, hlt⟩ := bytesOf_spec hbs
    obtain ⟨hl, hget⟩ := loadN_spec hvs
    refine ⟨⟨_, Tryz.func122, rfl⟩, fun f w r oa => ?_⟩
    obtain ⟨_, cs, t, fr, hw, hbo, hbt⟩ := r.blkT hbk
    have hbl : bs.length = len := by rw [← hl, hvx, List.length_map]
    have hnat : ((z.toNat : Nat) : Int) = z := by omega
    have hhold : Sort.Holds (fun (b : UInt8) => Value.int .u8 (b.toNat : Int)) w (f.blk id) (f.base id + off) (bs.map UInt8.ofNat).toArray := by
      intro j hj
      have hj : j < len := by simpa [hbl] using hj
      have h1 := hget j (by omega)
      obtain ⟨y, hy⟩ : ∃ y, bs[j]? = some y := ⟨_, List.getElem?_eq_getElem (by omega)⟩
      rw [hvx, List.getElem?_map, hy] at h1
      have c := cell_at hw hbo h1
      have hy256 := hlt y (List.mem_of_getElem? hy)
      have hd : (bs.map UInt8.ofNat).toArray[j]! = UInt8.ofNat y := by
        rw [getElem!_pos _ j (by simp; omega)]
        have := (List.getElem?_eq_some_iff.1 hy).2
        simp [this]
      rw [hd]
      refine ⟨?_, ?_⟩
      · have := c.1
        simp only [adr, ren] at this
        have e2 : (UInt8.ofNat y).toNat = y := by simp; omega
        show w.cell? _ = some (Value.int .u8 ((UInt8.ofNat y).toNat : Int))
        rw [e2]
        rw [show f.base id + off + j = f.base id + (off + j) by omega]
        exact this
      · unfold World.frozen?
        rw [hw]
        have hr := hbo.room; have hx := hbo.ext; have hlt2 := Blk.get_lt h1
        rcases hbo.free.resolve_left (by simp [hro]) with q | q
        · simp [q]
        · simp; omega
    have hx64 : z.toNat < 18446744073709551616 := by omega
    have key : ∀ c, CallsIn Fence.wide 0 Tryz.prog 122 #[.slice (some (adr f id off)) len c, .int .u64 z] w (CallPost f h w (.tup []) (some (h.put id (.cells b')))) := by
      intro c
      have C := Any.internal_strconv_formatBase10 Tryz.lays285 (f.blk id) (f.base id + off) c z.toNat (bs.map UInt8.ofNat).toArray w hhold (by simpa [hbl] using hz2) hx64 (by simp [hbl]; omega)
      have hsz : (bs.map UInt8.ofNat).toArray.size = len := by simp [hbl]
      rw [hsz, hnat] at C
      refine callsIn_wide.2 (C.mono ?_)
      rintro e w' ⟨rfl, n, v', dk, rfl, F⟩
      have hput : Sort.putRow (fun (b : UInt8) => Value.int .u8 (b.toNat : Int)) w (f.blk id) (f.base id + off) dk = w.putObj (f.blk id) (.cells (setMany cs (f.base id + off) (renL f (u8s (digs len z.toNat)))) t fr) := by
        unfold Sort.putRow
        rw [putObj_mod hw, putCells_many (vs := renL f (u8s (digs len z.toNat)))]
        · rw [renL_eq, List.length_map]; unfold u8s; rw [List.length_map, digs_len, F.size]
        · intro j hj
          rw [F.size] at hj
          rw [F.done j (Nat.zero_le _) hj, renL_eq]
          unfold u8s digs Lib.dg
          rw [List.getElem?_map, List.getElem?_map, List.getElem?_map, List.getElem?_range hj]
          simp only [Option.map_some, ren]
          congr 2
          have : (UInt8.ofNat (48 + z.toNat / 10 ^ (len - 1 - j) % 10)).toNat = 48 + z.toNat / 10 ^ (len - 1 - j) % 10 := by simp; omega
          rw [this]; rfl
      have hok : okL h.nx (u8s (digs len z.toNat)) := (okL_iff _ _).2 fun c hc => by
        unfold u8s at hc
        obtain ⟨y, _, rfl⟩ := List.mem_map.1 hc
        trivial
      have st : Step f h w f (h.put id (.cells b')) (w.putObj (f.blk id) (.cells (setMany cs (f.base id + off) (renL f (u8s (digs len z.toNat)))) t fr)) :=
        Step.put r (H.blk_get hbk) hro rfl (.cells (hbo.store hst hok) fun y hy => by
          rw [storeN_ty hst] at hy
          exact ⟨(hbt y hy).1, (hbt y hy).2.1, fun h => by rw [setMany_size, (storeN_spec hst).1]; exact (hbt y hy).2.2 h⟩)
      rw [hput]
      exact ⟨f, rfl, st.trans (Step.keeps st.rel ⟨rfl, rfl, rfl, Nat.le_refl _, fun _ _ => rfl⟩), trivial, fun h => by cases h⟩
    cases cap with
    | exact c => exact key c
    | opn s => exact key _
  · cases e
end
end Go.Cl.Jo
