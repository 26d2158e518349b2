/- The program's functions, run by the rewriting evaluator: what each answers and leaves (BdA). -/
import Derived.Shelf.SlIterI.Nil
import Derived.Shelf.SortM.Plain
import Derived.Shelf.SortM.SortNone
import Derived.Test.YtenndllcidikeaaGreatDoorProg
import Derived.KernelRfl
import Derived.Test.YtenndllcidikeaaGreatDoorShaN
set_option linter.all false
open Go Go.Cl Go.Proofs
namespace Go.Cl
noncomputable section
open Go Go.RowKit Go.Maps
open Go.WideElems (Fit rd rg)

def keyInt : CV → Option Int
  | .int .i64 n => cond (decide (-9223372036854775808 ≤ n) && decide (n < 9223372036854775808)) (some n) none
  | _ => none
def keyInts : List (CV × CV × Nat) → Option (List Int)
  | [] => some []
  | e :: l => (keyInt e.1).bind fun n => (keyInts l).bind fun r => some (n :: r)
def insI (x : Int) : List Int → List Int
  | [] => [x]
  | y :: l => cond (decide (x ≤ y)) (x :: y :: l) (y :: insI x l)
def sortI : List Int → List Int
  | [] => []
  | x :: l => insI x (sortI l)
def noDupI : List Int → Bool
  | [] => true
  | x :: l => !(l.any fun y => decide (x = y)) && noDupI l
def noDupN : List Nat → Bool
  | [] => true
  | x :: l => !(l.any fun y => Nat.beq x y) && noDupN l
def stampOk (es : List (CV × CV × Nat)) (c : Nat) : Bool := (es.all fun e => Nat.blt e.2.2 c) && noDupN (es.map fun e => e.2.2)

theorem noDupI_iff : ∀ l, noDupI l = true → l.Nodup
  | [], _ => List.nodup_nil
  | x :: l, h => by
    simp only [noDupI, Bool.and_eq_true, Bool.not_eq_true', List.any_eq_false, decide_eq_true_eq] at h
    exact List.nodup_cons.2 ⟨fun hx => h.1 x hx rfl, noDupI_iff l h.2⟩
theorem noDupN_iff : ∀ l, noDupN l = true → l.Nodup
  | [], _ => List.nodup_nil
  | x :: l, h => by
    simp only [noDupN, Bool.and_eq_true, Bool.not_eq_true', List.any_eq_false] at h
    exact List.nodup_cons.2 ⟨fun hx => h.1 x hx (Nat.beq_refl x), noDupN_iff l h.2⟩

theorem insI_perm (x : Int) : ∀ l, (insI x l).Perm (x :: l)
  | [] => .refl _
  | y :: l => by
    unfold insI
    cases decide (x ≤ y)
    · exact ((insI_perm x l).cons y).trans (.swap x y l)
    · exact .refl _
theorem sortI_perm : ∀ l, (sortI l).Perm l
  | [] => .refl _
  | x :: l => (insI_perm x _).trans ((sortI_perm l).cons x)
theorem insI_sorted (x : Int) : ∀ l : List Int, l.Pairwise (· ≤ ·) → (insI x l).Pairwise (· ≤ ·)
  | [], _ => by simp [insI]
  | y :: l, h => by
    unfold insI
    have h' := List.pairwise_cons.1 h
    cases hd : decide (x ≤ y) with
    | true =>
      have hxy : x ≤ y := of_decide_eq_true hd
      exact List.pairwise_cons.2 ⟨fun z hz => by
        rcases List.mem_cons.1 hz with rfl | hz
        · exact hxy
        · exact Int.le_trans hxy (h'.1 z hz), h⟩
    | false =>
      have hxy : ¬ x ≤ y := of_decide_eq_false hd
      exact List.pairwise_cons.2 ⟨fun z hz => by
        rcases List.mem_cons.1 ((insI_perm x l).mem_iff.1 hz) with rfl | hz
        · omega
        · exact h'.1 z hz, insI_sorted x l h'.2⟩
theorem sortI_sorted : ∀ l, (sortI l).Pairwise (· ≤ ·)
  | [] => List.Pairwise.nil
  | x :: l => insI_sorted x _ (sortI_sorted l)
theorem sortI_eq {l ss : List Int} (h : ss.Perm l) : ss.mergeSort (fun x y => decide (x ≤ y)) = sortI l := by
  have tr : ∀ a b c : Int, decide (a ≤ b) = true → decide (b ≤ c) = true → decide (a ≤ c) = true := fun a b c h1 h2 => by
    simp only [decide_eq_true_eq] at *; exact Int.le_trans h1 h2
  have to : ∀ a b : Int, (decide (a ≤ b) || decide (b ≤ a)) = true := fun a b => by
    simp only [Bool.or_eq_true, decide_eq_true_eq]; exact Int.le_total a b
  refine List.Perm.eq_of_pairwise (le := fun a b => a ≤ b) (fun a b _ _ h1 h2 => Int.le_antisymm h1 h2) ?_ (sortI_sorted l) (((List.mergeSort_perm ss _).trans h).trans (sortI_perm l).symm)
  exact (List.pairwise_mergeSort tr to ss).imp fun hh => by simpa using hh

theorem keyInt_eq {v : CV} {n : Int} (h : keyInt v = some n) : v = .int .i64 n ∧ -9223372036854775808 ≤ n ∧ n < 9223372036854775808 := by
  unfold keyInt at h
  split at h
  · rename_i m
    cases hd : (decide (-9223372036854775808 ≤ m) && decide (m < 9223372036854775808)) <;> rw [hd] at h
    · cases h
    · cases h; simp at hd; exact ⟨rfl, hd.1, hd.2⟩
  · cases h

theorem keyInts_eq : ∀ {es : List (CV × CV × Nat)} {ks : List Int}, keyInts es = some ks → es.map (fun e => e.1) = ks.map (CV.int .i64) ∧ ∀ n ∈ ks, -9223372036854775808 ≤ n ∧ n < 9223372036854775808
  | [], ks, h => by simp [keyInts] at h; subst h; simp
  | e :: l, ks, h => by
    simp only [keyInts, Option.bind_eq_some_iff] at h
    obtain ⟨n, h1, r, h2, h3⟩ := h
    cases h3
    obtain ⟨a, b, c⟩ := keyInt_eq h1
    obtain ⟨i1, i2⟩ := keyInts_eq h2
    exact ⟨by simp [a, i1], fun m hm => by
      rcases List.mem_cons.1 hm with rfl | hm
      · exact ⟨b, c⟩
      · exact i2 m hm⟩

/-- a disk's open blocks, told: the keys of the map in its second cell, sorted -/
def openK (P : Program) (gn : FuncId) (h : H) (id off : Nat) : Option (CV × Option H) :=
  match callK P noSums 60 gn [.ptr id off] h with
  | some (.bool false, none) => match (h.blk id).bind fun b => b.get (off + 1) with
    | some (.map m) => (h.mp m).bind fun p => (keyInts p.1).bind fun ks =>
        cond (stampOk p.1 p.2 && noDupI ks && Nat.ble p.1.length 1000000)
          (match ks with
           | [] => some (.nils, none)
           | _ :: _ => some (.sl h.nx 0 ks.length (.opn 1), some (h.alloc (.cells (fillB (sortI ks).length ((sortI ks).map (CV.int .i64))))))) none
    | _ => none
  | _ => none
def openS (P : Program) (go gn : FuncId) : Sums := fun f args h => cond (Nat.beq f go) (match args with | [.ptr id off] => openK P gn h id off | _ => none) none

theorem openS_at {P : Program} {go gn : FuncId} {f : FuncId} {args : List CV} {h : H} {v : CV} {x : Option H} (e : openS P go gn f args h = some (v, x)) :
    f = go ∧ ∃ id off, args = [.ptr id off] ∧ openK P gn h id off = some (v, x) := by
  unfold openS at e
  cases hb : Nat.beq f go <;> rw [hb] at e
  · cases e
  · refine ⟨Nat.eq_of_beq_eq_true hb, ?_⟩
    simp only [cond_true] at e
    split at e
    · exact ⟨_, _, rfl, e⟩
    · cases e
theorem openK_at {P : Program} {gn : FuncId} {h : H} {id off : Nat} {v : CV} {x : Option H} (e : openK P gn h id off = some (v, x)) :
    callC P noSums 60 gn [.ptr id off] h = some (.bool false, none) ∧ ∃ b m es c ks, h.blk id = some b ∧ b.get (off + 1) = some (.map m) ∧ h.mp m = some (es, c) ∧ keyInts es = some ks ∧ stampOk es c = true ∧ noDupI ks = true ∧ es.length ≤ 1000000 ∧
      ((ks = [] ∧ v = .nils ∧ x = none) ∨ (ks ≠ [] ∧ v = .sl h.nx 0 ks.length (.opn 1) ∧ x = some (h.alloc (.cells (fillB (sortI ks).length ((sortI ks).map (CV.int .i64))))))) := by
  unfold openK at e
  rw [callK_eq] at e
  split at e
  · rename_i hcall
    refine ⟨hcall, ?_⟩
    split at e
    · rename_i m hm
      simp only [Option.bind_eq_some_iff] at e hm
      obtain ⟨b, hb, hbg⟩ := hm
      obtain ⟨p, hp, ks, hks, e⟩ := e
      cases hcd : (stampOk p.1 p.2 && noDupI ks && Nat.ble p.1.length 1000000) <;> rw [hcd] at e
      · cases e
      · simp only [Bool.and_eq_true] at hcd
        refine ⟨b, m, p.1, p.2, ks, hb, hbg, hp, hks, hcd.1.1, hcd.1.2, Nat.le_of_ble_eq_true hcd.2, ?_⟩
        simp only [cond_true] at e
        cases ks with
        | nil => cases e; exact .inl ⟨rfl, rfl, rfl⟩
        | cons k ks => cases e; exact .inr ⟨by simp, rfl, rfl⟩
    · cases e
  · cases e

section
variable {P : Program} {w : World} {f : Val} {h : H}

/-- whatever a value is, it reads as nothing -/
def rdAny : Value → Option (DataW Unit × List MemPlace) := fun _ => some (.nil, [])

theorem owns_of {k : TypeId} (hk : P.underlying k = some (.int .i64)) (r : Rel f h w) {m : Nat} {es : List (CV × CV × Nat)} {c : Nat} (hm : h.mp m = some (es, c)) {ks : List Int} (hks : keyInts es = some ks)
    (hst : stampOk es c = true) (hn : noDupI ks = true) (hl : es.length ≤ 1000000) :
    ∃ D : DataW Unit, w.ownsMap P k rdAny (f.blk m) es.length D ∧ (intKeys D).Perm ks ∧ Maps.size D = es.length := by
  obtain ⟨_, hw, _⟩ := r.mp hm
  obtain ⟨hkeys, hwf⟩ := keyInts_eq hks
  have hkv : ∀ x ∈ es, ∃ n ∈ ks, x.1 = .int .i64 n := fun x hx => by
    have : x.1 ∈ ks.map (CV.int .i64) := by rw [← hkeys]; exact List.mem_map.2 ⟨x, hx, rfl⟩
    obtain ⟨n, hn, e⟩ := List.mem_map.1 this
    exact ⟨n, hn, e.symm⟩
  have hwf' : ∀ n ∈ ks, (Lit.int .i64 n).wf = true := fun n hn => by
    have := hwf n hn
    simp [Lit.wf, IntKind.min, IntKind.max, IntKind.signed, IntKind.bits]
    omega
  have hrd : ∀ x ∈ es, ∀ n, x.1 = .int .i64 n → rd P k rdAny (renE f x) = some (.int .i64 n, .nil) := fun x hx n e => by
    obtain ⟨n', hn', e'⟩ := hkv x hx
    rw [e] at e'; cases e'
    simp only [rd, renE, e, ren, Maps.keyOf_int_mk hk (hwf' n hn'), rdAny]
    rfl
  have hkl : (es.map (renE f)).map (rg P k rdAny) = ks.map fun n => ((Lit.int .i64 n, DataW.nil) : Lit × DataW Unit) := by
    have : es.map (fun x => rg P k rdAny (renE f x)) = (es.map fun e => e.1).map fun v => (match v with | .int _ n => ((Lit.int .i64 n, DataW.nil) : Lit × DataW Unit) | _ => (.bool false, .nil)) := by
      rw [List.map_map]
      refine List.map_congr_left fun x hx => ?_
      obtain ⟨n, _, e⟩ := hkv x hx
      rw [Go.WideElems.rg_of (hrd x hx n e)]
      simp [e]
    rw [List.map_map]
    refine Eq.trans this ?_
    rw [hkeys, List.map_map]
    rfl
  have hnd := noDupI_iff ks hn
  simp only [stampOk, Bool.and_eq_true, List.all_eq_true] at hst
  have hfit : Fit P k rdAny (es.map (renE f)).toArray c := by
    refine ⟨by simp [maxLen]; omega, ⟨fun x hx => ?_, ?_, ?_⟩, fun x hx => ?_⟩
    · simp only [List.mem_map] at hx
      obtain ⟨y, hy, rfl⟩ := hx
      exact Nat.blt_eq.mp (hst.1 y hy)
    · have := noDupN_iff _ hst.2
      simpa [List.map_map, Function.comp_def, renE] using this
    · have e1 : ((es.map (renE f)).toArray.toList.map fun x => x.key) = (es.map fun e => e.1).map (ren f) := by simp [List.map_map, Function.comp_def, renE]
      rw [e1, hkeys, List.map_map]
      refine List.pairwise_map.2 (hnd.imp fun hne e => hne ?_)
      simpa [ren] using e
    · simp only [List.mem_map] at hx
      obtain ⟨y, hy, rfl⟩ := hx
      obtain ⟨n, _, e⟩ := hkv y hy
      exact ⟨_, hrd y hy n e⟩
  refine ⟨_, ⟨_, c, hw, hfit, by simp, rfl⟩, ?_, ?_⟩
  · show (List.map (fun p : Lit × DataW Unit => Go.intOf p.1) _).Perm ks
    have hp := (Go.WideShapes.sorted_perm ((es.map (renE f)).toArray.toList.map (rg P k rdAny))).map (fun p : Lit × DataW Unit => Go.intOf p.1)
    refine hp.trans ?_
    show (List.map (fun p : Lit × DataW Unit => Go.intOf p.1) ((es.map (renE f)).map (rg P k rdAny))).Perm ks
    rw [hkl, List.map_map]
    show (List.map (fun n => n) ks).Perm ks
    simp
  · rw [Maps.size_eq]
    have := (Go.WideShapes.sorted_perm ((es.map (renE f)).toArray.toList.map (rg P k rdAny))).length_eq
    rw [this]; simp

/-- a block that is new to the evaluator, of which it sees the first cells -/
theorem Step.adopt {w' : World} (r : Rel f h w) (k : Keeps w w') {g cap : Nat} {cs : Array Value} {t : TypeId} {vs : List CV} (hg : w.heap.size ≤ g) (hb : w'.heap[g]? = some (.cells cs t (0, 0)))
    (ho : ∀ v ∈ vs, v.one = true ∧ ok 0 v) (hcs : cs.toList.take vs.length = renL f vs) (hc : vs.length ≤ cap) (hc' : cap ≤ cs.size) :
    Step f h w (f.add h.nx g 0 cap) (h.alloc (.cells (fillB vs.length vs))) w' := by
  have hag := Val.add_agree f h.nx g 0 cap
  have hbk : ∀ i, i < h.nx → (f.add h.nx g 0 cap).blk i = f.blk i := fun i hi => ((hag i hi).1).symm
  have hO : ObjOk (h.nx + 1) (f.add h.nx g 0 cap) h.nx (.cells (fillB vs.length vs)) (.cells cs t (0, 0)) := by
    refine .cells ⟨.inr (.inl rfl), by rw [fillB_n, Val.add_ext]; exact hc, by rw [Val.add_base, Val.add_ext]; omega, fun i hi => ?_⟩ (TyOk.none (fillB_ty _ _))
    rw [fillB_n] at hi
    have hv : vs[i]? = some vs[i] := List.getElem?_eq_getElem hi
    have hm : vs[i] ∈ vs := List.getElem_mem hi
    refine ⟨vs[i], by rw [fill_get rfl, hv], (ho _ hm).1, ok_mono (Nat.zero_le _) _ (ho _ hm).2, ?_⟩
    rw [Val.add_base, Nat.zero_add, ← ren_congr (Agree.mono hag (Nat.zero_le _)) _ (ho _ hm).2, ← Array.getElem?_toList]
    have e1 : (cs.toList.take vs.length)[i]? = cs.toList[i]? := by rw [List.getElem?_take, if_pos hi]
    rw [← e1, hcs, renL_eq, List.getElem?_map, hv]
    rfl
  refine ⟨⟨fun i p hp => ?_, fun i j p q hp hq hr e => ?_, fun g' hg' => ⟨by have := (r.glob g' hg').1; simp only [H.alloc]; omega, by rw [hbk g' (r.glob g' hg').1]; exact (r.glob g' hg').2.1, by rw [← (hag g' (r.glob g' hg').1).2.1]; exact (r.glob g' hg').2.2⟩⟩, hag, by simp [H.alloc], rfl, k.os, k.tape, k.output, k.size, fun j hj _ => k.get j hj, fun i p hp => ?_, Nat.le_refl _, fun i hi _ => ?_⟩
  · simp only [H.alloc] at hp ⊢
    rw [T.get_set] at hp
    split at hp
    · rename_i e
      cases hp; subst e
      exact ⟨by omega, _, by rw [Val.add_blk]; exact hb, hO⟩
    · obtain ⟨h1, Q, h2, h3⟩ := r.obj i p hp
      exact ⟨by omega, Q, by rw [hbk i h1, k.get _ (r.lt hp)]; exact h2, h3.mono hag (by omega) h1⟩
  · simp only [H.alloc] at hp hq
    rw [T.get_set] at hp hq
    split at hp <;> split at hq
    · omega
    · rename_i e1 e2; subst e1
      have := r.lt hq
      rw [Val.add_blk, hbk j (r.obj j q hq).1] at e
      omega
    · rename_i e1 e2; subst e2
      have := r.lt hp
      rw [Val.add_blk, hbk i (r.obj i p hp).1] at e
      omega
    · rw [hbk i (r.obj i p hp).1, hbk j (r.obj j q hq).1] at e
      exact r.inj _ _ _ _ hp hq hr e
  · simp only [H.alloc] at hp
    rw [T.get_set] at hp
    split at hp
    · rename_i e; subst e; exact .inr (by simpa using hg)
    · exact .inl ⟨i, p, hp, fun h => h, (hbk i (r.obj i p hp).1).symm⟩
  · simp only [H.alloc]
    rw [T.get_set_ne _ _ (by omega)]

theorem Keeps.below {w' : World} (b : Below w.heap.size w w') : Keeps w w' := ⟨b.os, b.tape, b.output, b.size, b.block⟩
theorem Keeps.trans {w' w'' : World} (a : Keeps w w') (b : Keeps w' w'') : Keeps w w'' :=
  ⟨b.os.trans a.os, b.tape.trans a.tape, b.output.trans a.output, Nat.le_trans a.size b.size, fun k hk => (b.get k (Nat.lt_of_lt_of_le hk a.size)).trans (a.get k hk)⟩
end
end
end Go.Cl

namespace Go.Proofs
open Go.RowKit Go.Maps Go.Sort Go.Shelf
def Tryz.keysA_ren : Go.Shelf.Ren := ⟨fun | 7 => 78 | 10 => 146 | n => n, fun | 23 => 104 | 26 => 3 | 3 => 57 | 28 => 129 | 0 => 0 | 27 => 128 | 33 => 79 | 4 => 4 | n => n, fun | n => n⟩
theorem Tryz.keysA : Go.Proofs.SlLaysZI.n7 Tryz.prog Tryz.keysA_ren := {
  mixed := by kernel_rfl
  f7 := ⟨Tryz.f78.name, by decide, Tryz.func78.trans (congrArg some (by kernel_rfl))⟩
  f10 := ⟨Tryz.f146.name, by decide, Tryz.func146.trans (congrArg some (by kernel_rfl))⟩
  t0 := Tryz.underlying0
  a0 := Tryz.isAgg0
  z0 := Tryz.sizeOf0
  v0 := Tryz.zeroValue0
  t4 := Tryz.underlying4
  a4 := Tryz.isAgg4
  z4 := Tryz.sizeOf4
  v4 := Tryz.zeroValue4
  t23 := Tryz.underlying104
  a23 := Tryz.isAgg104
  z23 := Tryz.sizeOf104
  v23 := Tryz.zeroValue104
  t26 := Tryz.underlying3
  a26 := Tryz.isAgg3
  z26 := Tryz.sizeOf3
  v26 := Tryz.zeroValue3
  t27 := Tryz.underlying128
  a27 := Tryz.isAgg128
  z27 := Tryz.sizeOf128
  v27 := Tryz.zeroValue128
  t28 := Tryz.underlying129
  a28 := Tryz.isAgg129
  z28 := Tryz.sizeOf129
  v28 := Tryz.zeroValue129
  t33 := Tryz.underlying79
  a33 := Tryz.isAgg79
  z33 := Tryz.sizeOf79
  v33 := Tryz.zeroValue79 }
def Tryz.sortedA_ren : Go.Shelf.Ren := ⟨fun | 6 => 77 | 8 => 144 | 9 => 145 | 11 => 182 | 13 => 184 | 12 => 183 | 23 => 222 | 24 => 223 | 14 => 213 | 15 => 214 | 16 => 215 | 17 => 216 | 18 => 217 | 19 => 218 | 20 => 219 | 21 => 220 | 22 => 221 | 25 => 250 | 26 => 251 | 27 => 252 | 28 => 253 | 29 => 254 | 30 => 255 | 31 => 270 | n => n, fun | 26 => 3 | 28 => 129 | 24 => 60 | 0 => 0 | 3 => 3 | 37 => 78 | 48 => 252 | 50 => 24 | 4 => 4 | 40 => 263 | 39 => 262 | 45 => 212 | 5 => 5 | 9 => 9 | 51 => 296 | 55 => 299 | 57 => 312 | 58 => 313 | 33 => 79 | n => n, fun | n => n⟩
theorem Tryz.sortedA : Go.Proofs.SlLaysZI.n6 Tryz.prog Tryz.sortedA_ren := {
  mixed := by kernel_rfl
  f6 := ⟨Tryz.f77.name, by decide, Tryz.func77.trans (congrArg some (by kernel_rfl))⟩
  f8 := ⟨Tryz.f144.name, by decide, Tryz.func144.trans (congrArg some (by kernel_rfl))⟩
  f11 := ⟨Tryz.f182.name, by decide, Tryz.func182.trans (congrArg some (by kernel_rfl))⟩
  t0 := Tryz.underlying0
  a0 := Tryz.isAgg0
  z0 := Tryz.sizeOf0
  v0 := Tryz.zeroValue0
  t24 := Tryz.underlying60
  a24 := Tryz.isAgg60
  z24 := Tryz.sizeOf60
  v24 := Tryz.zeroValue60
  t26 := Tryz.underlying3
  a26 := Tryz.isAgg3
  z26 := Tryz.sizeOf3
  v26 := Tryz.zeroValue3
  t28 := Tryz.underlying129
  a28 := Tryz.isAgg129
  z28 := Tryz.sizeOf129
  v28 := Tryz.zeroValue129
  i26 := by kernel_rfl }
def Tryz.sortA_ren : Go.Shelf.Ren := ⟨fun | 5 => 145 | 8 => 184 | 7 => 183 | 19 => 222 | 20 => 223 | 10 => 213 | 11 => 214 | 12 => 215 | 13 => 216 | 14 => 217 | 15 => 218 | 16 => 219 | 17 => 220 | 18 => 221 | 30 => 250 | 31 => 251 | 32 => 252 | 33 => 253 | 34 => 254 | 35 => 255 | 40 => 270 | n => n, fun | 23 => 60 | 25 => 3 | 3 => 3 | 32 => 78 | 22 => 60 | 0 => 0 | 44 => 252 | 46 => 24 | 4 => 4 | 36 => 263 | 35 => 262 | 41 => 212 | 5 => 5 | 9 => 9 | 53 => 296 | 57 => 299 | 63 => 312 | 64 => 313 | n => n, fun | n => n⟩
theorem Tryz.sortA : Go.Proofs.SlLaysM.n5 Tryz.prog Tryz.sortA_ren := {
  mixed := by kernel_rfl
  f5 := ⟨Tryz.f145.name, by decide, Tryz.func145.trans (congrArg some (by kernel_rfl))⟩
  f7 := ⟨Tryz.f183.name, by decide, Tryz.func183.trans (congrArg some (by kernel_rfl))⟩
  f8 := Tryz.func184.trans (congrArg some (by kernel_rfl))
  f10 := ⟨Tryz.f213.name, by decide, Tryz.func213.trans (congrArg some (by kernel_rfl))⟩
  f11 := ⟨Tryz.f214.name, by decide, Tryz.func214.trans (congrArg some (by kernel_rfl))⟩
  f12 := ⟨Tryz.f215.name, by decide, Tryz.func215.trans (congrArg some (by kernel_rfl))⟩
  f13 := ⟨Tryz.f216.name, by decide, Tryz.func216.trans (congrArg some (by kernel_rfl))⟩
  f14 := ⟨Tryz.f217.name, by decide, Tryz.func217.trans (congrArg some (by kernel_rfl))⟩
  f15 := ⟨Tryz.f218.name, by decide, Tryz.func218.trans (congrArg some (by kernel_rfl))⟩
  f16 := ⟨Tryz.f219.name, by decide, Tryz.func219.trans (congrArg some (by kernel_rfl))⟩
  f17 := ⟨Tryz.f220.name, by decide, Tryz.func220.trans (congrArg some (by kernel_rfl))⟩
  f18 := ⟨Tryz.f221.name, by decide, Tryz.func221.trans (congrArg some (by kernel_rfl))⟩
  f19 := Tryz.func222.trans (congrArg some (by kernel_rfl))
  f20 := Tryz.func223.trans (congrArg some (by kernel_rfl))
  f30 := ⟨Tryz.f250.name, by decide, Tryz.func250.trans (congrArg some (by kernel_rfl))⟩
  f31 := Tryz.func251.trans (congrArg some (by kernel_rfl))
  f32 := Tryz.func252.trans (congrArg some (by kernel_rfl))
  f33 := ⟨Tryz.f253.name, by decide, Tryz.func253.trans (congrArg some (by kernel_rfl))⟩
  f34 := ⟨Tryz.f254.name, by decide, Tryz.func254.trans (congrArg some (by kernel_rfl))⟩
  f35 := ⟨Tryz.f255.name, by decide, Tryz.func255.trans (congrArg some (by kernel_rfl))⟩
  f40 := ⟨Tryz.f270.name, by decide, Tryz.func270.trans (congrArg some (by kernel_rfl))⟩
  t0 := Tryz.underlying0
  a0 := Tryz.isAgg0
  z0 := Tryz.sizeOf0
  v0 := Tryz.zeroValue0
  t3 := Tryz.underlying3
  a3 := Tryz.isAgg3
  z3 := Tryz.sizeOf3
  v3 := Tryz.zeroValue3
  t4 := Tryz.underlying4
  a4 := Tryz.isAgg4
  z4 := Tryz.sizeOf4
  v4 := Tryz.zeroValue4
  t5 := Tryz.underlying5
  a5 := Tryz.isAgg5
  z5 := Tryz.sizeOf5
  v5 := Tryz.zeroValue5
  t9 := Tryz.underlying9
  a9 := Tryz.isAgg9
  z9 := Tryz.sizeOf9
  v9 := Tryz.zeroValue9
  t22 := Tryz.underlying60
  a22 := Tryz.isAgg60
  z22 := Tryz.sizeOf60
  v22 := Tryz.zeroValue60
  t23 := Tryz.underlying60
  a23 := Tryz.isAgg60
  z23 := Tryz.sizeOf60
  v23 := Tryz.zeroValue60
  t25 := Tryz.underlying3
  a25 := Tryz.isAgg3
  z25 := Tryz.sizeOf3
  v25 := Tryz.zeroValue3
  t32 := Tryz.underlying78
  a32 := Tryz.isAgg78
  z32 := Tryz.sizeOf78
  v32 := Tryz.zeroValue78
  t35 := Tryz.underlying262
  a35 := Tryz.isAgg262
  z35 := Tryz.sizeOf262
  v35 := Tryz.zeroValue262
  t36 := Tryz.underlying263
  a36 := Tryz.isAgg263
  z36 := Tryz.sizeOf263
  v36 := Tryz.zeroValue263
  t41 := Tryz.underlying212
  a41 := Tryz.isAgg212
  z41 := Tryz.sizeOf212
  v41 := Tryz.zeroValue212
  t44 := Tryz.underlying252
  a44 := Tryz.isAgg252
  z44 := Tryz.sizeOf252
  v44 := Tryz.zeroValue252
  t46 := Tryz.underlying24
  a46 := Tryz.isAgg24
  z46 := Tryz.sizeOf24
  v46 := Tryz.zeroValue24
  t53 := Tryz.underlying296
  a53 := Tryz.isAgg296
  z53 := Tryz.sizeOf296
  v53 := Tryz.zeroValue296
  t57 := Tryz.underlying299
  a57 := Tryz.isAgg299
  z57 := Tryz.sizeOf299
  v57 := Tryz.zeroValue299
  t63 := Tryz.underlying312
  a63 := Tryz.isAgg312
  z63 := Tryz.sizeOf312
  v63 := Tryz.zeroValue312
  t64 := Tryz.underlying313
  a64 := Tryz.isAgg313
  z64 := Tryz.sizeOf313
  v64 := Tryz.zeroValue313 }
end Go.Proofs

namespace Go.Cl.So
open Go.RowKit Go.Maps Go.Sort Go.Shelf
set_option maxRecDepth 1000000

theorem sorts (m : Nat) : AnyZI.SortsIn Tryz.prog Tryz.sortedA_ren Fence.wide m :=
  ⟨fun blk off cap ss W hH hblk hsz => callsIn_wide.2 (AnyM.slices_Sort_int Tryz.sortA blk off cap ss W hH hblk hsz),
   fun p cap W => callsIn_wide.2 (AnyM.slices_Sort_int_none Tryz.sortA p cap W)⟩

set_option maxHeartbeats 2000000 in
theorem open_some {w : World} {b o m n : Nat} {ks : List Int} {S : World → Prop}
    (hn : CallsIn Fence.wide 5 Tryz.prog 72 #[.pointer (some ⟨b, o, none⟩)] w fun e w' => e = .returned (.bool false) ∧ S w' ∧ w'.cell? ⟨b, o + 1, none⟩ = some (.map (some m)) ∧ ∃ D : DataW Unit, w'.ownsMap Tryz.prog 3 rdAny m n D ∧ (intKeys D).Perm ks ∧ Maps.size D = n)
    (hl : n ≤ 1000000) :
    CallsIn Fence.wide 6 Tryz.prog 23 #[.pointer (some ⟨b, o, none⟩)] w fun e w' => ∃ w1, S w1 ∧ Keeps w1 w' ∧
      ((ks = [] ∧ e = .returned (.slice none 0 0)) ∨
       (ks ≠ [] ∧ ∃ g cap cur t, e = .returned (.slice (some ⟨g, 0, none⟩) ks.length cap) ∧ w1.heap.size ≤ g ∧ w'.heap[g]? = some (.cells cur t (0, 0)) ∧ ks.length ≤ cap ∧ cap ≤ cur.size ∧ cur.toList.take ks.length = (sortI ks).map (Value.int .i64))) := by
  have hfN : Fence.wide.fn 72 := trivial
  have hfK : Fence.wide.fn 78 := trivial
  have hfS : Fence.wide.fn 77 := trivial
  have cK : ∀ mb W, CallsIn Fence.wide 5 Tryz.prog 78 #[.map mb] W fun e w' => e = .returned (.func (.func 146) #[] #[.pointer (some ⟨W.heap.size, 0, none⟩)]) ∧ w' = W.alloc (.cells #[.map mb] 104) := fun mb W => AnyZI.keys_in Tryz.keysA Fence.wide 5 trivial rfl mb W
  have cS : ∀ (W : World) (D : DataW Unit), W.ownsMap Tryz.prog 3 rdAny m n D → (intKeys D).Perm ks → Maps.size D = n → CallsIn Fence.wide 5 Tryz.prog 77 #[.func (.func 146) #[] #[.pointer (some ⟨W.heap.size, 0, none⟩)]] (W.alloc (.cells #[.map (some m)] 104)) fun e w' =>
      Keeps W w' ∧ ((ks = [] ∧ e = .returned (.slice none 0 0)) ∨
       (ks ≠ [] ∧ ∃ g cap cur t, e = .returned (.slice (some ⟨g, 0, none⟩) ks.length cap) ∧ W.heap.size ≤ g ∧ w'.heap[g]? = some (.cells cur t (0, 0)) ∧ ks.length ≤ cap ∧ cap ≤ cur.size ∧ cur.toList.take ks.length = (sortI ks).map (Value.int .i64))) := fun W D hown hp hs => by
    have hbl := hown.lt
    have hseq : SeqGives Fence.wide 2 Tryz.prog 146 #[.pointer (some ⟨W.heap.size, 0, none⟩)] encZ (fun ss => ss.Perm (intKeys D)) (Maps.size D) (W.alloc (.cells #[.map (some m)] 104)) :=
      AnyZI.keys_gives (ρ := Tryz.keysA_ren) { Tryz.keysA with } Fence.wide _ trivial rfl (by omega) W.heap.size m n D _ (by simp) (by simp) (by
        obtain ⟨es, clock, hb, Ft, hs, hD⟩ := hown
        exact ⟨es, clock, (Below.heap_alloc _ _ m hbl).trans hb, Ft, hs, hD⟩)
    have c := AnyZI.sorted_in Tryz.sortedA Fence.wide 5 trivial trivial trivial trivial rfl (by omega) (sorts _) (enters_of Tryz.func145 (by kernel_rfl) rfl) 146 #[.pointer (some ⟨W.heap.size, 0, none⟩)] trivial (enters_of Tryz.func146 (by kernel_rfl) rfl) _ _ (by rw [hs]; simp [maxLen]; omega) (by rw [hs]; omega) _ hseq
    refine CallsIn.mono c ?_
    rintro e w' ⟨v, ss, rfl, hS, hrow, hnil, hb⟩
    have hk : Keeps W w' := (Keeps.alloc W _).trans ⟨hb.os, hb.tape, hb.output, hb.size, hb.block⟩
    have hss := hS.trans hp
    refine ⟨hk, ?_⟩
    by_cases h0 : ks = []
    · subst h0
      have : ss = [] := hss.eq_nil
      exact .inl ⟨rfl, by rw [hnil.2 this]⟩
    · refine .inr ⟨h0, ?_⟩
      have hne : ss ≠ [] := fun e => h0 (by subst e; exact hss.symm.eq_nil)
      rcases hrow.2 with ⟨hv, _⟩ | ⟨g, cap, cur, rfl, hbase, hgb, r1, r2, r3, r4⟩
      · exact absurd (hnil.1 hv) hne
      · have hlen : ss.length = ks.length := hss.length_eq
        refine ⟨g, cap, cur, _, by rw [hlen], ?_, hgb, by omega, by omega, ?_⟩
        · simp at hbase; omega
        · rw [← hlen, ← sortI_eq hss]
          simpa [encZ] using r4
  refine callsIn_of_wp Tryz.func23 rfl trivial ?_ rfl
  simp only [Tryz.ntmps23, List.size_toArray, List.length_cons, List.length_nil, Nat.reduceAdd, Nat.reduceSub, Array.replicate_succ, Array.replicate_zero, List.push_toArray, List.append_toArray, List.nil_append, List.cons_append]
  gi_wp2_with (first
    | (gi_at_call 72; refine hn.mono ?_; rintro e w1 ⟨rfl, hk1, hc, D, hown, hD1, hD2⟩)
    | (gi_at_call 78; refine (cK _ _).mono ?_; rintro e w2 ⟨rfl, rfl⟩)
    | (gi_at_call 77; refine (cS _ D hown hD1 hD2).mono ?_; rintro e w3 ⟨hk3, ⟨hks, rfl⟩ | ⟨hks, g, cap, cur, t, rfl, hg, hgb, hc1, hc2, hc3⟩⟩))
  · go_ret
    exact ⟨_, hk1, hk3, .inl ⟨hks, rfl⟩⟩
  · go_ret
    exact ⟨_, hk1, hk3, .inr ⟨hks, g, cap, cur, t, rfl, hg, hgb, hc1, hc2, hc3⟩⟩

theorem open_ok : ∀ (g : FuncId) (args : List CV) (h : H) (v : CV) (x : Option H), openS Tryz.prog 23 72 g args h = some (v, x) →
    (∃ fn, Tryz.prog.funcs[g]? = some fn ∧ fn.body.isSome = true) ∧ ∀ (f : Val) (w : World), Rel f h w → okL h.nx args → CallsIn Fence.wide 0 Tryz.prog g (renL f args).toArray w (CallPost f h w v x) := by
  intro g args h v x e
  obtain ⟨rfl, id, off, rfl, e⟩ := openS_at e
  refine ⟨⟨_, Tryz.func23, rfl⟩, fun f w r oa => ?_⟩
  obtain ⟨hcall, b, m, es, c, ks, hb, hbg, hp, hks, hst, hnd, hl, hv⟩ := openK_at e
  have hn := callC_sound (noSums_ok _) (plain_of (by kernel_rfl)) (by kernel_rfl) hcall r oa
  have hkl : es.length = ks.length := by
    have := congrArg List.length (keyInts_eq hks).1
    simpa using this
  have hD : ∀ w', Step f h w f h w' → ∃ D : DataW Unit, w'.ownsMap Tryz.prog 3 rdAny (f.blk m) es.length D ∧ (intKeys D).Perm ks ∧ Maps.size D = es.length := fun w' s =>
    owns_of (P := Tryz.prog) (k := 3) (by kernel_rfl) s.rel hp hks hst hnd hl
  have hn' : CallsIn Fence.wide 5 Tryz.prog 72 #[.pointer (some ⟨f.blk id, f.base id + off, none⟩)] w fun e w' => e = .returned (.bool false) ∧ Step f h w f h w' ∧ w'.cell? ⟨f.blk id, f.base id + off + 1, none⟩ = some (.map (some (f.blk m))) ∧ ∃ D : DataW Unit, w'.ownsMap Tryz.prog 3 rdAny (f.blk m) es.length D ∧ (intKeys D).Perm ks ∧ Maps.size D = es.length := by
    refine CallsIn.mono (callsIn_wide.2 hn) ?_
    rintro e w' ⟨f', he, hs, _, hf⟩
    obtain rfl := hf rfl
    refine ⟨he, hs, ?_, hD _ hs⟩
    obtain ⟨_, cs, t, fr, h1, h2⟩ := hs.rel.blk hb
    have := (cell_at h1 h2 hbg).1
    simpa [adr, ren, Nat.add_assoc] using this
  have big := open_some hn' hl
  refine CallsIn.mono (callsIn_wide.2 (callsIn_wide.1 big)) ?_
  rintro e w' ⟨w1, hs1, hk, ⟨h0, rfl⟩ | ⟨h0, g, cap, cur, t, rfl, hg, hgb, hc1, hc2, hc3⟩⟩
  · rcases hv with ⟨_, rfl, rfl⟩ | ⟨h1, _⟩
    · exact ⟨f, rfl, hs1.trans (Step.keeps hs1.rel hk), trivial, fun _ => rfl⟩
    · exact absurd h0 h1
  · rcases hv with ⟨h1, _⟩ | ⟨_, rfl, rfl⟩
    · exact absurd h1 h0
    · have hlen : (sortI ks).length = ks.length := (sortI_perm ks).length_eq
      have st := Step.adopt (vs := (sortI ks).map (CV.int .i64)) hs1.rel hk hg hgb (fun v hv => by
        obtain ⟨n, _, rfl⟩ := List.mem_map.1 hv
        exact ⟨rfl, trivial⟩) (by
        rw [List.length_map, hlen, hc3, renL_eq, List.map_map]
        rfl) (by rw [List.length_map, hlen]; exact hc1) hc2
      rw [List.length_map] at st
      refine ⟨_, ?_, hs1.trans st, ?_, fun h => by cases h⟩
      · simp [ren, adr, Val.add]
      · simp [ok, H.alloc]
end Go.Cl.So
