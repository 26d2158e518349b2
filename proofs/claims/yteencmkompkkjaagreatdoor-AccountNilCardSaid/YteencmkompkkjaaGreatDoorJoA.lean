/- The program's functions, run by the rewriting evaluator: what each answers and leaves (JoA). -/
import Derived.Shelf.Strings.OnBuilder
import Derived.Test.YteencmkompkkjaaGreatDoorProg
import Derived.KernelRfl
import Derived.Test.YteencmkompkkjaaGreatDoorClH
set_option linter.all false
open Go Go.Cl Go.Proofs
attribute [go_sem] Nat.reduceLT Nat.reduceLeDiff Nat.reduceEqDiff Nat.reduceAdd Nat.reduceSub Nat.reduceMul reduceCtorEq Int.reduceBEq Int.reduceLT Int.reduceLE Int.reduceAdd Int.reduceSub Int.reduceEq Int.reduceNeg Int.reduceToNat Int.reduceGT Int.reduceGE

namespace Go.Proofs
open Go.Shelf
def Tryz.lays156_ren : Go.Shelf.Ren := ⟨fun | 156 => 18 | 165 => 37 | 166 => 38 | 169 => 39 | 240 => 62 | 241 => 63 | 276 => 86 | 277 => 87 | n => n, fun | 31 => 27 | 9 => 9 | 3 => 3 | 4 => 4 | 0 => 0 | 20 => 20 | 72 => 135 | 76 => 139 | 70 => 132 | 37 => 133 | 75 => 138 | 127 => 164 | 164 => 201 | 5 => 5 | 80 => 141 | n => n, fun | n => n⟩
theorem Tryz.lays156 : Go.Proofs.Lays.n156 Tryz.prog Tryz.lays156_ren := {
  mixed := by kernel_rfl
  f156 := Tryz.func18.trans (congrArg some (by kernel_rfl))
  f165 := Tryz.func37.trans (congrArg some (by kernel_rfl))
  f166 := Tryz.func38.trans (congrArg some (by kernel_rfl))
  f169 := Tryz.func39.trans (congrArg some (by kernel_rfl))
  f240 := Tryz.func62.trans (congrArg some (by kernel_rfl))
  f241 := Tryz.func63.trans (congrArg some (by kernel_rfl))
  f276 := Tryz.func86.trans (congrArg some (by kernel_rfl))
  f277 := Tryz.func87.trans (congrArg some (by kernel_rfl))
  t0 := Tryz.underlying0
  a0 := Tryz.isAgg0
  z0 := Tryz.sizeOf0
  v0 := Tryz.zeroValue0
  t3 := Tryz.underlying3
  a3 := Tryz.isAgg3
  z3 := Tryz.sizeOf3
  v3 := Tryz.zeroValue3
  t4 := Tryz.underlying4
  a4 := Tryz.isAgg4
  z4 := Tryz.sizeOf4
  v4 := Tryz.zeroValue4
  t9 := Tryz.underlying9
  a9 := Tryz.isAgg9
  z9 := Tryz.sizeOf9
  v9 := Tryz.zeroValue9
  t20 := Tryz.underlying20
  a20 := Tryz.isAgg20
  z20 := Tryz.sizeOf20
  v20 := Tryz.zeroValue20
  t31 := Tryz.underlying27
  a31 := Tryz.isAgg27
  z31 := Tryz.sizeOf27
  v31 := Tryz.zeroValue27
  t37 := Tryz.underlying133
  a37 := Tryz.isAgg133
  z37 := Tryz.sizeOf133
  v37 := Tryz.zeroValue133
  t70 := Tryz.underlying132
  a70 := Tryz.isAgg132
  z70 := Tryz.sizeOf132
  v70 := Tryz.zeroValue132
  t72 := Tryz.underlying135
  a72 := Tryz.isAgg135
  z72 := Tryz.sizeOf135
  v72 := Tryz.zeroValue135
  t75 := Tryz.underlying138
  a75 := Tryz.isAgg138
  z75 := Tryz.sizeOf138
  v75 := Tryz.zeroValue138
  t76 := Tryz.underlying139
  a76 := Tryz.isAgg139
  z76 := Tryz.sizeOf139
  v76 := Tryz.zeroValue139
  t127 := Tryz.underlying164
  a127 := Tryz.isAgg164
  z127 := Tryz.sizeOf164
  v127 := Tryz.zeroValue164
  t164 := Tryz.underlying201
  a164 := Tryz.isAgg201
  z164 := Tryz.sizeOf201
  v164 := Tryz.zeroValue201 }
theorem Tryz.joinX : Builder.Extra Tryz.prog Tryz.lays156_ren := {
  sizeBuilder := by kernel_rfl
  liesBuilder := by kernel_rfl
  t5 := Tryz.underlying5
  a5 := Tryz.isAgg5
  z5 := Tryz.sizeOf5
  v5 := Tryz.zeroValue5
  infoByte := by kernel_rfl
  cellsByte := by kernel_rfl
  sizeByte := by kernel_rfl
  neB5 := by decide }
end Go.Proofs

namespace Go.Cl.Jo
noncomputable section
set_option maxRecDepth 1000000

def strs : List CV → Option (List (List Nat))
  | [] => some []
  | .str s :: l => (strs l).bind fun r => some (s :: r)
  | _ :: _ => none
def cellsJ (h : H) : CV → Option (List (List Nat))
  | .nils => some []
  | .sl id off len cap => cond (match cap with | .exact c => Nat.ble len c | .opn s => Nat.beq s 1) ((h.blk id).bind fun b => (b.loadN off len).bind strs) none
  | _ => none
def joinL (sep : List Nat) : List (List Nat) → List Nat
  | [] => []
  | x :: xs => match xs with
    | [] => x
    | _ :: _ => x ++ (sep ++ joinL sep xs)
def joinS (g : FuncId) : Sums := fun f args h => cond (Nat.beq f g) (match args with
  | [v, .str sep] => (cellsJ h v).bind fun xs => cond (Nat.ble (joinL sep xs).length 1000000 && Nat.ble xs.length 1000000) (some (.str (joinL sep xs), none)) none
  | _ => none) none

theorem strs_at : ∀ {l : List CV} {r : List (List Nat)}, strs l = some r → l = r.map CV.str
  | [], r, e => by cases e; rfl
  | c :: l, r, e => by
    cases c <;> simp only [strs] at e <;> try (cases e; done)
    obtain ⟨r', h1, e⟩ := Option.bind_eq_some_iff.1 e
    cases e
    rw [strs_at h1]; rfl

theorem join_eq (sep : List Nat) : ∀ xs : List (List Nat), (Lib.join (xs.map (fun s => s.map UInt8.ofNat)) (sep.map UInt8.ofNat)) = (joinL sep xs).map UInt8.ofNat
  | [] => rfl
  | [x] => by simp [Lib.join, List.intercalate, joinL]
  | x :: y :: l => by
    have ih := join_eq sep (y :: l)
    simp only [Lib.join, List.intercalate, List.map_cons, List.intersperse_cons₂, List.flatten_cons, joinL, List.map_append] at ih ⊢
    rw [ih]
theorem join_ok (sep : List Nat) (hs : ∀ x ∈ sep, x < 256) : ∀ xs : List (List Nat), (∀ s ∈ xs, ∀ x ∈ s, x < 256) → ∀ x ∈ joinL sep xs, x < 256
  | [], _, x, hx => by cases hx
  | [s], h, x, hx => h s (by simp) x hx
  | s :: t :: l, h, x, hx => by
    have ih := join_ok sep hs (t :: l) fun s hs => h s (by simp at hs ⊢; exact .inr hs)
    simp only [joinL, List.mem_append] at hx ih
    rcases hx with hx | hx | hx
    · exact h s (by simp) x hx
    · exact hs x hx
    · exact ih x hx

theorem joinS_at {g f : FuncId} {args : List CV} {h : H} {v : CV} {x : Option H} (e : joinS g f args h = some (v, x)) :
    f = g ∧ x = none ∧ ∃ a sep xs, args = [a, .str sep] ∧ cellsJ h a = some xs ∧ (joinL sep xs).length ≤ 1000000 ∧ xs.length ≤ 1000000 ∧ v = .str (joinL sep xs) := by
  unfold joinS at e
  cases hb : Nat.beq f g <;> rw [hb] at e
  · cases e
  · simp only [cond_true] at e
    split at e
    · obtain ⟨xs, h1, e⟩ := Option.bind_eq_some_iff.1 e
      cases hc : (Nat.ble (joinL _ xs).length 1000000 && Nat.ble xs.length 1000000) <;> rw [hc] at e
      · cases e
      · cases e
        simp only [Bool.and_eq_true] at hc
        exact ⟨Nat.eq_of_beq_eq_true hb, rfl, _, _, xs, rfl, h1, Nat.le_of_ble_eq_true hc.1, Nat.le_of_ble_eq_true hc.2, rfl⟩
    · cases e

theorem str_list (s : List Nat) : (strV s).data.toList = s.map UInt8.ofNat := by simp [strV]

theorem join_ok' : SumOk Tryz.prog (joinS 18) := by
  intro g args h v x e
  obtain ⟨rfl, rfl, a, sep, xs, rfl, hc, hl, hn, rfl⟩ := joinS_at e
  refine ⟨⟨_, Tryz.func18, rfl⟩, fun f w r oa => ?_⟩
  have hsep : ∀ x ∈ sep, x < 256 := by
    have := (okL_iff _ _).1 oa (.str sep) (by simp)
    simpa only [ok] using this
  have fin : ∀ e w', e = Ending.returned (.string ⟨(Lib.join ((xs.map strV).map (·.data.toList)) (strV sep).data.toList).toArray⟩) → Keeps w w' → (∀ s ∈ xs, ∀ x ∈ s, x < 256) → CallPost f h w (.str (joinL sep xs)) none e w' := by
    intro e w' he hk hx
    refine ⟨f, ?_, Step.keeps r hk, join_ok sep hsep xs hx, fun _ => rfl⟩
    rw [he]
    have : (xs.map strV).map (·.data.toList) = xs.map fun s => s.map UInt8.ofNat := by
      rw [List.map_map]; exact List.map_congr_left fun s _ => str_list s
    rw [this, str_list, join_eq]
    rfl
  cases a <;> simp only [cellsJ] at hc <;> try (cases hc; done)
  · cases hc
    refine callsIn_wide.2 ?_
    refine (Any.strings_Join_none Tryz.lays156 Tryz.joinX none 0 (strV sep) w).mono ?_
    rintro e w' ⟨rfl, rfl⟩
    exact fin _ _ rfl ⟨rfl, rfl, rfl, Nat.le_refl _, fun _ _ => rfl⟩ (by simp)
  · rename_i id off len cap
    cases hcap : (match cap with | .exact c => Nat.ble len c | .opn s => Nat.beq s 1) <;> rw [hcap] at hc
    · cases hc
    · simp only [cond_true] at hc
      obtain ⟨b, hb, hc⟩ := Option.bind_eq_some_iff.1 hc
      obtain ⟨vs, hvs, hc⟩ := Option.bind_eq_some_iff.1 hc
      have hvx := strs_at hc
      obtain ⟨hlen, hget⟩ := loadN_spec hvs
      obtain ⟨_, cs, t, fr, h1, h2⟩ := r.blk hb
      have hxl : xs.length = len := by rw [← hlen, hvx, List.length_map]
      have hcell : ∀ j s, xs[j]? = some s → w.cell? (adr f id (off + j)) = some (.string (strV s)) ∧ ∀ x ∈ s, x < 256 := by
        intro j s hj
        have hjl : j < len := by rw [← hxl]; exact (List.getElem?_eq_some_iff.1 hj).1
        have := hget j hjl
        rw [hvx, List.getElem?_map, hj] at this
        have c := cell_at h1 h2 this
        refine ⟨by simpa only [ren] using c.1, ?_⟩
        have := c.2.1
        simpa only [ok] using this
      have hx : ∀ s ∈ xs, ∀ x ∈ s, x < 256 := fun s hs => by
        obtain ⟨j, hj⟩ := List.getElem?_of_mem hs
        exact (hcell j s hj).2
      have hbk : f.blk id < w.heap.size := (Array.getElem?_eq_some_iff.1 h1).1
      have hoff : len = 0 ∨ off + len ≤ b.n := by
        rcases Nat.eq_zero_or_pos len with h0 | h0
        · exact .inl h0
        · refine .inr ?_
          have := hget (len - 1) (by omega)
          have hlt : len - 1 < vs.length := by omega
          rw [List.getElem?_eq_getElem hlt] at this
          have := Blk.get_lt this
          omega
      have key : ∀ c, len ≤ c → CallsIn Fence.wide 0 Tryz.prog 18 #[.slice (some (adr f id off)) len c, .string (strV sep)] w (CallPost f h w (.str (joinL sep xs)) none) := by
        intro c hcl
        have hL : (Lib.join ((xs.map strV).map (·.data.toList)) (strV sep).data.toList).length ≤ 140737488355328 := by
          have : (xs.map strV).map (·.data.toList) = xs.map fun s => s.map UInt8.ofNat := by
            rw [List.map_map]; exact List.map_congr_left fun s _ => str_list s
          rw [this, str_list, join_eq, List.length_map]; omega
        have C := Any.strings_Join Tryz.lays156 Tryz.joinX (f.blk id) (f.base id + off) c (xs.map strV) (strV sep) w (fun j x hj => by
          rw [List.getElem?_map] at hj
          obtain ⟨s, hs, rfl⟩ := Option.map_eq_some_iff.1 hj
          have := (hcell j s hs).1
          simpa [adr, Nat.add_assoc] using this) hbk (by rw [List.length_map]; omega) (by rw [List.length_map]; omega) hL
        rw [List.length_map, hxl] at C
        refine callsIn_wide.2 (C.mono ?_)
        rintro e w' ⟨he, hk⟩
        exact fin _ _ he ⟨hk.os, hk.tape, hk.output, hk.size, hk.block⟩ hx
      cases cap with
      | exact c => exact key c (Nat.le_of_ble_eq_true hcap)
      | opn s =>
        obtain rfl := Nat.eq_of_beq_eq_true hcap
        have he := h2.ext
        exact key _ (by rw [Nat.div_one]; omega)
theorem tru_says {P : Program} {σ : Sums} {k : Nat} {g : FuncId} {h : H} (e : saysTrue (callK P σ k g [] h) = true) : Tru ((lim P σ).call g [] h) := by
  unfold saysTrue at e
  split at e
  · rename_i x hx
    exact ⟨x, lim_of_callK hx⟩
  · cases e
end
end Go.Cl.Jo
