/- The program's functions, run by the rewriting evaluator: what each answers and leaves (BdB). -/
import Derived.Shelf.Strings.OnBuilder
import Derived.Shelf.Strings.Search1
import Derived.Test.YtenndllcidikeaaGreatDoorProg
import Derived.KernelRfl
import Derived.Test.YtenndllcidikeaaGreatDoorBdA
set_option linter.all false
open Go Go.Cl Go.Proofs
namespace Go.Proofs
open Go.RowKit Go.Shelf
def Tryz.lays169_ren : Go.Shelf.Ren := ⟨fun | 169 => 121 | n => n, fun | 70 => 163 | 9 => 9 | 0 => 0 | 72 => 166 | 37 => 164 | 127 => 227 | 3 => 3 | 5 => 5 | n => n, fun | n => n⟩
theorem Tryz.lays169 : Go.Proofs.Lays.n169 Tryz.prog Tryz.lays169_ren := {
  mixed := by kernel_rfl
  f169 := Tryz.func121.trans (congrArg some (by kernel_rfl))
  t0 := Tryz.underlying0
  a0 := Tryz.isAgg0
  z0 := Tryz.sizeOf0
  v0 := Tryz.zeroValue0
  t3 := Tryz.underlying3
  a3 := Tryz.isAgg3
  z3 := Tryz.sizeOf3
  v3 := Tryz.zeroValue3
  t9 := Tryz.underlying9
  a9 := Tryz.isAgg9
  z9 := Tryz.sizeOf9
  v9 := Tryz.zeroValue9
  t37 := Tryz.underlying164
  a37 := Tryz.isAgg164
  z37 := Tryz.sizeOf164
  v37 := Tryz.zeroValue164
  t70 := Tryz.underlying163
  a70 := Tryz.isAgg163
  z70 := Tryz.sizeOf163
  v70 := Tryz.zeroValue163
  t72 := Tryz.underlying166
  a72 := Tryz.isAgg166
  z72 := Tryz.sizeOf166
  v72 := Tryz.zeroValue166
  t127 := Tryz.underlying227
  a127 := Tryz.isAgg227
  z127 := Tryz.sizeOf227
  v127 := Tryz.zeroValue227 }
def Tryz.lays217_ren : Go.Shelf.Ren := ⟨fun | 217 => 231 | 266 => 261 | n => n, fun | 9 => 9 | 5 => 5 | 3 => 3 | n => n, fun | n => n⟩
theorem Tryz.lays217 : Go.Proofs.Lays.n217 Tryz.prog Tryz.lays217_ren := {
  mixed := by kernel_rfl
  f217 := Tryz.func231.trans (congrArg some (by kernel_rfl))
  f266 := Tryz.func261.trans (congrArg some (by kernel_rfl))
  t3 := Tryz.underlying3
  a3 := Tryz.isAgg3
  z3 := Tryz.sizeOf3
  v3 := Tryz.zeroValue3
  t5 := Tryz.underlying5
  a5 := Tryz.isAgg5
  z5 := Tryz.sizeOf5
  v5 := Tryz.zeroValue5
  t9 := Tryz.underlying9
  a9 := Tryz.isAgg9
  z9 := Tryz.sizeOf9
  v9 := Tryz.zeroValue9 }
end Go.Proofs

namespace Go.Cl.Bd
noncomputable section
open Go.Shelf Go.RowKit
set_option maxRecDepth 1000000

/-! ### a byte's place -/
def ixN (c : Nat) : List Nat → Int
  | [] => -1
  | x :: l => cond (Nat.beq x c) 0 (let r := ixN c l; cond (decide (r = -1)) (-1) (r + 1))
def ixS (g : FuncId) : Sums := fun f args h => cond (Nat.beq f g) (match args with
  | [.str s, .int .u8 (.ofNat c)] => cond (Nat.blt c 256) (some (.int .i64 (ixN c s), none)) none
  | _ => none) none
theorem u8_beq {x c : Nat} (hx : x < 256) (hc : c < 256) : (UInt8.ofNat x == UInt8.ofNat c) = Nat.beq x c := by
  rw [Bool.eq_iff_iff, beq_iff_eq]
  constructor
  · intro h
    have := congrArg UInt8.toNat h
    rw [UInt8.toNat_ofNat', UInt8.toNat_ofNat', Nat.mod_eq_of_lt hx, Nat.mod_eq_of_lt hc] at this
    subst this; exact Nat.beq_refl _
  · intro h
    rw [Nat.eq_of_beq_eq_true h]
theorem ix_eq {c : Nat} (hc : c < 256) : ∀ s : List Nat, (∀ x ∈ s, x < 256) → Lib.indexByte (s.map UInt8.ofNat) (UInt8.ofNat c) = ixN c s
  | [], _ => rfl
  | x :: l, h => by
    have ih := ix_eq hc l fun y hy => h y (List.mem_cons_of_mem _ hy)
    simp only [List.map_cons, Lib.indexByte, ixN, ih, u8_beq (h x List.mem_cons_self) hc]
    cases Nat.beq x c
    · simp only [Bool.false_eq_true, if_false, cond_false]
      by_cases q : ixN c l = -1
      · rw [q]; rfl
      · have q' : (ixN c l == -1) = false := by rw [beq_eq_false_iff_ne]; exact q
        rw [q', decide_eq_false q]; rfl
    · rfl
theorem ix_ok : SumOk Tryz.prog (ixS 231) := by
  intro g args h v x e
  unfold ixS at e
  cases hb : Nat.beq g 231 <;> rw [hb] at e
  · cases e
  · obtain rfl := Nat.eq_of_beq_eq_true hb
    simp only [cond_true] at e
    split at e
    · rename_i s c
      obtain ⟨hc, e⟩ := cond_some e
      cases e
      have hc := Nat.blt_eq.mp hc
      refine ⟨⟨_, Tryz.func231, rfl⟩, fun f w r oa => ?_⟩
      have hs : ∀ x ∈ s, x < 256 := by
        have := (okL_iff _ _).1 oa (.str s) (by simp)
        simpa only [ok] using this
      refine callsIn_wide.2 ((Any.stringslite_IndexByte Tryz.lays217 (strV s) (Int.ofNat c) w).mono ?_)
      rintro e w' ⟨rfl, rfl⟩
      refine ⟨f, ?_, Step.refl r, trivial, fun _ => rfl⟩
      have : (strV s).data.toList = s.map UInt8.ofNat := by simp [strV]
      rw [this, show (Int.ofNat c).toNat.toUInt8 = UInt8.ofNat c from rfl, ix_eq hc s hs]
      rfl
    · cases e

/-! ### a builder's own address -/
def ccS (P : Program) (g : FuncId) (BT : TypeId) : Sums := fun f args h => cond (Nat.beq f g) (match args with
  | [.ptr id off] => (h.blk id).bind fun b => (match b.ty with
    | some (e, true) => cond (!b.ro && liesAt P P.depth e (b.n / P.cellsOf e) off BT 1) ((b.get off).bind fun v => (match v with
      | .nilp => (b.storeN off [.ptr id off]).map fun b' => (.tup [], some (h.put id (.cells b')))
      | .ptr i o => cond (Nat.beq i id && Nat.beq o off) (some (.tup [], none)) none
      | _ => none)) none
    | _ => none)
  | _ => none) none
theorem sizeB : (Tryz.prog.info? 166).map (·.size) = some 2 := by kernel_rfl
set_option maxHeartbeats 1000000 in
theorem cc_used (k o : Nat) (w : World) (h0 : w.cell? ⟨k, o, none⟩ = some (.pointer (some ⟨k, o, none⟩))) :
    Calls Tryz.prog 201 #[.pointer (some ⟨k, o, none⟩)] w fun e w' => e = .returned (.tuple #[]) ∧ w' = w := by
  obtain ⟨j, hj, _⟩ := Option.map_eq_some_iff.1 sizeB
  have mixed : Tryz.prog.follows .mixedOrders = true := by kernel_rfl
  go_enter Tryz.func201, Tryz.ntmps201
  go_wp2
  rw [Lib.run_neq_ptr_same w _ Tryz.underlying163 hj]
  go_wp2
  go_end0
  exact ⟨rfl, rfl⟩
set_option maxHeartbeats 1000000 in
theorem cc_fresh (k o cells : Nat) (e : TypeId) (w : World) (h0 : w.cell? ⟨k, o, none⟩ = some (.pointer none)) (hsh : w.shape? k = some (e, cells)) (ho : o < cells) (hfz : w.frozen? ⟨k, o, none⟩ = false)
    (hl : liesAt Tryz.prog Tryz.prog.depth e (cells / Tryz.prog.cellsOf e) o 166 1 = true) :
    Calls Tryz.prog 201 #[.pointer (some ⟨k, o, none⟩)] w fun e w' => e = .returned (.tuple #[]) ∧ w' = w.setCell ⟨k, o, none⟩ (.pointer (some ⟨k, o, none⟩)) := by
  obtain ⟨j, hj, hjs⟩ := Option.map_eq_some_iff.1 sizeB
  have mixed : Tryz.prog.follows .mixedOrders = true := by kernel_rfl
  go_enter Tryz.func201, Tryz.ntmps201
  go_wp2
  rw [Lib.run_to_unsafe w ⟨k, o, none⟩ Tryz.underlying163 Tryz.underlying281 hj (by rw [hjs]; decide) hsh ho]
  simp only [Result.andThen]
  rw [Oper.upon_value]
  go_wp2
  rw [run_callFunc_extern Tryz.func238 (by kernel_rfl) (by kernel_rfl) (by kernel_rfl) (e := Extern.AbiNoEscape.same) (by kernel_rfl)]
  rw [Lib.run_noEscape]
  simp only [Result.andThen]
  rw [Oper.upon_value]
  go_wp2
  rw [Lib.run_from_unsafe w ⟨k, o, none⟩ Tryz.underlying281 Tryz.underlying163 hj hsh hl]
  simp only [Result.andThen]
  rw [Oper.upon_value]
  go_wp2
  go_end0
  exact ⟨rfl, rfl⟩
theorem cc_ok : SumOk Tryz.prog (ccS Tryz.prog 201 166) := by
  intro g args h v x e
  unfold ccS at e
  cases hb : Nat.beq g 201 <;> rw [hb] at e
  · cases e
  obtain rfl := Nat.eq_of_beq_eq_true hb
  simp only [cond_true] at e
  split at e
  case h_2 => cases e
  rename_i id off
  replace e := Option.bind_eq_some_iff.1 e; obtain ⟨b, hbk, e⟩ := e
  split at e
  case h_2 => cases e
  rename_i et hty
  replace e := cond_some e; obtain ⟨hc, e⟩ := e
  simp only [Bool.and_eq_true, Bool.not_eq_true'] at hc
  replace e := Option.bind_eq_some_iff.1 e; obtain ⟨u, hu, e⟩ := e
  refine ⟨⟨_, Tryz.func201, rfl⟩, fun f w r oa => ?_⟩
  obtain ⟨hid, cs, t, fr, hw, hbo, hbt⟩ := r.blkT hbk
  obtain ⟨rfl, hbase, hsz⟩ := hbt _ hty
  have hsz := hsz rfl
  have hcell := cell_at hw hbo hu
  have hoff : off < b.n := Blk.get_lt hu
  have hrl : (renL f [.ptr id off]).toArray = #[.pointer (some ⟨f.blk id, off, none⟩)] := by simp [renL, ren, adr, hbase]
  rw [hrl]
  have hc0 : w.cell? ⟨f.blk id, off, none⟩ = some (ren f u) := by
    have := hcell.1
    simpa [adr, hbase] using this
  split at e
  · -- fresh
    obtain ⟨b', hst, e⟩ := Option.map_eq_some_iff.1 e
    cases e
    refine callsIn_wide.2 ((cc_fresh (f.blk id) off cs.size t w hc0 (by simp [World.shape?, hw]) (by omega) (by
      have := hbo.free.resolve_left (by simp [hc.1])
      rcases this with h1 | h1
      · simp [World.frozen?, hw, h1]
      · simp [World.frozen?, hw]; omega) (by rw [hsz]; exact hc.2)).mono ?_)
    rintro e w' ⟨rfl, rfl⟩
    have hsp := storeN_spec hst
    have h2 : Step f h w f (h.put id (.cells b')) (w.setCell ⟨f.blk id, off, none⟩ (.pointer (some ⟨f.blk id, off, none⟩))) := by
      refine Step.put r (H.blk_get hbk) hc.1 (setCell_put hw _) ?_
      have h3 := hbo.store' hsp (by simpa only [okL, ok, and_true] using hid)
      rw [hbase, Nat.zero_add] at h3
      have h4 : setMany cs off (renL f [CV.ptr id off]) = cs.setIfInBounds off (.pointer (some ⟨f.blk id, off, none⟩)) := by simp [renL, ren, adr, hbase, setMany]
      rw [h4] at h3
      refine .cells h3 fun y hy => ?_
      rw [storeN_ty hst] at hy
      exact ⟨(hbt y hy).1, (hbt y hy).2.1, fun hz => by rw [Array.size_setIfInBounds, hsp.1]; exact (hbt y hy).2.2 hz⟩
    exact ⟨f, rfl, h2, trivial, fun h => by cases h⟩
  · rename_i i o
    obtain ⟨hio, e⟩ := cond_some e
    cases e
    simp only [Bool.and_eq_true] at hio
    obtain rfl := Nat.eq_of_beq_eq_true hio.1
    obtain rfl := Nat.eq_of_beq_eq_true hio.2
    refine callsIn_wide.2 ((cc_used (f.blk i) o w (by rw [hc0]; simp [ren, adr, hbase])).mono ?_)
    rintro e w' ⟨rfl, rfl⟩
    exact ⟨f, rfl, Step.refl r, trivial, fun _ => rfl⟩
  · cases e

/-! ### a builder's text -/
def byt : List CV → Option (List Nat)
  | [] => some []
  | .int .u8 (.ofNat n) :: l => cond (Nat.blt n 256) ((byt l).map (n :: ·)) none
  | _ :: _ => none
theorem byt_eq : ∀ {l : List CV} {s : List Nat}, byt l = some s → l = s.map (fun n => CV.int .u8 (Int.ofNat n)) ∧ ∀ x ∈ s, x < 256
  | [], s, e => by cases e; exact ⟨rfl, by simp⟩
  | c :: l, s, e => by
    unfold byt at e
    split at e
    · rename_i h; cases h
    · rename_i n l' h
      cases h
      replace e := cond_some e; obtain ⟨hn, e⟩ := e
      obtain ⟨s', h1, e⟩ := Option.map_eq_some_iff.1 e
      cases e
      obtain ⟨h2, h3⟩ := byt_eq h1
      exact ⟨by rw [h2]; rfl, fun x hx => by
        rcases List.mem_cons.1 hx with rfl | hx
        · exact Nat.blt_eq.mp hn
        · exact h3 x hx⟩
    · cases e
def txS (g : FuncId) (ET : TypeId) : Sums := fun f args h => cond (Nat.beq f g) (match args with
  | [.ptr id off] => (h.blk id).bind fun b => (b.get (off + 1)).bind fun v => (match v with
    | .sl i 0 n (.opn 1) => cond (Nat.blt 0 n && Nat.blt n 1000000000) ((h.blk i).bind fun bb => (match bb.ty with
      | some (e, _) => cond (Nat.beq e ET && !bb.ro) ((bb.loadN 0 n).bind fun cs => (byt cs).map fun s => (.str s, some (h.put i (.cells { bb with ro := true })))) none
      | none => none)) none
    | _ => none)
  | _ => none) none
theorem freeze_at {w : World} {k n : Nat} {cs : Array Value} {t : TypeId} {fr : Nat × Nat} (hn : n ≠ 0) (e : w.heap[k]? = some (.cells cs t fr)) :
    w.freeze ⟨k, 0, none⟩ n = w.putObj k (.cells cs t (if fr.1 == fr.2 then (0, 0 + n) else (min fr.1 0, max fr.2 (0 + n)))) := by
  have hlt := (Array.getElem?_eq_some_iff.1 e).1
  unfold World.freeze World.putObj
  rw [if_neg hn]
  congr 1
  apply Array.ext_getElem?
  intro i
  rw [Array.getElem?_modify, Array.getElem?_setIfInBounds]
  by_cases hi : k = i
  · subst hi
    have e' : w.heap[k] = .cells cs t fr := by
      rw [Array.getElem?_eq_getElem hlt] at e; exact Option.some.inj e
    obtain ⟨lo, hi⟩ := fr
    simp [hlt, e']
  · simp [hi]
set_option maxHeartbeats 2000000 in
theorem tx_run (k o g n cap cells : Nat) (l : List UInt8) (w : World) (hn : l.length = n) (h0 : n ≠ 0) (hc0 : cap ≠ 0) (h63 : n ≤ 9223372036854775807) (c1 : w.cell? ⟨k, o + 1, none⟩ = some (.slice (some ⟨g, 0, none⟩) n cap))
    (hsh : w.shape? g = some (5, cells)) (hle : n ≤ cells) (hcell : ∀ j x, l[j]? = some x → w.cell? ⟨g, j, none⟩ = some (.int .u8 x.toNat)) :
    Calls Tryz.prog 121 #[.pointer (some ⟨k, o, none⟩)] w fun e w' => e = .returned (.string ⟨l.toArray⟩) ∧ w' = w.drew.freeze ⟨g, 0, none⟩ n := by
  subst hn
  have hSD : (Builtin.unsafeSliceData_ #[164] 227 #[.slice (some ⟨g, 0, none⟩) l.length cap]).run Tryz.prog w.drew = .ok (.pointer (some ⟨g, 0, none⟩)) w.drew :=
    Lib.run_unsafeSliceData_row _ _ _ _ _ _ hc0
  have hUS : (Builtin.unsafeString_ #[227, 3] 9 #[.pointer (some ⟨g, 0, none⟩), .int .i64 l.length]).run Tryz.prog w.drew = .ok (.string ⟨l.toArray⟩) (w.drew.freeze ⟨g, 0, none⟩ l.length) := by
    refine Lib.run_unsafeString_row w.drew 227 3 9 5 Tryz.underlying227 (by kernel_rfl) g cells hsh l (fun e => h0 (by rw [e]; rfl)) hle h63 ?_
    intro j x hx
    have := hcell j x hx
    by_cases q : j = 0
    · subst q; exact this
    · simpa [Addr.add, q] using this
  have c1' : w.drew.cell? ⟨k, o + 1, none⟩ = some (.slice (some ⟨g, 0, none⟩) l.length cap) := c1
  have mixed : Tryz.prog.follows .mixedOrders = true := by kernel_rfl
  go_enter Tryz.func121, Tryz.ntmps121
  go_wp2
  go_region_o
  all_goals (go_wp2; go_ret; exact ⟨rfl, rfl⟩)
theorem tx_ok : SumOk Tryz.prog (txS 121 5) := by
  intro g args h v x e
  unfold txS at e
  cases hb : Nat.beq g 121 <;> rw [hb] at e
  · cases e
  obtain rfl := Nat.eq_of_beq_eq_true hb
  simp only [cond_true] at e
  split at e
  case h_2 => cases e
  rename_i id off
  replace e := Option.bind_eq_some_iff.1 e; obtain ⟨b, hbk, e⟩ := e
  replace e := Option.bind_eq_some_iff.1 e; obtain ⟨u, hu, e⟩ := e
  split at e
  case h_2 => cases e
  rename_i i n
  replace e := cond_some e; obtain ⟨hn, e⟩ := e
  simp only [Bool.and_eq_true] at hn
  have hn0 := Nat.blt_eq.mp hn.1
  have hn9 := Nat.blt_eq.mp hn.2
  replace e := Option.bind_eq_some_iff.1 e; obtain ⟨bb, hbb, e⟩ := e
  split at e
  case h_2 => cases e
  rename_i et y hty
  replace e := cond_some e; obtain ⟨hc, e⟩ := e
  simp only [Bool.and_eq_true, Bool.not_eq_true'] at hc
  obtain rfl := Nat.eq_of_beq_eq_true hc.1
  replace e := Option.bind_eq_some_iff.1 e; obtain ⟨cs0, hcs, e⟩ := e
  obtain ⟨s, hs, e⟩ := Option.map_eq_some_iff.1 e
  cases e
  obtain ⟨rfl, hlt⟩ := byt_eq hs
  refine ⟨⟨_, Tryz.func121, rfl⟩, fun f w r oa => ?_⟩
  obtain ⟨hid, cs, t, fr, hw, hbo, hbt⟩ := r.blkT hbk
  obtain ⟨hid2, cs2, t2, fr2, hw2, hbo2, hbt2⟩ := r.blkT hbb
  obtain ⟨rfl, hbase, _⟩ := hbt2 _ hty
  obtain ⟨hlen, hget⟩ := loadN_spec hcs
  rw [List.length_map] at hlen
  have hcell := (cell_at hw hbo hu).1
  have hrl : (renL f [.ptr id off]).toArray = #[.pointer (some ⟨f.blk id, f.base id + off, none⟩)] := by simp [renL, ren, adr]
  rw [hrl]
  have hnb : n ≤ bb.n := by
    have h1 := hget (n - 1) (by omega)
    have hl : n - 1 < (s.map fun n => CV.int .u8 (Int.ofNat n)).length := by rw [List.length_map]; omega
    rw [List.getElem?_eq_getElem hl] at h1
    have := Blk.get_lt h1
    omega
  have hx := hbo2.ext
  have hr := hbo2.room
  have hcell2 : ∀ j c, s[j]? = some c → w.cell? ⟨f.blk i, j, none⟩ = some (.int .u8 (Int.ofNat c)) := fun j c hj => by
    have hj' : j < n := by have := (List.getElem?_eq_some_iff.1 hj).1; omega
    have h1 := hget j hj'
    rw [List.getElem?_map, hj] at h1
    have := (cell_at hw2 hbo2 h1).1
    simpa [adr, hbase, ren] using this
  have hD := Step.keeps r (Keeps.drew w)
  have hrun := tx_run (f.blk id) (f.base id + off) (f.blk i) n (f.ext i) cs2.size (s.map UInt8.ofNat) w (by rw [List.length_map]; omega) (by omega) (by omega) (by omega) (by
      have := hcell
      simpa [adr, ren, hbase, Nat.add_assoc] using this) (by simp [World.shape?, hw2]) (by omega) (fun j x hj => by
      rw [List.getElem?_map] at hj
      obtain ⟨c, hc1, hc2⟩ := Option.map_eq_some_iff.1 hj
      have := hcell2 j c hc1
      rw [this, ← hc2]
      have := hlt c (List.mem_of_getElem? hc1)
      simp [UInt8.toNat_ofNat', Nat.mod_eq_of_lt this])
  refine callsIn_wide.2 (hrun.mono ?_)
  rintro e w' ⟨rfl, rfl⟩
  have hw2' : w.drew.heap[f.blk i]? = w.heap[f.blk i]? := rfl
  rw [hw2] at hw2'
  refine ⟨f, ?_, hD.trans (Step.put hD.rel (H.blk_get hbb) hc.2 (freeze_at (by omega) hw2') (.cells ⟨.inl rfl, hbo2.ext, hbo2.room, hbo2.cell⟩ hbt2)), ?_, fun h => by cases h⟩
  · simp [ren, strV]
  · show ok _ _
    simp only [ok]
    exact hlt
end
end Go.Cl.Bd
