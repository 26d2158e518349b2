/- The program's functions, run by the rewriting evaluator: what each answers and leaves (ScD). -/
import Derived.Test.YtolenjlggpdigaaGreatDoorScC
set_option linter.all false
open Go Go.Cl Go.Proofs
namespace Go.Cl.Sh
open Go.Cl.Jo
variable {σ : Sums}
set_option maxRecDepth 1000000
theorem num_run (S : Tg σ) (h : H) (k : Int) : (lim Tryz.prog σ).call 13 [.int .i64 k] h = some (.int .i64 k, none) := by
  rw [call_eq (S.no _ _ _ rfl) fn_13 rfl rfl, Tryz.ntmps13, Tryz.results13]
  simp only [go_sem]
  rw [fin_q _ _ _ rfl rfl]
theorem parts_run (S : Tg σ) (hk : ∀ h, (lim Tryz.prog σ).call 14 [] h = some (.bool true, none)) {h : H} (T : Tb h) {cs : List CV} {c : Cm} (C : CmdOk cs c) (N : CmdN c) {xs : List Nat} (hl : xs.length = 256) (h8 : ∀ x ∈ xs, x < 256) (m : Int) :
    Tru ((lim Tryz.prog σ).call 3 [.agg cs, .agg (bc xs), .int .i64 m] h) := by
  rw [call_eq (S.no _ _ _ rfl) fn_3 rfl rfl, Tryz.ntmps3, Tryz.results3]
  have hb := aB_cmd C
  have hb2 : ∀ e, allocB e (bc xs) = newBlk (bc xs) := fun e => aB_bc e xs
  have ld : (newBlk cs).loadN 0 265 = some cs := loadN_of _ _ _ C.len fun i v hv => by rw [Nat.zero_add, newBlk_get, hv]
  have ld2 : (newBlk (bc xs)).loadN 0 256 = some (bc xs) := loadN_of _ _ _ (by rw [bc_len, hl]) fun i v hv => by rw [Nat.zero_add, newBlk_get, hv]
  obtain ⟨X, hX⟩ : ∃ X, X = (h.lo.alloc (.cells (newBlk cs))).alloc (.cells (newBlk (bc xs))) := ⟨_, rfl⟩
  have TX : Tb X := by rw [hX]; exact tb_al (tb_al (tb_lo T) _) _
  have ec := commandText_run S TX C N
  have eb : ∀ h', (lim Tryz.prog σ).call 9 [.agg (bc xs)] h' = some (.str (btext xs), none) := fun h' => block_run S h' hl h8
  have er : ∀ h', (lim Tryz.prog σ).call 10 [.agg (bc xs)] h' = some (.str (btext xs), none) := fun h' => rblock_run S h' hl h8
  have em : ∀ h', (lim Tryz.prog σ).call 12 [.agg cs, .int .i64 64] h' = some (.bool (mayC c), none) := fun h' => rmay_run S h' C
  obtain ⟨x1, e1, E1⟩ := once_run S X 0
  obtain ⟨x2, e2, E2⟩ := once_run S (x1.getD X) m
  have f0 : X.blk h.nx = some (newBlk cs) := by rw [hX]; exact (alloc_blk_ne _ _ _ (by show h.nx ≠ h.nx + 1; omega)).trans (alloc_blk_same _ _ _ rfl)
  have g0 : X.blk (h.nx + 1) = some (newBlk (bc xs)) := by rw [hX]; exact alloc_blk_same _ _ _ rfl
  have Xnx : X.nx = h.nx + 1 + 1 := by rw [hX]; rfl
  have f1 := (E1.blk (by omega)).trans f0
  have g1 := (E1.blk (by omega)).trans g0
  have f2 := ((E1.trans E2).blk (by omega)).trans f0
  have g2 := ((E1.trans E2).blk (by omega)).trans g0
  subst hX
  cases hm : mayC c with
  | false =>
    rw [hm] at ec em
    simp only [↓ld, ↓ld2, go_sem, C.one, bc_one, hb, hb2, ec, eb, er, Bool.false_eq_true, if_false]
    refine cnd_go (Q := Tru) (by kernel_rfl) ?_
    rcases x1 with _ | x1 <;> rcases x2 with _ | x2
    all_goals
      simp only [Option.getD_none, Option.getD_some] at e1 e2 f1 g1 f2 g2
      simp only [↓ld, ↓ld2, go_sem, C.one, bc_one, hb, hb2, ec, eb, er, em, Bool.false_eq_true, if_false, e1, e2, f1, g1, f2, g2, num_run S, hk, beqC_bc, tru_fin]
      try (refine cnd_go (Q := Tru) (by kernel_rfl) ?_; simp only [↓ld, ↓ld2, go_sem, C.one, bc_one, hb, hb2, ec, eb, er, em, Bool.false_eq_true, if_false, e1, e2, f1, g1, f2, g2, num_run S, hk, beqC_bc, tru_fin])
      try (refine cnd_go (Q := Tru) (by kernel_rfl) ?_; simp only [↓ld, ↓ld2, go_sem, C.one, bc_one, hb, hb2, ec, eb, er, em, Bool.false_eq_true, if_false, e1, e2, f1, g1, f2, g2, num_run S, hk, beqC_bc, tru_fin])
      done
  | true =>
    have et : ∀ h', (lim Tryz.prog σ).call 15 [.agg cs] h' = some (.str (ctext c), none) := fun h' => rctext_run S C N hm
    rw [hm] at ec em
    simp only [↓ld, ↓ld2, go_sem, C.one, bc_one, hb, hb2, ec, eb, er, et, if_true]
    refine cnd_go (Q := Tru) (by kernel_rfl) ?_
    rcases x1 with _ | x1 <;> rcases x2 with _ | x2
    all_goals
      simp only [Option.getD_none, Option.getD_some] at e1 e2 f1 g1 f2 g2
      simp only [↓ld, ↓ld2, go_sem, C.one, bc_one, hb, hb2, ec, eb, er, em, et, if_true, e1, e2, f1, g1, f2, g2, num_run S, hk, beqC_bc, tru_fin]
      try (refine cnd_go (Q := Tru) (by kernel_rfl) ?_; simp only [↓ld, ↓ld2, go_sem, C.one, bc_one, hb, hb2, ec, eb, er, em, et, if_true, e1, e2, f1, g1, f2, g2, num_run S, hk, beqC_bc, tru_fin])
      try (refine cnd_go (Q := Tru) (by kernel_rfl) ?_; simp only [↓ld, ↓ld2, go_sem, C.one, bc_one, hb, hb2, ec, eb, er, em, et, if_true, e1, e2, f1, g1, f2, g2, num_run S, hk, beqC_bc, tru_fin])
      done
end Go.Cl.Sh

namespace Go.Cl.Sh
open Go.Cl.Jo
set_option maxRecDepth 1000000
theorem cO_u8 : Tryz.prog.cellsOf 5 = 1 := by kernel_rfl
theorem cO_u64 : Tryz.prog.cellsOf 22 = 1 := by kernel_rfl
theorem cO_int : Tryz.prog.cellsOf 3 = 1 := by kernel_rfl
theorem cO_kind : Tryz.prog.cellsOf 23 = 1 := by kernel_rfl
theorem cO_rk : Tryz.prog.cellsOf 26 = 1 := by kernel_rfl
theorem cO_rt : Tryz.prog.cellsOf 27 = 1 := by kernel_rfl
theorem cO_blk : Tryz.prog.cellsOf 25 = 256 := by kernel_rfl
theorem cO_act : Tryz.prog.cellsOf 29 = 5 := by kernel_rfl
theorem cO_cmd : Tryz.prog.cellsOf 31 = 265 := by kernel_rfl
theorem one_at {ts : List CV} {o : Nat} {x : CV} (h : (ts.drop o).take 1 = [x]) : nth ts o = some x := by
  have := congrArg (fun l => l[0]?) h
  simp only [List.getElem?_take, List.getElem?_drop] at this
  rw [nth_eq]
  simpa using this
theorem block_of {h : H} {cs : List CV} (r : Rd Tryz.prog h 25 cs) : ∃ xs : List Nat, cs = bc xs ∧ xs.length = 256 ∧ ∀ x ∈ xs, x < 256 := by
  obtain ⟨hl, hk⟩ := r.array_inv Tryz.underlying25
  rw [cO_blk] at hl
  simp only [cO_u8] at hk
  obtain ⟨l, hll, hq⟩ := list_of (Q := fun i (m : Nat) => nth cs i = some (.int .u8 (Int.ofNat m)) ∧ m < 256) 256 fun i hi => by
    obtain ⟨m, e, h1, h2⟩ := (hk i hi).int_inv Tryz.underlying5
    have h1 : 0 ≤ m := h1
    have h2 : m ≤ 255 := h2
    have := one_at e
    rw [Nat.mul_one] at this
    exact ⟨m.toNat, by rw [this]; congr 2; simp; omega, by omega⟩
  refine ⟨l, ?_, hll, fun x hx => ?_⟩
  · refine List.ext_getElem? fun i => ?_
    by_cases hi : i < 256
    · obtain ⟨m, hm⟩ : ∃ m, l[i]? = some m := ⟨_, List.getElem?_eq_getElem (by omega)⟩
      have := (hq i m hm).1
      rw [nth_eq] at this
      rw [this, bc, List.getElem?_map, hm]; rfl
    · rw [List.getElem?_eq_none (by omega), List.getElem?_eq_none (by rw [bc_len]; omega)]
  · obtain ⟨i, hi, rfl⟩ := List.getElem_of_mem hx
    exact (hq i _ (List.getElem?_eq_getElem hi)).2
theorem cmd_of {h : H} {cs : List CV} (hone : cs.all CV.one = true) (r : Rd Tryz.prog h 31 cs) : ∃ c : Cm, CmdOk cs c ∧ CmdN c := by
  obtain ⟨hl, hf⟩ := r.struct_inv Tryz.underlying31
  rw [cO_cmd] at hl
  have h0 := hf _ (List.mem_cons_self)
  have h1 := hf _ (List.mem_cons_of_mem _ List.mem_cons_self)
  have h2 := hf _ (List.mem_cons_of_mem _ (List.mem_cons_of_mem _ List.mem_cons_self))
  have h3 := hf _ (List.mem_cons_of_mem _ (List.mem_cons_of_mem _ (List.mem_cons_of_mem _ List.mem_cons_self)))
  have h4 := hf _ (List.mem_cons_of_mem _ (List.mem_cons_of_mem _ (List.mem_cons_of_mem _ (List.mem_cons_of_mem _ List.mem_cons_self))))
  have h5 := hf _ (List.mem_cons_of_mem _ (List.mem_cons_of_mem _ (List.mem_cons_of_mem _ (List.mem_cons_of_mem _ (List.mem_cons_of_mem _ List.mem_cons_self)))))
  simp only [cO_u64, cO_int, cO_kind, cO_blk, cO_act] at h0 h1 h2 h3 h4 h5
  obtain ⟨num, e0, _⟩ := h0.int_inv Tryz.underlying22
  obtain ⟨who, e1, _⟩ := h1.int_inv Tryz.underlying3
  obtain ⟨kind, e2, _⟩ := h2.int_inv Tryz.underlying23
  obtain ⟨block, e3, _⟩ := h3.int_inv Tryz.underlying3
  obtain ⟨data, e4, dl, d8⟩ := block_of h4
  obtain ⟨al, af⟩ := h5.struct_inv Tryz.underlying29
  have k0 := af _ (List.mem_cons_self)
  have k1 := af _ (List.mem_cons_of_mem _ List.mem_cons_self)
  have k2 := af _ (List.mem_cons_of_mem _ (List.mem_cons_of_mem _ List.mem_cons_self))
  have k3 := af _ (List.mem_cons_of_mem _ (List.mem_cons_of_mem _ (List.mem_cons_of_mem _ List.mem_cons_self)))
  have k4 := af _ (List.mem_cons_of_mem _ (List.mem_cons_of_mem _ (List.mem_cons_of_mem _ (List.mem_cons_of_mem _ List.mem_cons_self))))
  simp only [cO_u64, cO_int, cO_rk, cO_rt] at k0 k1 k2 k3 k4
  obtain ⟨ak, f0, _⟩ := k0.int_inv Tryz.underlying26
  obtain ⟨aw, f1, _⟩ := k1.int_inv Tryz.underlying3
  obtain ⟨key, f2, ky0, ky1⟩ := k2.int_inv Tryz.underlying22
  obtain ⟨new, f3, nw0, nw1⟩ := k3.int_inv Tryz.underlying22
  obtain ⟨ty, f4, _⟩ := k4.int_inv Tryz.underlying27
  have ky0 : 0 ≤ key := ky0
  have ky1 : key ≤ 18446744073709551615 := ky1
  have nw0 : 0 ≤ new := nw0
  have nw1 : new ≤ 18446744073709551615 := nw1
  have at5 : ∀ i x, i < 5 → nth ((cs.drop 260).take 5) i = some x → nth cs (260 + i) = some x := fun i x hi hx => by
    rw [nth_eq, List.getElem?_take, if_pos hi, List.getElem?_drop] at hx
    rw [nth_eq]; exact hx
  have n0 := one_at e0
  have a0 := at5 0 _ (by decide) (one_at f0)
  have a1 := at5 1 _ (by decide) (one_at f1)
  have a2 := at5 2 _ (by decide) (one_at f2)
  have a3 := at5 3 _ (by decide) (one_at f3)
  have a4 := at5 4 _ (by decide) (one_at f4)
  refine ⟨⟨num, who, kind, block, data, ak, aw, key, new, ty⟩, ⟨hl, hone, n0, one_at e1, one_at e2, one_at e3, dl, d8, ?_, a0, a1, a2, a3, a4, ?_, ?_⟩, ⟨key.toNat, by simp only [Int.ofNat_eq_natCast]; omega, by omega⟩, ⟨new.toNat, by simp only [Int.ofNat_eq_natCast]; omega, by omega⟩⟩
  · refine loadN_of _ _ _ (by rw [bc_len, dl]) fun i v hv => ?_
    rw [newBlk_get, nth_eq]
    have hi := nlt hv
    rw [bc_len, dl] at hi
    rw [nth_eq, ← e4, List.getElem?_take, if_pos hi, List.getElem?_drop] at hv
    exact hv
  · refine loadN_of _ _ _ rfl fun i v hv => ?_
    rw [newBlk_get]
    have hi := nlt hv
    have hi : i < 5 := hi
    have : i = 0 ∨ i = 1 ∨ i = 2 ∨ i = 3 ∨ i = 4 := by omega
    rcases this with rfl | rfl | rfl | rfl | rfl
    · cases hv; exact a0
    · cases hv; exact a1
    · cases hv; exact a2
    · cases hv; exact a3
    · cases hv; exact a4
  · cases cs with
    | nil => rfl
    | cons x l =>
      have : x = .int .u64 num := by rw [nth_eq] at n0; simpa using n0
      rw [this]; rfl
end Go.Cl.Sh

namespace Go.Cl
noncomputable section
open Go Go.RowKit
variable {W : World}

def tabsT : List (Nat × IntKind × List Int) → T CObj
  | [] => .nil
  | p :: l => (tabsT l).set p.1 (.cells (tabB p.2.1 p.2.2))
/-- the heap with some tables, of so many globals -/
def tabsH (l : List (Nat × IntKind × List Int)) (n : Nat) : H := { t := tabsT l, nx := n, low := n, gn := n }
theorem tabsT_get : ∀ (l : List (Nat × IntKind × List Int)) (id : Nat) (o : CObj), (tabsT l).get id = some o → ∃ p ∈ l, p.1 = id ∧ o = .cells (tabB p.2.1 p.2.2)
  | [], id, o, h => by simp [tabsT, T.get_nil] at h
  | p :: l, id, o, h => by
    simp only [tabsT] at h
    rw [T.get_set] at h
    split at h
    · rename_i e
      cases h
      exact ⟨p, List.mem_cons_self, e.symm, rfl⟩
    · obtain ⟨q, h1, h2⟩ := tabsT_get l id o h
      exact ⟨q, List.mem_cons_of_mem _ h1, h2⟩
def TabIn (W : World) (p : Nat × IntKind × List Int) : Prop := ∃ cs ct fr, W.heap[p.1]? = some (.cells cs ct fr) ∧ p.2.2.length ≤ cs.size ∧ ∀ (i : Nat) (x : Int), p.2.2[i]? = some x → cs[i]? = some (Value.int p.2.1 x)
def tabsV (l : List (Nat × IntKind × List Int)) : Val := ⟨fun i => i, fun _ => 0, fun i => match (tabsT l).get i with | some (.cells b) => b.n | _ => 0, fun _ => ⟨0, 0, none⟩⟩
theorem relT {l : List (Nat × IntKind × List Int)} {n : Nat} (hlt : ∀ p ∈ l, p.1 < n) (hW : ∀ p ∈ l, TabIn W p) :
    ∃ f, Rel f (tabsH l n) W ∧ ∀ id o, (tabsH l n).t.get id = some o → o.ro = true := by
  have hro : ∀ id o, (tabsH l n).t.get id = some o → o.ro = true := fun id o ho => by
    obtain ⟨p, _, _, rfl⟩ := tabsT_get l id o ho
    rfl
  refine ⟨tabsV l, ⟨fun id o ho => ?_, fun id id' o o' _ ho' hr e => e, fun g hg => ⟨hg, rfl, rfl⟩⟩, hro⟩
  have ho' : (tabsT l).get id = some o := ho
  obtain ⟨p, hp, rfl, rfl⟩ := tabsT_get l id o ho
  obtain ⟨cs, ct, fr, h1, h2, h3⟩ := hW p hp
  refine ⟨hlt p hp, _, h1, .cells ⟨.inl rfl, ?_, ?_, fun i hi => ?_⟩ (TyOk.none rfl)⟩
  · show (tabB p.2.1 p.2.2).n ≤ (match (tabsT l).get p.1 with | some (.cells b) => b.n | _ => 0)
    rw [ho']; exact Nat.le_refl _
  · show 0 + (match (tabsT l).get p.1 with | some (.cells b) => b.n | _ => 0) ≤ cs.size
    rw [ho']
    show 0 + p.2.2.length ≤ cs.size
    omega
  · have hi : i < p.2.2.length := hi
    obtain ⟨x, hx⟩ : ∃ x, p.2.2[i]? = some x := ⟨_, List.getElem?_eq_getElem hi⟩
    refine ⟨.int p.2.1 x, ?_, rfl, trivial, ?_⟩
    · unfold tabB
      rw [get_list (by simp), List.getElem?_map, hx]; rfl
    · have := h3 i x hx
      show cs[0 + i]? = _
      rw [Nat.zero_add, this]; rfl
variable {P : Program}
theorem laid_mem {P : Program} : ∀ {l : List (String × DataW Unit)} {ps : List MemPlace}, DataW.LaidVars P W l ps → ∀ {x : String × DataW Unit}, x ∈ l → ∃ ps', DataW.LaidVars P W [x] ps'
  | [], _, _, _, hx => by cases hx
  | (n, d) :: r, ps, h, x, hx => by
    obtain ⟨g, t, cs, fuel, p, q, h1, h2, h3, h4, h5, h6⟩ := h
    rcases List.mem_cons.1 hx with rfl | hx
    · exact ⟨_, g, t, cs, fuel, p, [], h1, h2, h3, h4, rfl, rfl⟩
    · exact laid_mem h5 hx
theorem table_in {n : String} {vals : List Int} {g : Nat} {t e : TypeId} {k : IntKind} {N : Nat} {l : List (String × DataW Unit)} (hL : laidMet P l W) (hm : (n, DataW.agg (vals.map fun x => .lit (.int k x))) ∈ l) (hg : P.globalNamed n = some g) (ht : (P.globals[g]?).map (·.type) = some t)
    (hu : P.underlying t = some (.array N e)) (he : P.underlying e = some (.int k)) (hc : P.cellsOf e = 1) (hN : vals.length = N) : TabIn W (g, k, vals) := by
  obtain ⟨ps0, hL0, _, _⟩ := hL
  obtain ⟨ps, g0, t0, cs, f0, p0, q0, hg0, ht0, hv, hd, _, _⟩ := laid_mem hL0 hm
  obtain rfl := Option.some.inj (hg.symm.trans hg0)
  obtain rfl := Option.some.inj (ht.symm.trans ht0)
  have hh : ∃ ct fr, W.heap[g]? = some (.cells cs ct fr) := by
    simp only [World.var?, hg, Option.bind_some] at hv
    split at hv
    · rename_i cs' ct fr hq
      cases hv
      exact ⟨ct, fr, hq⟩
    · cases hv
  obtain ⟨ct, fr, hh⟩ := hh
  obtain ⟨xs, m, rfl, hx, hlen, hn, hel⟩ := DataW.trod_array hu hd
  simp only [Prod.mk.injEq, DataW.agg.injEq] at hx
  have hx1 := hx.1
  have key : ∀ (i : Nat) (x : Int), vals[i]? = some x → cs[i]? = some (Value.int k x) := by
    intro i x hi
    have hil : i < N := by have := (List.getElem?_eq_some_iff.1 hi).1; omega
    obtain ⟨y, hy⟩ : ∃ y, xs[i]? = some y := ⟨_, List.getElem?_eq_getElem (by omega)⟩
    have h1 := hel i hil
    rw [hy, hc] at h1
    obtain ⟨r, e1, e2, _⟩ := DataW.trod_int he h1
    have h2 : (xs.map (·.1))[i]? = some y.1 := by rw [List.getElem?_map, hy]; rfl
    rw [← hx1, List.getElem?_map, hi] at h2
    have h3 : r = x := by
      have : DataW.lit (.int k x) = y.1 := Option.some.inj h2
      rw [e2] at this
      simpa using this.symm
    have h4 : (cs.toList.drop (i * 1)).take 1 = [Value.int k r] := by simpa using e1
    have h5 : cs.toList[i]? = some (Value.int k r) := by
      have : ((cs.toList.drop (i * 1)).take 1)[0]? = some (Value.int k r) := by rw [h4]; rfl
      rw [List.getElem?_take, if_pos (by decide), List.getElem?_drop, Nat.mul_one, Nat.add_zero] at this
      exact this
    rw [← h3, ← Array.getElem?_toList]; exact h5
  refine ⟨cs, ct, fr, hh, (show vals.length ≤ cs.size from ?_), key⟩
  rcases Nat.eq_zero_or_pos N with h0 | h0
  · omega
  · obtain ⟨x, hx⟩ : ∃ x, vals[N - 1]? = some x := ⟨_, List.getElem?_eq_getElem (by omega)⟩
    have := key _ _ hx
    have := (Array.getElem?_eq_some_iff.1 this).1
    omega
end
end Go.Cl

namespace Go.Cl.Sh
noncomputable section
open Go.Cl.Jo
open Go.RowKit
set_option maxRecDepth 1000000
theorem tell_okS {P : Program} {σ : Sums} {k : Nat} {g : FuncId} {v : CV} (hσ : SumOk P σ) (hP : plainB P = true) (hm : P.follows .mixedOrders = true) (e : (callK P σ k g [] (h0 0)).map Prod.fst = some v) (ov : okB 0 v = true) : SumOk P (tell g v) := by
  intro f a h w x ht
  unfold tell at ht
  cases hc : (Nat.beq f g && a.isEmpty) with
  | false => rw [hc] at ht; cases ht
  | true =>
    rw [hc] at ht
    simp only [cond_true, Option.some.injEq, Prod.mk.injEq] at ht
    obtain ⟨rfl, rfl⟩ := ht
    simp only [Bool.and_eq_true] at hc
    have := Nat.eq_of_beq_eq_true hc.1
    subst this
    have ha : a = [] := by simpa using hc.2
    subst ha
    rw [callK_eq] at e
    cases hq : callC P σ k f [] (h0 0) with
    | none => rw [hq] at e; cases e
    | some p =>
      rw [hq] at e
      obtain ⟨v', x'⟩ := p
      simp only [Option.map_some, Option.some.injEq] at e
      subst e
      obtain ⟨h1, h2⟩ := (all_sound hσ (plain_of hP) hm k).2.2.1 f [] (h0 0) v' x' hq
      refine ⟨h1, fun fv w rel _ => ?_⟩
      refine CallsIn.mono (h2 val0 w (rel0 w) (by simp [okL])) fun e' w' hp => ?_
      obtain ⟨f', rfl, st, _, _⟩ := hp
      have o0 := ok_of_okB _ ov
      have hk : Keeps w w' := ⟨st.os, st.tape, st.output, st.size, fun j hj => st.frame j hj fun id o ho => by
        rw [show (h0 0).t = T.nil from rfl, T.get_nil] at ho; cases ho⟩
      refine ⟨fv, ?_, Step.keeps rel hk, ok_mono (Nat.zero_le _) _ o0, fun _ => rfl⟩
      rw [ren_congr (f := f') (g := fv) (n := 0) (fun i hi => by omega) v' o0]
def sigP : Sums := bothS lenS (bothS smallS (bothS fmtS (bothS (joinS 51) (tell 14 (.bool true)))))
set_option maxHeartbeats 0 in
theorem knownG : (callK Tryz.prog (joinS 51) 100000 14 [] (h0 0)).map Prod.fst = some (.bool true) := by rw [← k_callK_eq]; kernel_rfl
theorem sigP_ok : SumOk Tryz.prog sigP := both_ok len_ok (both_ok small_ok (both_ok fmt_ok (both_ok join_ok' (tell_okS join_ok' (by kernel_rfl) (by kernel_rfl) knownG rfl))))
theorem lenS_no {f a h} (e : Nat.beq f 136 = false) : lenS f a h = none := by unfold lenS; rw [e]; rfl
theorem smallS_no {f a h} (e : Nat.beq f 120 = false) : smallS f a h = none := by unfold smallS; rw [e]; rfl
theorem fmtS_no {f a h} (e : Nat.beq f 122 = false) : fmtS f a h = none := by unfold fmtS; rw [e]; rfl
theorem joinS_no {f a h} (e : Nat.beq f 51 = false) : joinS 51 f a h = none := by unfold joinS; rw [e]; rfl
theorem bothS_l {a b : Sums} {f x h r} (e : a f x h = some r) : bothS a b f x h = some r := by unfold bothS; rw [e]
theorem bothS_r {a b : Sums} {f x h} (e : a f x h = none) : bothS a b f x h = b f x h := by unfold bothS; rw [e]
theorem sigP_tg : Tg sigP where
  no := fun f a h t => by
    unfold toldG at t
    simp only [Bool.or_eq_false_iff] at t
    obtain ⟨⟨⟨⟨⟨⟨⟨t1, t2⟩, t3⟩, t4⟩, t5⟩, _⟩, _⟩, _⟩ := t
    unfold sigP
    rw [bothS_r (lenS_no t3), bothS_r (smallS_no t4), bothS_r (fmtS_no t5), bothS_r (joinS_no t2)]
    unfold tell; rw [t1]; rfl
  len := fun h n hn => by
    refine bothS_l ?_
    unfold lenS
    show cond (decide (0 ≤ Int.ofNat n) && decide (Int.ofNat n ≤ 18446744073709551615)) _ _ = _
    rw [decide_eq_true (by simp), decide_eq_true (by simp only [Int.ofNat_eq_natCast]; omega)]
    rfl
  small := fun h n hn => by
    unfold sigP
    rw [bothS_r (lenS_no rfl)]
    refine bothS_l ?_
    unfold smallS
    show cond (decide (0 ≤ Int.ofNat n) && decide (Int.ofNat n < 100)) _ _ = _
    rw [decide_eq_true (by simp), decide_eq_true (by simp only [Int.ofNat_eq_natCast]; omega)]
    rfl
  fmt := fun h id off len cap n b vs bs b' h1 h2 h3 h4 h5 h6 h7 h8 => by
    unfold sigP
    rw [bothS_r (lenS_no rfl), bothS_r (smallS_no rfl)]
    refine bothS_l ?_
    unfold fmtS
    show cond (decide (0 ≤ Int.ofNat n) && decide (Int.ofNat n ≤ 18446744073709551615) && Nat.blt n (10 ^ len) && Nat.blt len 1000000) ((h.blk id).bind fun b => cond b.ro none ((b.loadN off len).bind fun vs => (bytesOf vs).bind fun _ => (b.storeN off (u8s (digs len n))).map fun b' => (CV.tup [], some (h.put id (.cells b'))))) none = _
    rw [decide_eq_true (by simp), decide_eq_true (by simp only [Int.ofNat_eq_natCast]; omega), blt_eq', decide_eq_true h5, blt_eq', decide_eq_true h6, h1, Option.bind_some, h2, h3, Option.bind_some, h4, Option.bind_some, h8]
    rfl
  join := fun h v sep xs h1 h2 h3 => by
    unfold sigP
    rw [bothS_r (lenS_no rfl), bothS_r (smallS_no rfl), bothS_r (fmtS_no rfl)]
    refine bothS_l ?_
    unfold joinS
    show (cellsJ h v).bind (fun xs => cond (Nat.ble (joinL sep xs).length 1000000 && Nat.ble xs.length 1000000) (some (CV.str (joinL sep xs), none)) none) = _
    rw [h1, Option.bind_some, ble_eq', decide_eq_true h2, ble_eq', decide_eq_true h3]
    rfl
theorem sigP_known (h : H) : (lim Tryz.prog sigP).call 14 [] h = some (.bool true, none) := by
  refine told_call ?_
  unfold sigP
  rw [bothS_r (lenS_no rfl), bothS_r (smallS_no rfl), bothS_r (fmtS_no rfl), bothS_r (joinS_no rfl)]
  rfl
def tabsP : List (Nat × IntKind × List Int) := [(0, .u64, [1, 10, 100, 1000, 10000, 100000, 1000000, 10000000, 100000000, 1000000000, 10000000000, 100000000000, 1000000000000, 10000000000000, 100000000000000, 1000000000000000, 10000000000000000, 100000000000000000, 1000000000000000000, 10000000000000000000])]
theorem tb0 : Tb (tabsH tabsP 6) := by
  refine ⟨by show 0 < 6; decide, by show 0 < 6; decide, tabB .u64 [1, 10, 100, 1000, 10000, 100000, 1000000, 10000000, 100000000, 1000000000, 10000000000, 100000000000, 1000000000000, 10000000000000, 100000000000000, 1000000000000000, 10000000000000000, 100000000000000000, 1000000000000000000, 10000000000000000000], rfl, fun i hi => ?_⟩
  have key : ∀ j : Fin 20, ([1, 10, 100, 1000, 10000, 100000, 1000000, 10000000, 100000000, 1000000000, 10000000000, 100000000000, 1000000000000, 10000000000000, 100000000000000, 1000000000000000, 10000000000000000, 100000000000000000, 1000000000000000000, 10000000000000000000] : List Int)[j.val]? = some (Int.ofNat (10 ^ j.val)) := by decide +kernel
  unfold tabB
  rw [get_list (by simp), List.getElem?_map, key ⟨i, hi⟩]
  rfl
theorem partsP {h : H} {c0 c1 c2 : CV} (HT : Tb h) (B0 : Arg Tryz.prog h 31 c0) (B1 : Arg Tryz.prog h 25 c1) (B2 : Arg Tryz.prog h 3 c2) : Tru ((lim Tryz.prog sigP).call 3 [c0, c1, c2] h) := by
  have i1 : c2.one = true := by rcases B2.one with ⟨_, h⟩ | ⟨_, _, h⟩ | h; rw [Tryz.underlying3] at h; cases h; rw [Tryz.underlying3] at h; cases h; exact h
  have r := B2.rd
  rw [cells_one i1] at r
  obtain ⟨n, e, _⟩ := r.int_inv Tryz.underlying3
  simp at e
  subst e
  have l0 := (B0.rd.struct_inv Tryz.underlying31).1
  rw [cO_cmd] at l0
  obtain ⟨cs, rfl⟩ := agg_of (c := c0) (by omega)
  have l1 := (B1.rd.array_inv Tryz.underlying25).1
  rw [cO_blk] at l1
  obtain ⟨bs, rfl⟩ := agg_of (c := c1) (by omega)
  obtain ⟨xs, e1, hl, h8⟩ := block_of (by simpa only [cells_agg] using B1.rd)
  obtain ⟨c, C, N⟩ := cmd_of (by simpa only [cells_agg] using B0.all) (by simpa only [cells_agg] using B0.rd)
  rw [e1]
  exact parts_run sigP_tg sigP_known HT C N hl h8 n
end
end Go.Cl.Sh
