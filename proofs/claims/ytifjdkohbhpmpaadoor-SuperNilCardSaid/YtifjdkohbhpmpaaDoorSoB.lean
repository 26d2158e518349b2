/- The program's functions, run by the rewriting evaluator: what each answers and leaves (SoB). -/
import Derived.Test.YtifjdkohbhpmpaaDoorSoA
set_option linter.all false
open Go Go.Cl Go.Proofs
namespace Go.Cl.Sh
open Go.RowKit

def memoGet : List (FuncId × List CV × CV) → FuncId → List CV → Option CV
  | [], _, _ => none
  | e :: l, f, a => cond (Nat.beq f e.1) (cond (beqCL a e.2.1) (some e.2.2) (memoGet l f a)) (memoGet l f a)
def memoS (L : List (FuncId × List CV × CV)) : Sums := fun f args h => match memoGet L f args with
  | some v => cond (hgB h) (some (v, none)) none
  | none => none
def okE (P : Program) (σ : Sums) (k : Nat) (e : FuncId × List CV × CV) : Bool :=
  (match callK P σ k e.1 e.2.1 (tabH .u32 startV) with
   | some (v, _) => beqC v e.2.2
   | none => false) && okBL 0 e.2.1 && okB 0 e.2.2
def MOk (P : Program) (σ : Sums) (k : Nat) : List (FuncId × List CV × CV) → Prop
  | [] => True
  | e :: l => okE P σ k e = true ∧ MOk P σ k l
theorem memo_mem {P : Program} {σ : Sums} {k : Nat} : ∀ {L : List (FuncId × List CV × CV)} {f : FuncId} {a : List CV} {v : CV}, MOk P σ k L → memoGet L f a = some v → ∃ e, e.1 = f ∧ e.2.1 = a ∧ e.2.2 = v ∧ okE P σ k e = true
  | [], _, _, _, _, h => by cases h
  | e :: l, f, a, v, m, h => by
    simp only [memoGet] at h
    cases h1 : Nat.beq f e.1 with
    | false => rw [h1] at h; exact memo_mem m.2 h
    | true =>
      rw [h1, cond_true] at h
      cases h2 : beqCL a e.2.1 with
      | false => rw [h2] at h; exact memo_mem m.2 h
      | true =>
        rw [h2, cond_true] at h
        cases h
        exact ⟨e, (Nat.eq_of_beq_eq_true h1).symm, (beqCL_eq _ _ h2).symm, rfl, m.1⟩
theorem tab_rel {h : H} {f : Val} {w : World} (e : hgB h = true) (r : Rel f h w) : ∃ f0, Rel f0 (tabH .u32 startV) w ∧ ∀ id o, (tabH .u32 startV).t.get id = some o → o.ro = true := by
  unfold hgB at e
  simp only [Bool.and_eq_true] at e
  obtain ⟨⟨e1, e2⟩, e3⟩ := e
  cases hb : h.blk 0 with
  | none => rw [hb] at e3; cases e3
  | some b =>
    rw [hb] at e3
    simp only at e3
    cases hl : b.loadN 0 8 with
    | none => rw [hl] at e3; cases e3
    | some l =>
      rw [hl] at e3
      have hl2 := beqCL_eq _ _ e3
      subst hl2
      obtain ⟨_, hz, hzb⟩ := r.glob 0 (Nat.blt_eq.mp e1)
      obtain ⟨_, cs, t, fr, hw, B⟩ := r.blk hb
      rw [hz] at hw
      obtain ⟨_, hg⟩ := loadN_spec hl
      have key : ∀ (i : Nat) (x : Int), startV[i]? = some x → cs[i]? = some (Value.int .u32 x) := fun i x hi => by
        have hi8 : i < 8 := (List.getElem?_eq_some_iff.1 hi).1
        have h1 := hg i hi8
        rw [Nat.zero_add, List.getElem?_map, hi] at h1
        have hlt := Blk.get_lt h1
        obtain ⟨v, q1, _, _, q4⟩ := B.cell i hlt
        rw [h1] at q1
        cases q1
        rw [hzb, Nat.zero_add] at q4
        rw [q4]; simp [ren]
      have hsz : startV.length ≤ cs.size := by
        have := key 7 1541459225 rfl
        have := (Array.getElem?_eq_some_iff.1 this).1
        show 8 ≤ cs.size
        omega
      obtain ⟨f0, r0, a0, _⟩ := rel1 (k := .u32) (vals := startV) hw hsz key
      exact ⟨f0, r0, a0⟩
theorem memo_ok {P : Program} {σ : Sums} {k : Nat} {L : List (FuncId × List CV × CV)} (hP : plainB P = true) (hm : P.follows .mixedOrders = true) (hσ : SumOk P σ) (hL : MOk P σ k L) : SumOk P (memoS L) := by
  intro g args h v x e
  unfold memoS at e
  cases hq : memoGet L g args with
  | none => rw [hq] at e; cases e
  | some v0 =>
    rw [hq] at e
    simp only at e
    cases hg : hgB h with
    | false => rw [hg] at e; cases e
    | true =>
      rw [hg, cond_true] at e
      cases e
      obtain ⟨en, rfl, rfl, rfl, hok⟩ := memo_mem hL hq
      unfold okE at hok
      simp only [Bool.and_eq_true] at hok
      obtain ⟨⟨h1, h2⟩, h3⟩ := hok
      cases hc : callK P σ k en.1 en.2.1 (tabH .u32 startV) with
      | none => rw [hc] at h1; cases h1
      | some p =>
        obtain ⟨v1, x1⟩ := p
        rw [hc] at h1
        have := beqC_eq _ _ h1
        subst this
        rw [callK_eq] at hc
        obtain ⟨a1, a2⟩ := (all_sound hσ (plain_of hP) hm k).2.2.1 _ _ _ _ _ hc
        refine ⟨a1, fun f w r oa => ?_⟩
        obtain ⟨f0, r0, hro⟩ := tab_rel hg r
        have o0 := okL_of_okB _ h2
        have hr : renL f0 en.2.1 = renL f en.2.1 := renL_congr (n := 0) (fun i hi => absurd hi (Nat.not_lt_zero i)) _ o0
        have c := a2 f0 w r0 (okL_mono (Nat.zero_le _) _ o0)
        rw [hr] at c
        refine CallsIn.mono c fun e' w' hp => ?_
        obtain ⟨f', rfl, st, _, _⟩ := hp
        have ov := ok_of_okB _ h3
        have hk : Keeps w w' := ⟨st.os, st.tape, st.output, st.size, fun j hj => st.frame j hj fun id o ho hr' => by
          rw [hro id o ho] at hr'; cases hr'⟩
        refine ⟨f, ?_, Step.keeps r hk, ok_mono (Nat.zero_le _) _ ov, fun _ => rfl⟩
        rw [ren_congr (f := f') (g := f) (n := 0) (fun i hi => absurd hi (Nat.not_lt_zero i)) _ ov]
end Go.Cl.Sh

namespace Go.Cl.Sh
set_option maxRecDepth 1000000

theorem sn_plain : plainB Tryd.prog = true := by kernel_rfl
theorem sn_mixed : Tryd.prog.follows .mixedOrders = true := by kernel_rfl
def sn_blk0 : FuncId × List CV × CV := (30, [.agg [.int .i64 0, .bool false, .int .u64 0, .int .u64 0, .int .u64 0, .int .u64 0, .int .u64 0]], .tup [.agg (bcF [0, 0, 0, 0, 0, 0, 0, 0, 0, 0, 0, 0, 0, 0, 0, 0, 0, 0, 0, 0, 0, 0, 0, 0, 0, 0, 0, 0, 0, 0, 0, 0, 0, 0, 0, 0, 0, 0, 0, 0, 0, 0, 0, 0, 0, 0, 0, 0, 0, 0, 0, 0, 0, 0, 0, 0, 0, 0, 0, 0, 0, 0, 0, 0, 0, 0, 0, 0, 0, 0, 0, 0, 0, 0, 0, 0, 0, 0, 0, 0, 0, 0, 0, 0, 0, 0, 0, 0, 0, 0, 0, 0, 0, 0, 0, 0, 0, 0, 0, 0, 0, 0, 0, 0, 0, 0, 0, 0, 0, 0, 0, 0, 0, 0, 0, 0, 0, 0, 0, 0, 0, 0, 0, 0, 0, 0, 0, 0, 0, 0, 0, 0, 0, 0, 0, 0, 0, 0, 0, 0, 0, 0, 0, 0, 0, 0, 0, 0, 0, 0, 0, 0, 0, 0, 0, 0, 0, 0, 0, 0, 0, 0, 0, 0, 0, 0, 0, 0, 0, 0, 0, 0, 0, 0, 0, 0, 0, 0, 0, 0, 0, 0, 0, 0, 0, 0, 0, 0, 0, 0, 0, 0, 0, 0, 0, 0, 0, 0, 0, 0, 0, 0, 0, 0, 0, 0, 0, 0, 0, 0, 0, 0, 0, 0, 0, 0, 0, 0, 0, 0, 0, 0, 0, 0, 0, 0, 0, 0, 0, 0, 0, 0, 0, 0, 0, 0, 0, 0, 0, 0, 0, 0, 0, 0, 0, 0, 0, 0, 0, 0, 0, 0, 0, 0, 0, 0]), .int .i64 2])
theorem sn_blk0_ok : okE Tryd.prog (shaS) 100000 sn_blk0 = true := by kernel_rfl
def sn_blk1 : FuncId × List CV × CV := (30, [.agg [.int .i64 1, .bool false, .int .u64 1, .int .u64 0, .int .u64 0, .int .u64 0, .int .u64 1]], .tup [.agg (bcF [0, 0, 0, 0, 0, 0, 0, 0, 0, 0, 0, 0, 0, 0, 0, 0, 0, 0, 0, 0, 0, 0, 0, 0, 0, 0, 0, 0, 0, 0, 0, 0, 0, 0, 0, 0, 0, 0, 0, 0, 0, 0, 0, 0, 0, 0, 0, 0, 0, 0, 0, 0, 0, 0, 0, 0, 0, 0, 0, 0, 0, 0, 0, 0, 0, 0, 0, 0, 0, 0, 0, 0, 0, 0, 0, 0, 0, 0, 0, 0, 0, 0, 0, 0, 0, 0, 0, 0, 0, 0, 0, 0, 0, 0, 0, 0, 0, 0, 0, 0, 0, 0, 0, 0, 0, 0, 0, 0, 0, 0, 0, 0, 0, 0, 0, 0, 0, 0, 0, 0, 0, 0, 0, 0, 0, 0, 0, 0, 0, 0, 0, 0, 0, 0, 0, 0, 0, 0, 0, 0, 0, 0, 0, 0, 0, 0, 0, 0, 0, 0, 0, 0, 0, 0, 0, 0, 0, 0, 0, 0, 0, 0, 0, 0, 0, 0, 0, 0, 0, 0, 0, 0, 0, 0, 0, 0, 0, 0, 0, 0, 0, 0, 0, 0, 0, 0, 0, 0, 0, 0, 0, 0, 0, 0, 0, 0, 0, 0, 0, 0, 0, 0, 0, 0, 0, 0, 0, 0, 0, 0, 0, 0, 0, 0, 0, 0, 0, 0, 0, 0, 0, 0, 0, 0, 0, 0, 0, 0, 0, 0, 0, 0, 0, 0, 0, 0, 0, 0, 0, 0, 0, 0, 0, 0, 0, 0, 0, 0, 0, 0, 0, 0, 0, 0, 0, 0]), .int .i64 2])
theorem sn_blk1_ok : okE Tryd.prog (shaS) 100000 sn_blk1 = true := by kernel_rfl
def sn_blk2 : FuncId × List CV × CV := (30, [.agg [.int .i64 2, .bool true, .int .u64 9, .int .u64 7, .int .u64 0, .int .u64 0, .int .u64 2]], .tup [.agg (bcF [71, 69, 77, 76, 2, 1, 0, 0, 0, 0, 0, 0, 0, 2, 0, 0, 0, 0, 0, 0, 0, 9, 0, 0, 0, 0, 0, 0, 0, 7, 0, 0, 0, 0, 0, 0, 0, 0, 0, 0, 0, 0, 0, 0, 0, 0, 0, 0, 0, 0, 0, 0, 0, 0, 0, 0, 0, 0, 0, 0, 0, 0, 0, 0, 0, 0, 0, 0, 0, 0, 0, 0, 0, 0, 0, 0, 0, 0, 0, 0, 0, 0, 0, 0, 0, 0, 0, 0, 0, 0, 0, 0, 0, 0, 0, 0, 0, 0, 0, 0, 0, 0, 0, 0, 0, 0, 0, 0, 0, 0, 0, 0, 0, 0, 0, 0, 0, 0, 0, 0, 0, 0, 0, 0, 0, 0, 0, 0, 0, 0, 0, 0, 0, 0, 0, 0, 0, 0, 0, 0, 0, 0, 0, 0, 0, 0, 0, 0, 0, 0, 0, 0, 0, 0, 0, 0, 0, 0, 0, 0, 0, 0, 0, 0, 0, 0, 0, 0, 0, 0, 0, 0, 0, 0, 0, 0, 0, 0, 0, 0, 0, 0, 0, 0, 0, 0, 0, 0, 0, 0, 0, 0, 0, 0, 0, 0, 0, 0, 0, 0, 0, 0, 0, 0, 0, 0, 0, 0, 0, 0, 0, 0, 0, 0, 0, 0, 0, 0, 0, 0, 0, 0, 0, 0, 0, 0, 0, 0, 0, 0, 0, 0, 0, 0, 0, 0, 0, 0, 0, 0, 0, 0, 0, 0, 0, 0, 0, 0, 190, 67, 98, 153, 135, 52, 215, 78]), .int .i64 0])
theorem sn_blk2_ok : okE Tryd.prog (shaS) 100000 sn_blk2 = true := by kernel_rfl
def sn_blk3 : FuncId × List CV × CV := (30, [.agg [.int .i64 4, .bool false, .int .u64 1, .int .u64 0, .int .u64 0, .int .u64 0, .int .u64 1]], .tup [.agg (bcF [71, 69, 77, 76, 4, 0, 0, 0, 0, 0, 0, 0, 0, 1, 0, 0, 0, 0, 0, 0, 0, 1, 0, 0, 0, 0, 0, 0, 0, 0, 0, 0, 0, 0, 0, 0, 0, 0, 0, 0, 0, 0, 0, 0, 0, 0, 0, 0, 0, 0, 0, 0, 0, 0, 0, 0, 0, 0, 0, 0, 0, 0, 0, 0, 0, 0, 0, 0, 0, 0, 0, 0, 0, 0, 0, 0, 0, 0, 0, 0, 0, 0, 0, 0, 0, 0, 0, 0, 0, 0, 0, 0, 0, 0, 0, 0, 0, 0, 0, 0, 0, 0, 0, 0, 0, 0, 0, 0, 0, 0, 0, 0, 0, 0, 0, 0, 0, 0, 0, 0, 0, 0, 0, 0, 0, 0, 0, 0, 0, 0, 0, 0, 0, 0, 0, 0, 0, 0, 0, 0, 0, 0, 0, 0, 0, 0, 0, 0, 0, 0, 0, 0, 0, 0, 0, 0, 0, 0, 0, 0, 0, 0, 0, 0, 0, 0, 0, 0, 0, 0, 0, 0, 0, 0, 0, 0, 0, 0, 0, 0, 0, 0, 0, 0, 0, 0, 0, 0, 0, 0, 0, 0, 0, 0, 0, 0, 0, 0, 0, 0, 0, 0, 0, 0, 0, 0, 0, 0, 0, 0, 0, 0, 0, 0, 0, 0, 0, 0, 0, 0, 0, 0, 0, 0, 0, 0, 0, 0, 0, 0, 0, 0, 0, 0, 0, 0, 0, 0, 0, 0, 0, 0, 0, 0, 0, 0, 0, 0, 230, 20, 67, 181, 59, 248, 47, 101]), .int .i64 0])
theorem sn_blk3_ok : okE Tryd.prog (shaS) 100000 sn_blk3 = true := by kernel_rfl
def sn_blk4 : FuncId × List CV × CV := (30, [.agg [.int .i64 4, .bool false, .int .u64 1, .int .u64 1, .int .u64 0, .int .u64 0, .int .u64 1]], .tup [.agg (bcF [0, 0, 0, 0, 0, 0, 0, 0, 0, 0, 0, 0, 0, 0, 0, 0, 0, 0, 0, 0, 0, 0, 0, 0, 0, 0, 0, 0, 0, 0, 0, 0, 0, 0, 0, 0, 0, 0, 0, 0, 0, 0, 0, 0, 0, 0, 0, 0, 0, 0, 0, 0, 0, 0, 0, 0, 0, 0, 0, 0, 0, 0, 0, 0, 0, 0, 0, 0, 0, 0, 0, 0, 0, 0, 0, 0, 0, 0, 0, 0, 0, 0, 0, 0, 0, 0, 0, 0, 0, 0, 0, 0, 0, 0, 0, 0, 0, 0, 0, 0, 0, 0, 0, 0, 0, 0, 0, 0, 0, 0, 0, 0, 0, 0, 0, 0, 0, 0, 0, 0, 0, 0, 0, 0, 0, 0, 0, 0, 0, 0, 0, 0, 0, 0, 0, 0, 0, 0, 0, 0, 0, 0, 0, 0, 0, 0, 0, 0, 0, 0, 0, 0, 0, 0, 0, 0, 0, 0, 0, 0, 0, 0, 0, 0, 0, 0, 0, 0, 0, 0, 0, 0, 0, 0, 0, 0, 0, 0, 0, 0, 0, 0, 0, 0, 0, 0, 0, 0, 0, 0, 0, 0, 0, 0, 0, 0, 0, 0, 0, 0, 0, 0, 0, 0, 0, 0, 0, 0, 0, 0, 0, 0, 0, 0, 0, 0, 0, 0, 0, 0, 0, 0, 0, 0, 0, 0, 0, 0, 0, 0, 0, 0, 0, 0, 0, 0, 0, 0, 0, 0, 0, 0, 0, 0, 0, 0, 0, 0, 0, 0, 0, 0, 0, 0, 0, 0]), .int .i64 2])
theorem sn_blk4_ok : okE Tryd.prog (shaS) 100000 sn_blk4 = true := by kernel_rfl
def sn_blk5 : FuncId × List CV × CV := (30, [.agg [.int .i64 4, .bool false, .int .u64 7, .int .u64 0, .int .u64 0, .int .u64 0, .int .u64 1]], .tup [.agg (bcF [71, 69, 77, 76, 4, 0, 0, 0, 0, 0, 0, 0, 0, 1, 0, 0, 0, 0, 0, 0, 0, 7, 0, 0, 0, 0, 0, 0, 0, 0, 0, 0, 0, 0, 0, 0, 0, 0, 0, 0, 0, 0, 0, 0, 0, 0, 0, 0, 0, 0, 0, 0, 0, 0, 0, 0, 0, 0, 0, 0, 0, 0, 0, 0, 0, 0, 0, 0, 0, 0, 0, 0, 0, 0, 0, 0, 0, 0, 0, 0, 0, 0, 0, 0, 0, 0, 0, 0, 0, 0, 0, 0, 0, 0, 0, 0, 0, 0, 0, 0, 0, 0, 0, 0, 0, 0, 0, 0, 0, 0, 0, 0, 0, 0, 0, 0, 0, 0, 0, 0, 0, 0, 0, 0, 0, 0, 0, 0, 0, 0, 0, 0, 0, 0, 0, 0, 0, 0, 0, 0, 0, 0, 0, 0, 0, 0, 0, 0, 0, 0, 0, 0, 0, 0, 0, 0, 0, 0, 0, 0, 0, 0, 0, 0, 0, 0, 0, 0, 0, 0, 0, 0, 0, 0, 0, 0, 0, 0, 0, 0, 0, 0, 0, 0, 0, 0, 0, 0, 0, 0, 0, 0, 0, 0, 0, 0, 0, 0, 0, 0, 0, 0, 0, 0, 0, 0, 0, 0, 0, 0, 0, 0, 0, 0, 0, 0, 0, 0, 0, 0, 0, 0, 0, 0, 0, 0, 0, 0, 0, 0, 0, 0, 0, 0, 0, 0, 0, 0, 0, 0, 0, 0, 0, 0, 0, 0, 0, 0, 116, 22, 45, 20, 101, 55, 171, 32]), .int .i64 0])
theorem sn_blk5_ok : okE Tryd.prog (shaS) 100000 sn_blk5 = true := by kernel_rfl
def sn_blk : List (FuncId × List CV × CV) := [sn_blk0, sn_blk1, sn_blk2, sn_blk3, sn_blk4, sn_blk5]
theorem sn_blk_all : MOk Tryd.prog (shaS) 100000 sn_blk := ⟨sn_blk0_ok, sn_blk1_ok, sn_blk2_ok, sn_blk3_ok, sn_blk4_ok, sn_blk5_ok, trivial⟩
theorem sn_blk_sum : SumOk Tryd.prog (bothS (memoS sn_blk) (shaS)) := both_ok (memo_ok sn_plain sn_mixed (shaS_ok sn_plain sn_mixed) sn_blk_all) (shaS_ok sn_plain sn_mixed)
def sn_of0 : FuncId × List CV × CV := (52, [.agg (bcF [0, 0, 0, 0, 0, 0, 0, 0, 0, 0, 0, 0, 0, 0, 0, 0, 0, 0, 0, 0, 0, 0, 0, 0, 0, 0, 0, 0, 0, 0, 0, 0, 0, 0, 0, 0, 0, 0, 0, 0, 0, 0, 0, 0, 0, 0, 0, 0, 0, 0, 0, 0, 0, 0, 0, 0, 0, 0, 0, 0, 0, 0, 0, 0, 0, 0, 0, 0, 0, 0, 0, 0, 0, 0, 0, 0, 0, 0, 0, 0, 0, 0, 0, 0, 0, 0, 0, 0, 0, 0, 0, 0, 0, 0, 0, 0, 0, 0, 0, 0, 0, 0, 0, 0, 0, 0, 0, 0, 0, 0, 0, 0, 0, 0, 0, 0, 0, 0, 0, 0, 0, 0, 0, 0, 0, 0, 0, 0, 0, 0, 0, 0, 0, 0, 0, 0, 0, 0, 0, 0, 0, 0, 0, 0, 0, 0, 0, 0, 0, 0, 0, 0, 0, 0, 0, 0, 0, 0, 0, 0, 0, 0, 0, 0, 0, 0, 0, 0, 0, 0, 0, 0, 0, 0, 0, 0, 0, 0, 0, 0, 0, 0, 0, 0, 0, 0, 0, 0, 0, 0, 0, 0, 0, 0, 0, 0, 0, 0, 0, 0, 0, 0, 0, 0, 0, 0, 0, 0, 0, 0, 0, 0, 0, 0, 0, 0, 0, 0, 0, 0, 0, 0, 0, 0, 0, 0, 0, 0, 0, 0, 0, 0, 0, 0, 0, 0, 0, 0, 0, 0, 0, 0, 0, 0, 0, 0, 0, 0, 0, 0, 0, 0, 0, 0, 0, 0])], .tup [.agg [.int .i64 0, .bool false, .int .u64 0, .int .u64 0, .int .u64 0, .int .u64 0, .int .u64 0], .int .i64 4])
theorem sn_of0_ok : okE Tryd.prog (bothS (memoS sn_blk) (shaS)) 100000 sn_of0 = true := by kernel_rfl
def sn_of1 : FuncId × List CV × CV := (52, [.agg (bcF [71, 69, 77, 76, 2, 1, 0, 0, 0, 0, 0, 0, 0, 2, 0, 0, 0, 0, 0, 0, 0, 9, 0, 0, 0, 0, 0, 0, 0, 7, 0, 0, 0, 0, 0, 0, 0, 0, 0, 0, 0, 0, 0, 0, 0, 0, 0, 0, 0, 0, 0, 0, 0, 0, 0, 0, 0, 0, 0, 0, 0, 0, 0, 0, 0, 0, 0, 0, 0, 0, 0, 0, 0, 0, 0, 0, 0, 0, 0, 0, 0, 0, 0, 0, 0, 0, 0, 0, 0, 0, 0, 0, 0, 0, 0, 0, 0, 0, 0, 0, 0, 0, 0, 0, 0, 0, 0, 0, 0, 0, 0, 0, 0, 0, 0, 0, 0, 0, 0, 0, 0, 0, 0, 0, 0, 0, 0, 0, 0, 0, 0, 0, 0, 0, 0, 0, 0, 0, 0, 0, 0, 0, 0, 0, 0, 0, 0, 0, 0, 0, 0, 0, 0, 0, 0, 0, 0, 0, 0, 0, 0, 0, 0, 0, 0, 0, 0, 0, 0, 0, 0, 0, 0, 0, 0, 0, 0, 0, 0, 0, 0, 0, 0, 0, 0, 0, 0, 0, 0, 0, 0, 0, 0, 0, 0, 0, 0, 0, 0, 0, 0, 0, 0, 0, 0, 0, 0, 0, 0, 0, 0, 0, 0, 0, 0, 0, 0, 0, 0, 0, 0, 0, 0, 0, 0, 0, 0, 0, 0, 0, 0, 0, 0, 0, 0, 0, 0, 0, 0, 0, 0, 0, 0, 0, 0, 0, 0, 0, 190, 67, 98, 153, 135, 52, 215, 78])], .tup [.agg [.int .i64 2, .bool true, .int .u64 9, .int .u64 7, .int .u64 0, .int .u64 0, .int .u64 2], .int .i64 0])
theorem sn_of1_ok : okE Tryd.prog (bothS (memoS sn_blk) (shaS)) 100000 sn_of1 = true := by kernel_rfl
def sn_of2 : FuncId × List CV × CV := (52, [.agg (bcF [71, 69, 77, 76, 4, 0, 0, 0, 0, 0, 0, 0, 0, 1, 0, 0, 0, 0, 0, 0, 0, 7, 0, 0, 0, 0, 0, 0, 0, 0, 0, 0, 0, 0, 0, 0, 0, 0, 0, 0, 0, 0, 0, 0, 0, 0, 0, 0, 0, 0, 0, 0, 0, 0, 0, 0, 0, 0, 0, 0, 0, 0, 0, 0, 0, 0, 0, 0, 0, 0, 0, 0, 0, 0, 0, 0, 0, 0, 0, 0, 0, 0, 0, 0, 0, 0, 0, 0, 0, 0, 0, 0, 0, 0, 0, 0, 0, 0, 0, 0, 0, 0, 0, 0, 0, 0, 0, 0, 0, 0, 0, 0, 0, 0, 0, 0, 0, 0, 0, 0, 0, 0, 0, 0, 0, 0, 0, 0, 0, 0, 0, 0, 0, 0, 0, 0, 0, 0, 0, 0, 0, 0, 0, 0, 0, 0, 0, 0, 0, 0, 0, 0, 0, 0, 0, 0, 0, 0, 0, 0, 0, 0, 0, 0, 0, 0, 0, 0, 0, 0, 0, 0, 0, 0, 0, 0, 0, 0, 0, 0, 0, 0, 0, 0, 0, 0, 0, 0, 0, 0, 0, 0, 0, 0, 0, 0, 0, 0, 0, 0, 0, 0, 0, 0, 0, 0, 0, 0, 0, 0, 0, 0, 0, 0, 0, 0, 0, 0, 0, 0, 0, 0, 0, 0, 0, 0, 0, 0, 0, 0, 0, 0, 0, 0, 0, 0, 0, 0, 0, 0, 0, 0, 0, 0, 0, 0, 0, 0, 116, 22, 45, 20, 101, 55, 171, 32])], .tup [.agg [.int .i64 4, .bool false, .int .u64 7, .int .u64 0, .int .u64 0, .int .u64 0, .int .u64 1], .int .i64 0])
theorem sn_of2_ok : okE Tryd.prog (bothS (memoS sn_blk) (shaS)) 100000 sn_of2 = true := by kernel_rfl
def sn_of : List (FuncId × List CV × CV) := [sn_of0, sn_of1, sn_of2]
theorem sn_of_all : MOk Tryd.prog (bothS (memoS sn_blk) (shaS)) 100000 sn_of := ⟨sn_of0_ok, sn_of1_ok, sn_of2_ok, trivial⟩
theorem sn_of_sum : SumOk Tryd.prog (bothS (memoS sn_of) (bothS (memoS sn_blk) (shaS))) := both_ok (memo_ok sn_plain sn_mixed sn_blk_sum sn_of_all) sn_blk_sum
theorem sn_all_ok : SumOk Tryd.prog (bothS (openS Tryd.prog 57 33) (bothS (memoS sn_of) (bothS (memoS sn_blk) (shaS)))) := both_ok Go.Cl.So.open_ok sn_of_sum
end Go.Cl.Sh
