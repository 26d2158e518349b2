/- The program's functions, run by the rewriting evaluator: what each answers and leaves (UhC). -/
import Derived.Test.YtmpaohmapdcckaaUhB
set_option linter.all false
open Go Go.Cl Go.Proofs
namespace Go.Cl.U
noncomputable section
variable {σ : Sums}
set_option maxRecDepth 1000000
set_option maxHeartbeats 4000000

def KeysIs (M : List (CV × CV × Nat)) (ks : List Nat) : Prop := M.map (fun e => e.1) = ks.map u64
theorem findKF_k (g : Nat) : ∀ (M : List (CV × CV × Nat)) (ks : List Nat) (i : Nat), KeysIs M ks →
    (g ∉ ks → findKF (u64 g) M i = some none) ∧ (g ∈ ks → ∃ j w, findKF (u64 g) M i = some (some (j, w)))
  | [], [], i, _ => ⟨fun _ => rfl, fun h => by cases h⟩
  | [], _ :: _, i, h => by simp [KeysIs] at h
  | _ :: _, [], i, h => by simp [KeysIs] at h
  | e :: M, p :: ks, i, h => by
    simp only [KeysIs, List.map_cons, List.cons.injEq] at h
    obtain ⟨h1, h3⟩ := h
    obtain ⟨i1, i2⟩ := findKF_k g M ks (i + 1) h3
    have hk : keyEq (u64 g) e.1 = some (p == g) := by rw [h1, keyEq_u]; rw [beq_comm']
    simp only [findKF, hk, Option.bind_some]
    by_cases q : p = g
    · have q' : (p == g) = true := by simp [q]
      rw [q', cond_true]
      exact ⟨fun hh => absurd (by simp [q]) hh, fun _ => ⟨i, _, rfl⟩⟩
    · have q' : (p == g) = false := by simp [q]
      rw [q', cond_false]
      refine ⟨fun hh => i1 fun hm => hh (List.mem_cons_of_mem _ hm), fun hh => i2 ?_⟩
      rcases List.mem_cons.1 hh with e | hm
      · exact absurd e.symm q
      · exact hm
theorem zero_i : zeroT Try.prog 3 = some (.int .i64 0) := by kernel_rfl
theorem lookupK {M : List (CV × CV × Nat)} {ks : List Nat} (I : KeysIs M ks) (g : Nat) :
    ∃ w, ∀ (h : H) (m c : Nat), h.mp m = some (M, c) → lookupT Try.prog h 101 (.map m) (u64 g) true = some (.tup [w, .bool (decide (g ∈ ks))]) := by
  obtain ⟨i1, i2⟩ := findKF_k g M ks 0 I
  by_cases hh : g ∈ ks
  · obtain ⟨j, w, hj⟩ := i2 hh
    refine ⟨w, fun h m c hm => ?_⟩
    unfold lookupT
    rw [Try.underlying101, Option.bind_some]
    simp only [keyOk_u, cond_true, hm, Option.map_some, Option.bind_some, findK]
    rw [hj]; simp [hh]
  · refine ⟨.int .i64 0, fun h m c hm => ?_⟩
    unfold lookupT
    rw [Try.underlying101, Option.bind_some]
    simp only [keyOk_u, cond_true, hm, Option.map_some, Option.bind_some, findK]
    rw [i1 hh]; simp [zero_i, hh]
theorem updateK {h : H} {m c : Nat} {M : List (CV × CV × Nat)} {ks : List Nat} (hm : h.mp m = some (M, c)) (I : KeysIs M ks) {g : Nat} (v : CV) (hh : g ∉ ks) :
    mapUpdateT Try.prog h 101 (.map m) (u64 g) v = some (h.put m (.map (M ++ [(u64 g, v, c)]) (c + 1))) := by
  unfold mapUpdateT
  obtain ⟨i1, _⟩ := findKF_k g M ks 0 I
  rw [Try.underlying101, Option.bind_some]
  simp only [keyOk_u, cond_true, hm, Option.bind_some, findK, i1 hh]
theorem KeysIs.snoc {M : List (CV × CV × Nat)} {ks : List Nat} (I : KeysIs M ks) (g : Nat) (v : CV) (c : Nat) : KeysIs (M ++ [(u64 g, v, c)]) (ks ++ [g]) := by
  unfold KeysIs at I ⊢
  rw [List.map_append, List.map_append, I]; rfl
theorem lenK {h : H} {m c : Nat} {M : List (CV × CV × Nat)} (hm : h.mp m = some (M, c)) (ts : List TypeId) (az : List CV) : builtinT Try.prog h .len (101 :: ts) (.map m :: az) = some (.val (.int .i64 (Int.ofNat M.length))) := by
  simp [builtinT, Try.underlying101, hm]
def comN (x y : List Nat) : Nat × Bool := match y.find? (fun g => decide (g ∈ x)) with
  | some g => (g, true)
  | none => (0, false)
def ComQ (h : H) (r : Nat × Bool) (o : Option (CV × Option H)) : Prop := ∃ x, o = some (.tup [u64 r.1, .bool r.2], x) ∧ Ext h (x.getD h) ∧ (x.getD h).low = h.low
theorem rnd4_ro (l h e m ps a b) : rnd4 l .ret h (.loop (loopBusy e m ps a b)) = some (.bool false, some (h.put l (.loop (loOut (loopObj e m ps a b) .ret)))) := rfl
theorem common_run (hσ : ∀ f a h, f ≠ 9 → σ f a h = none) {h : H} {t a b : Nat} {es : List (Nat × Nat)} (T : TreeAt h t es) {wa wb : List Nat} (Wa : Way es a wa) (Wb : Way es b wb) (hnd : (a :: wa).Nodup) (hwa : wa.length ≤ 1000) (hwb : wb.length ≤ 1000) (hlow : h.low ≤ h.nx) :
    ComQ h (if hasOf es a = true ∧ hasOf es b = true then comN (a :: wa) (b :: wb) else (0, false)) ((lim Try.prog σ).call 12 [.ptr t 0, u64 a, u64 b] h) := by
  obtain ⟨r, hr⟩ : ∃ r, r = (if hasOf es a = true ∧ hasOf es b = true then comN (a :: wa) (b :: wb) else (0, false)) := ⟨_, rfl⟩
  rw [← hr]
  obtain ⟨Q, hQ⟩ : ∃ Q, Q = ComQ h r := ⟨_, rfl⟩
  rw [← hQ]
  rw [call_eq (hσ _ _ _ (by decide)) fn_12 rfl rfl, Try.ntmps12, Try.results12]
  obtain ⟨X, hX⟩ : ∃ X, X = (h.lo.alloc (.cells (newBlk [u64 0]))).alloc (.cells (newBlk [.bool false])) := ⟨_, rfl⟩
  have Xnx : X.nx = h.nx + 2 := by rw [hX]; rfl
  have Xlow : X.low = h.nx := by rw [hX]; rfl
  have XE : Ext h X := by rw [hX]; exact ((Ext.lo h).alloc' _).alloc' _
  have X6 : X.blk h.nx = some (newBlk [u64 0]) := by rw [hX]; simp only [go_sem]
  have X7 : X.blk (h.nx + 1) = some (newBlk [.bool false]) := by rw [hX]; simp only [go_sem]
  have ha : (lim Try.prog σ).call 13 [.ptr t 0, u64 a] X = some (.bool (hasOf es a), none) := has_run hσ (T.ext XE) a
  have hb : (lim Try.prog σ).call 13 [.ptr t 0, u64 b] X = some (.bool (hasOf es b), none) := has_run hσ (T.ext XE) b
  have l0 : CV.int .u64 0 = u64 0 := rfl
  have fin : ∀ (Z : H), Ext h Z → h.nx ≤ Z.low → Q (some (fin h Z (.tup [u64 r.1, .bool r.2]))) := fun Z EZ hl => by
    obtain ⟨x, e, Ex, lx⟩ := fin_low EZ hlow (.tup [u64 r.1, .bool r.2])
    rw [hQ]
    exact ⟨x, congrArg some e, Ex, lx (by omega)⟩
  cases hha : hasOf es a with
  | false =>
    have er : r = (0, false) := by rw [hr, hha]; rfl
    rw [hha] at ha
    have f1 := fin ((X.put h.nx (.cells ((newBlk [u64 0]).st 0 (u64 0)))).put (h.nx + 1) (.cells ((newBlk [.bool false]).st 0 (.bool false)))) ((XE.put _ (Nat.le_refl _)).put _ (by omega)) (by simp only [go_sem]; omega)
    rw [er] at f1
    simp only [go_sem, l0, ← hX, ha, hb, X6, X7]
    exact f1
  | true =>
  rw [hha] at ha
  cases hhb : hasOf es b with
  | false =>
    have er : r = (0, false) := by rw [hr, hha, hhb]; rfl
    rw [hhb] at hb
    have f1 := fin ((X.put h.nx (.cells ((newBlk [u64 0]).st 0 (u64 0)))).put (h.nx + 1) (.cells ((newBlk [.bool false]).st 0 (.bool false)))) ((XE.put _ (Nat.le_refl _)).put _ (by omega)) (by simp only [go_sem]; omega)
    rw [er] at f1
    simp only [go_sem, l0, ← hX, ha, hb, X6, X7]
    exact f1
  | true =>
  rw [hhb] at hb
  have er : r = comN (a :: wa) (b :: wb) := by rw [hr, hha, hhb]; rfl
  have up0 := updateK (h := X.alloc (.map [] 0)) (m := X.nx) (M := []) (ks := []) (mp_of (alloc_get_same _ _ _ rfl)) rfl (g := a) (.int .i64 0) (by simp)
  simp only [List.nil_append] at up0
  obtain ⟨X1, hX1⟩ : ∃ Z, Z = (X.alloc (.map [] 0)).put X.nx (.map [(u64 a, .int .i64 0, 0)] (0 + 1)) := ⟨_, rfl⟩
  rw [← hX1] at up0
  have X1nx : X1.nx = X.nx + 1 := by rw [hX1]; rfl
  have X1low : X1.low = h.nx := by rw [hX1]; simp only [go_sem]; omega
  have E1 : Ext X X1 := by rw [hX1]; exact ((Ext.refl X).alloc' _).put _ (Nat.le_refl _)
  have X1m : X1.t.get X.nx = some (.map [(u64 a, .int .i64 0, 0)] (0 + 1)) := by rw [hX1]; exact put_get_same _ _ _
  obtain ⟨X2, hX2⟩ : ∃ Z, Z = (X1.alloc (.cells (newBlk [.nilm]))).put X1.nx (.cells ((newBlk [.nilm]).st 0 (.map X.nx))) := ⟨_, rfl⟩
  have X2nx : X2.nx = X.nx + 2 := by rw [hX2]; simp only [go_sem]; omega
  have X2low : X2.low = h.nx := by rw [hX2]; simp only [go_sem]; omega
  have E2 : Ext X1 X2 := by rw [hX2]; exact ((Ext.refl X1).alloc' _).put _ (Nat.le_refl _)
  have X2c : X2.blk X1.nx = some ((newBlk [.nilm]).st 0 (.map X.nx)) := by rw [hX2]; exact put_blk_same _ _ _
  have gc : ((newBlk [CV.nilm]).st 0 (.map X.nx)).get 0 = some (.map X.nx) := rfl
  have X2m : X2.t.get X.nx = some (.map [(u64 a, .int .i64 0, 0)] (0 + 1)) := (E2.old _ (by omega)).trans X1m
  have X26 : X2.blk h.nx = some (newBlk [u64 0]) := (E2.blk (by omega)).trans ((E1.blk (by omega)).trans X6)
  have X27 : X2.blk (h.nx + 1) = some (newBlk [.bool false]) := (E2.blk (by omega)).trans ((E1.blk (by omega)).trans X7)
  have EX2 : Ext h X2 := (XE.trans E1).trans E2
  have wr := way_run hσ X2 t a (by omega)
  obtain ⟨Y, hY⟩ : ∃ Y, Y = ((X2.lo.alloc (.cells (newBlk [.ptr t 0]))).alloc (.cells (newBlk [u64 a]))).up (min X2.low X2.nx) := ⟨_, rfl⟩
  rw [← hY] at wr
  have Ynx : Y.nx = X2.nx + 2 := by rw [hY]; rfl
  have Ylow : Y.low = h.nx := by rw [hY]; show min X2.low X2.nx = h.nx; omega
  have E3 : Ext X2 Y := by rw [hY]; exact ((((Ext.lo X2).alloc' _).alloc' _).up' _)
  have YE : Ext h Y := EX2.trans E3
  have bA : Y.blk X2.nx = some (newBlk [.ptr t 0]) := by rw [hY]; exact (up_blk _ _ _).trans ((alloc_blk_ne _ _ _ (by simp only [go_sem])).trans (alloc_blk_same _ _ _ rfl))
  have bB : Y.blk (X2.nx + 1) = some (newBlk [u64 a]) := by rw [hY]; exact (up_blk _ _ _).trans (alloc_blk_same _ _ _ rfl)
  have Yc : Y.blk X1.nx = some ((newBlk [.nilm]).st 0 (.map X.nx)) := (E3.blk (by omega)).trans X2c
  have Ym : Y.t.get X.nx = some (.map [(u64 a, .int .i64 0, 0)] (0 + 1)) := (E3.old _ (by omega)).trans X2m
  have Y6 : Y.blk h.nx = some (newBlk [u64 0]) := (E3.blk (by omega)).trans X26
  have Y7 : Y.blk (h.nx + 1) = some (newBlk [.bool false]) := (E3.blk (by omega)).trans X27
  simp only [go_sem, l0, ← hX, ha, hb, X6, X7, up0, ← hX1, ← hX2, wr]
  refine way_law (Q := Q) hσ (ba := newBlk [.ptr t 0]) (bb := newBlk [u64 a]) (xid := .skip) Wa rfl rfl rfl h.nx (by omega) wa.length false (Nat.le_refl _) (fun _ => rfl) (fun e => by cases e)
    (fun i h1 => Y.nx + 1 ≤ h1.nx ∧ h1.gn = Y.gn ∧ (∀ k, k < Y.nx → k ≠ X.nx → h1.t.get k = Y.t.get k) ∧ ∃ M c, h1.t.get X.nx = some (.map M c) ∧ KeysIs M (a :: wa.take i)) ?_ ?_ ?_ ?_ (fun _ => by rw [rngD_none]; refine congrArg (fun z => rngD _ _ _ _ _ _ _ _ (some z)) ?_; simp only [go_sem, l0, ← hX, ← hX1, ← hX2, ← hY]) ?_
  · exact ⟨by rw [alloc_nx]; omega, rfl, fun k hk _ => alloc_get_ne _ _ _ (by omega), _, _, (alloc_get_ne _ _ _ (by omega)).trans Ym, rfl⟩
  · rintro i h1 h2 ⟨j1, j2, j3, M, c, j4, j5⟩ e
    exact ⟨Nat.le_trans j1 e.nx, e.gn.trans j2, fun k hk hkm => (e.old k (by omega)).trans (j3 k hk hkm), M, c, (e.old _ (by omega)).trans j4, j5⟩
  · rintro i h1 ⟨j1, j2, j3, _⟩
    have Eh : Ext h h1 := ⟨by omega, j2.trans YE.gn, fun k hk => (j3 k (by omega) (by omega)).trans (YE.old k hk)⟩
    exact ⟨j1, T.ext Eh, (blk_eq (j3 _ (by omega) (by omega))).trans bA, (blk_eq (j3 _ (by omega) (by omega))).trans bB⟩
  · rintro i h1 w hi hloop ⟨j1, j2, j3, M, c, j4, j5⟩ hlB hw
    have h1c : h1.blk X1.nx = some ((newBlk [.nilm]).st 0 (.map X.nx)) := (blk_eq (j3 _ (by omega) (by omega))).trans Yc
    have n1 : X1.nx ≠ Y.nx := by omega
    have n2 : X.nx ≠ Y.nx := by omega
    refine opq (P := RndOk _ _ _ _ _ _ _) fun R hR => ?_
    have hw' : w ∉ a :: wa.take i := fun hm => by
      have hsp : a :: wa = (a :: wa.take i) ++ (w :: wa.drop (i + 1)) := by
        have : wa.drop i = w :: wa.drop (i + 1) := by
          rw [List.drop_eq_getElem_cons hi]; congr 1; exact (List.getElem?_eq_some_iff.1 hw).2
        rw [List.cons_append, ← this, List.take_append_drop]
      rw [hsp] at hnd
      exact (List.nodup_append.1 hnd).2.2 w hm w List.mem_cons_self rfl
    have hlen : ∀ o, builtinT Try.prog (h1.put Y.nx o) .len [101] [.map X.nx] = some (.val (.int .i64 (Int.ofNat M.length))) := fun o => lenK (mp_of ((put_get_ne _ _ _ _ n2).trans j4)) [] []
    have hup : ∀ o v, mapUpdateT Try.prog (h1.put Y.nx o) 101 (.map X.nx) (u64 w) v = some ((h1.put Y.nx o).put X.nx (.map (M ++ [(u64 w, v, c)]) (c + 1))) := fun o v => updateK (mp_of ((put_get_ne _ _ _ _ n2).trans j4)) j5 v hw'
    have n3 : Y.nx ≠ X.nx := by omega
    simp only [round_eq, hloop, go_sem, n1, n2, h1c, gc, hlen, hup, n3]
    rw [hR]
    have htk : a :: wa.take (i + 1) = (a :: wa.take i) ++ [w] := by rw [List.take_succ, hw]; rfl
    refine ⟨_, rfl, put_get_same _ _ _, ⟨by simp only [go_sem]; omega, by simp only [go_sem]; exact j2, fun k hk hkm => ?_, _, _, (put_get_ne _ _ _ _ n2).trans (put_get_same _ _ _), by rw [htk]; exact j5.snoc _ _ _⟩, by simp only [go_sem]; omega, by simp only [go_sem]; omega, by simp only [go_sem]; omega⟩
    rw [put_get_ne _ _ _ _ (by omega), put_get_ne _ _ _ _ hkm, put_get_ne _ _ _ _ (by omega)]
    exact j3 k hk hkm
  · intro Z hloop ⟨j1, j2, j3, M, c, j4, j5⟩ hZB
    rw [List.take_length] at j5
    have hZlow : h.nx ≤ Z.low := hZB (by omega)
    have EZ : Ext h Z := ⟨by omega, j2.trans YE.gn, fun k hk => (j3 k (by omega) (by omega)).trans (YE.old k hk)⟩
    have n1 : X1.nx ≠ Y.nx := by omega
    have n2 : X.nx ≠ Y.nx := by omega
    have Zc : Z.blk X1.nx = some ((newBlk [.nilm]).st 0 (.map X.nx)) := (blk_eq (j3 _ (by omega) (by omega))).trans Yc
    have Z6 : Z.blk h.nx = some (newBlk [u64 0]) := (blk_eq (j3 _ (by omega) (by omega))).trans Y6
    have Z7 : Z.blk (h.nx + 1) = some (newBlk [.bool false]) := (blk_eq (j3 _ (by omega) (by omega))).trans Y7
    obtain ⟨wv, hlk⟩ := lookupK j5 b
    have hlk' : ∀ o, lookupT Try.prog (Z.put Y.nx o) 101 (.map X.nx) (u64 b) true = some (.tup [wv, .bool (decide (b ∈ a :: wa))]) := fun o => hlk _ _ c (mp_of ((put_get_ne _ _ _ _ n2).trans j4))
    have n6 : h.nx ≠ Y.nx := by omega
    have n7 : h.nx + 1 ≠ Y.nx := by omega
    by_cases hbx : b ∈ a :: wa
    · have db : decide (b ∈ a :: wa) = true := decide_eq_true hbx
      have er2 : r = (b, true) := by rw [er]; unfold comN; rw [List.find?_cons_of_pos (by exact db)]
      rw [db] at hlk'
      have f1 : ∀ o, Q (some (Go.Cl.fin h (((Z.put Y.nx o).put h.nx (.cells ((newBlk [u64 0]).st 0 (u64 b)))).put (h.nx + 1) (.cells ((newBlk [.bool false]).st 0 (.bool true)))) (.tup [u64 b, .bool true]))) := fun o => by
        have := fin (((Z.put Y.nx o).put h.nx (.cells ((newBlk [u64 0]).st 0 (u64 b)))).put (h.nx + 1) (.cells ((newBlk [.bool false]).st 0 (.bool true)))) (((EZ.put _ (by omega)).put _ (Nat.le_refl _)).put _ (by omega)) (by simp only [go_sem]; omega)
        rw [er2] at this; exact this
      simp only [go_sem, l0, ← hX, ← hX1, ← hX2, Zc, gc, hlk', Z6, Z7, n1, n2, n6, n7, hloop, cond_true, cond_false, loOut_eq]
      exact f1 _
    have db : decide (b ∈ a :: wa) = false := decide_eq_false hbx
    rw [db] at hlk'
    simp only [go_sem, l0, ← hX, ← hX1, ← hX2, Zc, gc, hlk', Z6, Z7, n1, n2, n6, n7, hloop, cond_true, cond_false, loOut_eq]
    generalize hW : Z.put Y.nx _ = W
    have Wnx : W.nx = Z.nx := by rw [← hW]; rfl
    have Wlow : h.nx ≤ W.low ∧ W.low ≤ W.nx := by rw [← hW]; simp only [go_sem]; omega
    have EW : Ext h W := by rw [← hW]; exact EZ.put _ (by omega)
    have Wc : W.blk X1.nx = some ((newBlk [.nilm]).st 0 (.map X.nx)) := by rw [← hW]; exact (put_blk_ne _ _ _ _ n1).trans Zc
    have W6 : W.blk h.nx = some (newBlk [u64 0]) := by rw [← hW]; exact (put_blk_ne _ _ _ _ n6).trans Z6
    have W7 : W.blk (h.nx + 1) = some (newBlk [.bool false]) := by rw [← hW]; exact (put_blk_ne _ _ _ _ n7).trans Z7
    have Wm : W.t.get X.nx = some (.map M c) := by rw [← hW]; exact (put_get_ne _ _ _ _ n2).trans j4
    have wr2 := way_run hσ W t b Wlow.2
    obtain ⟨V, hV⟩ : ∃ V, V = ((W.lo.alloc (.cells (newBlk [.ptr t 0]))).alloc (.cells (newBlk [u64 b]))).up (min W.low W.nx) := ⟨_, rfl⟩
    rw [← hV] at wr2
    have Vnx : V.nx = W.nx + 2 := by rw [hV]; rfl
    have Vlow : h.nx ≤ V.low := by rw [hV]; show h.nx ≤ min W.low W.nx; omega
    have E4 : Ext W V := by rw [hV]; exact ((((Ext.lo W).alloc' _).alloc' _).up' _)
    have VE : Ext h V := EW.trans E4
    have vA : V.blk W.nx = some (newBlk [.ptr t 0]) := by rw [hV]; exact (up_blk _ _ _).trans ((alloc_blk_ne _ _ _ (by simp only [go_sem])).trans (alloc_blk_same _ _ _ rfl))
    have vB : V.blk (W.nx + 1) = some (newBlk [u64 b]) := by rw [hV]; exact (up_blk _ _ _).trans (alloc_blk_same _ _ _ rfl)
    have Vc : V.blk X1.nx = some ((newBlk [.nilm]).st 0 (.map X.nx)) := (E4.blk (by omega)).trans Wc
    have V6 : V.blk h.nx = some (newBlk [u64 0]) := (E4.blk (by omega)).trans W6
    have V7 : V.blk (h.nx + 1) = some (newBlk [.bool false]) := (E4.blk (by omega)).trans W7
    have Vm : V.t.get X.nx = some (.map M c) := (E4.old _ (by omega)).trans Wm
    -- how far it goes
    obtain ⟨n, stop, hn, hns, hnp, hno, hyes⟩ : ∃ (n : Nat) (stop : Bool), n ≤ wb.length ∧ (stop = false → n = wb.length ∧ r = (0, false)) ∧ (stop = true → 0 < n) ∧ (∀ i w, wb[i]? = some w → (stop && decide (i + 1 = n)) = false → i < n → w ∉ a :: wa) ∧ (∀ i w, wb[i]? = some w → (stop && decide (i + 1 = n)) = true → w ∈ a :: wa ∧ r = (w, true)) := by
      have er3 : r = comN (a :: wa) wb := by
        rw [er]; unfold comN; rw [List.find?_cons_of_neg (by rw [db]; decide)]
      cases hf : wb.find? (fun g => decide (g ∈ a :: wa)) with
      | none =>
        have er4 : r = (0, false) := by rw [er3]; unfold comN; rw [hf]
        refine ⟨wb.length, false, Nat.le_refl _, fun _ => ⟨rfl, er4⟩, fun e => (by cases e), fun i w hw _ _ hm => ?_, fun i w _ e => (by cases e)⟩
        have := List.find?_eq_none.1 hf w (List.mem_of_getElem? hw)
        simp only [decide_eq_true_eq] at this
        exact this hm
      | some g =>
        have er4 : r = (g, true) := by rw [er3]; unfold comN; rw [hf]
        obtain ⟨hg, l1, l2, hl, hl1⟩ := List.find?_eq_some_iff_append.1 hf
        have hg := of_decide_eq_true hg
        refine ⟨l1.length + 1, true, by rw [hl]; simp, fun e => (by cases e), fun _ => (by omega), fun i w hw e hi hm => ?_, fun i w hw e => ?_⟩
        · have hne : i + 1 ≠ l1.length + 1 := by simpa using e
          have hlt : i < l1.length := by omega
          rw [hl, List.getElem?_append_left hlt] at hw
          have := hl1 w (List.mem_of_getElem? hw)
          simp only [Bool.not_eq_true', decide_eq_false_iff_not] at this
          exact this hm
        · have hi : i = l1.length := by simpa using e
          rw [hl, hi, List.getElem?_append_right (Nat.le_refl _)] at hw
          simp at hw
          subst hw
          exact ⟨hg, er4⟩
    simp only [go_sem, wr2]
    refine way_law (Q := Q) hσ (ba := newBlk [.ptr t 0]) (bb := newBlk [u64 b]) (xid := .ret) Wb rfl rfl rfl h.nx (by omega) n stop hn (fun e => (hns e).1) hnp
      (fun i h1 => V.nx + 1 ≤ h1.nx ∧ h1.gn = V.gn ∧ (∀ k, k < V.nx → k ≠ h.nx → k ≠ h.nx + 1 → h1.t.get k = V.t.get k) ∧ ∃ v6 v7, Cell h1 h.nx v6 ∧ Cell h1 (h.nx + 1) v7 ∧ (stop = true → i = n → v6 = u64 r.1 ∧ v7 = .bool r.2)) ?_ ?_ ?_ ?_ (fun _ => by rw [rngD_none]; refine congrArg (fun z => rngD _ _ _ _ _ _ _ _ (some z)) ?_; simp only [go_sem]) ?_
    · refine ⟨by rw [alloc_nx]; omega, rfl, fun k hk _ _ => alloc_get_ne _ _ _ (by omega), u64 0, .bool false, ⟨by rw [alloc_nx]; omega, _, (alloc_blk_ne _ _ _ (by omega)).trans V6, rfl, rfl, rfl⟩, ⟨by rw [alloc_nx]; omega, _, (alloc_blk_ne _ _ _ (by omega)).trans V7, rfl, rfl, rfl⟩, fun e1 e2 => ?_⟩
      have := hnp e1
      omega
    · rintro i h1 h2 ⟨k1, k2, k3, v6, v7, ⟨p1, b1, p2, p3, p4, p5⟩, ⟨s1, b2, s2, s3, s4, s5⟩, k4⟩ e
      exact ⟨Nat.le_trans k1 e.nx, e.gn.trans k2, fun k hk hk6 hk7 => (e.old k (by omega)).trans (k3 k hk hk6 hk7), v6, v7, ⟨Nat.lt_of_lt_of_le p1 e.nx, b1, (e.blk p1).trans p2, p3, p4, p5⟩, ⟨Nat.lt_of_lt_of_le s1 e.nx, b2, (e.blk s1).trans s2, s3, s4, s5⟩, k4⟩
    · rintro i h1 ⟨k1, k2, k3, _⟩
      have Eh : Ext h h1 := ⟨by omega, k2.trans VE.gn, fun k hk => (k3 k (by omega) (by omega) (by omega)).trans (VE.old k hk)⟩
      exact ⟨k1, T.ext Eh, (blk_eq (k3 _ (by omega) (by omega) (by omega))).trans vA, (blk_eq (k3 _ (by omega) (by omega) (by omega))).trans vB⟩
    · rintro i h1 w hi hloop2 ⟨k1, k2, k3, v6, v7, ⟨p1, b1, p2, p3, p4, p5⟩, ⟨s1, b2, s2, s3, s4, s5⟩, k4⟩ hlB hw
      have h1c : h1.blk X1.nx = some ((newBlk [.nilm]).st 0 (.map X.nx)) := (blk_eq (k3 _ (by omega) (by omega) (by omega))).trans Vc
      have h1m : h1.t.get X.nx = some (.map M c) := (k3 _ (by omega) (by omega) (by omega)).trans Vm
      have u1 : X1.nx ≠ V.nx := by omega
      have u2 : X.nx ≠ V.nx := by omega
      have u6 : h.nx ≠ V.nx := by omega
      have u7 : h.nx + 1 ≠ V.nx := by omega
      have u8 : h.nx + 1 ≠ h.nx := by omega
      have u9 : V.nx ≠ h.nx := by omega
      have u10 : V.nx ≠ h.nx + 1 := by omega
      obtain ⟨wv2, hlk2⟩ := lookupK j5 w
      have hlk3 : ∀ o, lookupT Try.prog (h1.put V.nx o) 101 (.map X.nx) (u64 w) true = some (.tup [wv2, .bool (decide (w ∈ a :: wa))]) := fun o => hlk2 _ _ c (mp_of ((put_get_ne _ _ _ _ u2).trans h1m))
      refine opq (P := RndOk _ _ _ _ _ _ _) fun R hR => ?_
      cases hsn : (stop && decide (i + 1 = n)) with
      | true =>
        obtain ⟨hm, hrw⟩ := hyes i w hw hsn
        have dw : decide (w ∈ a :: wa) = true := decide_eq_true hm
        rw [dw] at hlk3
        simp only [round_eq, hloop2, go_sem, u1, u2, u6, u7, u8, u9, u10, h1c, gc, hlk3, p2, p3, p4, s2, s3, s4, rnd4_ro]
        rw [hR, hsn]
        have gp : (b1.st 0 (u64 w)).get 0 = some (u64 w) := st_get_same _ _ _ (by omega)
        have gs : (b2.st 0 (.bool true)).get 0 = some (.bool true) := st_get_same _ _ _ (by omega)
        refine ⟨_, rfl, put_get_same _ _ _, ⟨by simp only [go_sem]; omega, by simp only [go_sem]; exact k2, fun k hk hk6 hk7 => ?_, u64 w, .bool true, ⟨by simp only [go_sem]; omega, _, (put_blk_ne _ _ _ _ u6).trans ((put_blk_ne _ _ _ _ (by omega)).trans (put_blk_same _ _ _)), by simp only [go_sem, p3], by simp only [go_sem, p4], gp⟩, ⟨by simp only [go_sem]; omega, _, (put_blk_ne _ _ _ _ u7).trans (put_blk_same _ _ _), by simp only [go_sem, s3], by simp only [go_sem, s4], gs⟩, fun _ _ => by rw [hrw]; exact ⟨rfl, rfl⟩⟩, by simp only [go_sem]; omega, by simp only [go_sem]; omega, by simp only [go_sem]; omega⟩
        rw [put_get_ne _ _ _ _ (by omega), put_get_ne _ _ _ _ hk7, put_get_ne _ _ _ _ hk6, put_get_ne _ _ _ _ (by omega)]
        exact k3 k hk hk6 hk7
      | false =>
        have hm := hno i w hw hsn hi
        have dw : decide (w ∈ a :: wa) = false := decide_eq_false hm
        rw [dw] at hlk3
        simp only [round_eq, hloop2, go_sem, u1, u2, u6, u7, u8, u9, u10, h1c, gc, hlk3]
        rw [hR, hsn]
        refine ⟨_, rfl, put_get_same _ _ _, ⟨by simp only [go_sem]; omega, by simp only [go_sem]; exact k2, fun k hk hk6 hk7 => ?_, v6, v7, ⟨by simp only [go_sem]; omega, b1, (put_blk_ne _ _ _ _ u6).trans ((put_blk_ne _ _ _ _ u6).trans p2), p3, p4, p5⟩, ⟨by simp only [go_sem]; omega, b2, (put_blk_ne _ _ _ _ u7).trans ((put_blk_ne _ _ _ _ u7).trans s2), s3, s4, s5⟩, fun e1 e2 => ?_⟩, by simp only [go_sem]; omega, by simp only [go_sem]; omega, by simp only [go_sem]; omega⟩
        · rw [put_get_ne _ _ _ _ (by omega), put_get_ne _ _ _ _ (by omega)]
          exact k3 k hk hk6 hk7
        · rw [e1, e2] at hsn; simp at hsn
    · intro Z2 hloop2 ⟨k1, k2, k3, v6, v7, ⟨p1, b1, p2, p3, p4, p5⟩, ⟨s1, b2, s2, s3, s4, s5⟩, k4⟩ hZB2
      have u1 : X1.nx ≠ V.nx := by omega
      have u6 : h.nx ≠ V.nx := by omega
      have u7 : h.nx + 1 ≠ V.nx := by omega
      have u8 : h.nx + 1 ≠ h.nx := by omega
      have Zl2 : h.nx ≤ Z2.low := hZB2 (by omega)
      have EZ2 : Ext h Z2 := ⟨by omega, k2.trans VE.gn, fun k hk => (k3 k (by omega) (by omega) (by omega)).trans (VE.old k hk)⟩
      cases hs : stop with
      | true =>
        rw [hs] at hloop2
        obtain ⟨rfl, rfl⟩ := k4 hs rfl
        have f1 : ∀ o, Q (some (Go.Cl.fin h (Z2.put V.nx o) (.tup [u64 r.1, .bool r.2]))) := fun o => fin _ (EZ2.put _ (by omega)) (by simp only [go_sem]; omega)
        simp only [go_sem, hloop2, cond_true, cond_false, loOut_eq, u1, u6, u7, p2, p5, s2, s5]
        exact f1 _
      | false =>
        rw [hs] at hloop2
        have er5 := (hns hs).2
        have gp : (b1.st 0 (u64 0)).get 0 = some (u64 0) := st_get_same _ _ _ (by omega)
        have gs : (b2.st 0 (.bool false)).get 0 = some (.bool false) := st_get_same _ _ _ (by omega)
        have f1 : ∀ o, Q (some (Go.Cl.fin h (((Z2.put V.nx o).put h.nx (.cells (b1.st 0 (u64 0)))).put (h.nx + 1) (.cells (b2.st 0 (.bool false)))) (.tup [u64 0, .bool false]))) := fun o => by
          have := fin (((Z2.put V.nx o).put h.nx (.cells (b1.st 0 (u64 0)))).put (h.nx + 1) (.cells (b2.st 0 (.bool false)))) (((EZ2.put _ (by omega)).put _ (Nat.le_refl _)).put _ (by omega)) (by simp only [go_sem]; omega)
          rw [er5] at this; exact this
        simp only [go_sem, l0, hloop2, cond_true, cond_false, loOut_eq, u1, u6, u7, u8, p2, p3, p4, p5, s2, s3, s4, s5, gp, gs]
        exact f1 _
end
end Go.Cl.U

namespace Go.Cl.U
set_option maxRecDepth 1000000

theorem Way.split {es : List (Nat × Nat)} {g : Nat} : ∀ {ws : List Nat}, Way es g ws → (parOf es g = 0 ∧ ws = []) ∨ (parOf es g ≠ 0 ∧ ∃ ws1, ws = parOf es g :: ws1 ∧ Way es (parOf es g) ws1)
  | [], W => .inl ⟨W.end_, rfl⟩
  | w :: ws, W => by
    obtain ⟨h1, h2⟩ := W.at_ 0 (by simp)
    have h1 : some w = some (parOf es g) := h1
    have e := Option.some.inj h1
    have h2 : parOf es g ≠ 0 := h2
    refine .inr ⟨h2, ws, by rw [e], ?_⟩
    have hc : ∀ i, curW g (w :: ws) (i + 1) = curW (parOf es g) ws i := fun i => by
      cases i with
      | zero => show w = parOf es g; exact e
      | succ i => rfl
    refine ⟨fun i hi => ?_, ?_⟩
    · have := W.at_ (i + 1) (by simpa using hi)
      rw [hc] at this
      simpa using this
    · have := W.end_
      rw [List.length_cons, hc] at this
      exact this
theorem way_uniq {es : List (Nat × Nat)} : ∀ {ws : List Nat} {g : Nat} {ws' : List Nat}, Way es g ws → Way es g ws' → ws = ws'
  | [], g, ws', W, W' => by
    rcases W'.split with ⟨_, h⟩ | ⟨h, _⟩
    · exact h.symm
    · exact absurd W.end_ h
  | w :: ws, g, ws', W, W' => by
    rcases W.split with ⟨_, h⟩ | ⟨h, ws1, e, W1⟩
    · cases h
    · cases e
      rcases W'.split with ⟨h', _⟩ | ⟨_, ws2, e2, W2⟩
      · exact absurd h' h
      · rw [e2, way_uniq W1 W2]
theorem way_rk {es : List (Nat × Nat)} (G : Good es) : ∀ {ws : List Nat} {g : Nat}, Way es g ws → ∀ w ∈ ws, hasOf es w = true ∧ rk es w < rk es g
  | [], g, W => by simp
  | w :: ws, g, W => by
    rcases W.split with ⟨_, h⟩ | ⟨h, ws1, e, W1⟩
    · cases h
    · cases e
      have hg : hasOf es g = true := by
        cases q : hasOf es g with
        | true => rfl
        | false => exact absurd (parOf_no q) h
      obtain ⟨p1, p2⟩ := G.par g hg h
      intro x hx
      rcases List.mem_cons.1 hx with rfl | hx
      · exact ⟨p1, p2⟩
      · obtain ⟨q1, q2⟩ := way_rk G W1 x hx
        exact ⟨q1, by omega⟩
theorem way_nodup {es : List (Nat × Nat)} (G : Good es) : ∀ {ws : List Nat} {g : Nat}, Way es g ws → (g :: ws).Nodup
  | [], g, W => by simp
  | w :: ws, g, W => by
    have hr := way_rk G W
    rcases W.split with ⟨_, h⟩ | ⟨h, ws1, e, W1⟩
    · cases h
    · cases e
      refine List.nodup_cons.2 ⟨fun hm => ?_, way_nodup G W1⟩
      have := (hr _ hm).2
      omega
theorem way_tail {es : List (Nat × Nat)} {c : Nat} : ∀ {ws : List Nat} {g : Nat}, Way es g ws → c ∈ g :: ws → ∃ pre post, g :: ws = pre ++ c :: post ∧ Way es c post
  | ws, g, W, hm => by
    by_cases e : c = g
    · exact ⟨[], ws, by rw [e]; rfl, by rw [e]; exact W⟩
    · have hm : c ∈ ws := (List.mem_cons.1 hm).resolve_left e
      rcases W.split with ⟨_, h⟩ | ⟨h, ws1, e1, W1⟩
      · rw [h] at hm; cases hm
      · subst e1
        obtain ⟨pre, post, h1, h2⟩ := way_tail W1 hm
        exact ⟨g :: pre, post, by rw [h1]; rfl, h2⟩
/-- the tree has one root -/
structure Root (es : List (Nat × Nat)) (first : Nat) : Prop where
  zero : hasOf es 0 = false
  root : ∀ g, hasOf es g = true → parOf es g = 0 → g = first
theorem Root.snoc {es : List (Nat × Nat)} {first c p : Nat} (R : Root es first) (hc0 : c ≠ 0) (hc : hasOf es c = false) (hp : hasOf es p = true) : Root (es ++ [(c, p)]) first := by
  refine ⟨by rw [has_snoc, R.zero]; simp [hc0], fun g hg h0 => ?_⟩
  rw [has_snoc] at hg
  cases q : hasOf es g with
  | true =>
    rw [par_snoc_old q] at h0
    exact R.root g q h0
  | false =>
    rw [q] at hg
    have e : c = g := by simpa using hg
    rw [par_snoc_new q e] at h0
    rw [h0, R.zero] at hp; cases hp
theorem grow_root : ∀ (l es : List (Nat × Nat)) (first : Nat), Root es first → (growN es l).1 = 0 → Root (growN es l).2 first
  | [], es, first, R, _ => R
  | (p, c) :: l, es, first, R, h => by
    unfold growN at h ⊢
    by_cases h1 : c = 0 ∨ hasOf es c = true
    · rw [if_pos h1] at h; cases h
    · rw [if_neg h1] at h ⊢
      by_cases h2 : hasOf es p = false
      · rw [if_pos h2] at h; cases h
      · rw [if_neg h2] at h ⊢
        obtain ⟨k1, k2⟩ := not_or.1 h1
        exact grow_root l _ first (R.snoc k1 (by simpa using k2) (by simpa using h2)) h
theorem of_root {first : Nat} {l : List (Nat × Nat)} (h : (ofN first l).1 = 0) : Root (ofN first l).2 first := by
  unfold ofN at h ⊢
  by_cases hf : first = 0
  · rw [if_pos hf] at h; cases h
  · rw [if_neg hf] at h ⊢
    refine grow_root l _ first ⟨by simp [hasOf, hf], fun g hg _ => ?_⟩ h
    have e : first = g := by simpa [hasOf] using hg
    exact e.symm
theorem root_mem {es : List (Nat × Nat)} {first : Nat} (G : Good es) (R : Root es first) : ∀ {ws : List Nat} {g : Nat}, Way es g ws → hasOf es g = true → first ∈ g :: ws
  | ws, g, W, hg => by
    rcases W.split with ⟨h0, _⟩ | ⟨h, ws1, e1, W1⟩
    · rw [R.root g hg h0]; exact List.mem_cons_self
    · subst e1
      exact List.mem_cons_of_mem _ (root_mem G R W1 (G.par g hg h).1)
/-- the nearest common one: where it stands in both -/
theorem common_law {es : List (Nat × Nat)} {first : Nat} (G : Good es) (R : Root es first) {a b : Nat} {wa wb : List Nat} (Wa : Way es a wa) (Wb : Way es b wb) (ha : hasOf es a = true) (hb : hasOf es b = true) :
    ∃ c xp yp post, a :: wa = xp ++ c :: post ∧ b :: wb = yp ++ c :: post ∧ comN (a :: wa) (b :: wb) = (c, true) ∧ comN (b :: wb) (a :: wa) = (c, true) ∧ (∀ z ∈ xp, z ∉ b :: wb) := by
  have hfa := root_mem G R Wa ha
  have hfb := root_mem G R Wb hb
  cases hf : (b :: wb).find? (fun g => decide (g ∈ a :: wa)) with
  | none =>
    have := List.find?_eq_none.1 hf first hfb
    simp only [decide_eq_true_eq] at this
    exact absurd hfa this
  | some c =>
    obtain ⟨hc, yp, post, hy, hyp⟩ := List.find?_eq_some_iff_append.1 hf
    have hc := of_decide_eq_true hc
    obtain ⟨xp, post2, hx, W2⟩ := way_tail Wa hc
    have hcy : c ∈ b :: wb := by rw [hy]; simp
    obtain ⟨yp', post', hy', W1⟩ := way_tail Wb hcy
    have ndx := way_nodup G Wa
    have ndy := way_nodup G Wb
    have hpp : post = post' := by
      rw [hy'] at hy ndy
      have key : ∀ (l1 l2 p1 p2 : List Nat), (l1 ++ c :: p1).Nodup → l1 ++ c :: p1 = l2 ++ c :: p2 → p1 = p2 := by
        intro l1
        induction l1 with
        | nil =>
          intro l2 p1 p2 nd e
          cases l2 with
          | nil => simpa using e
          | cons z l2 =>
            simp at e
            obtain ⟨rfl, e2⟩ := e
            rw [List.nil_append, List.nodup_cons, e2] at nd
            exact absurd (by simp) nd.1
        | cons y l1 ih =>
          intro l2 p1 p2 nd e
          cases l2 with
          | nil =>
            simp at e
            obtain ⟨rfl, e2⟩ := e
            rw [List.cons_append, List.nodup_cons] at nd
            exact absurd (by simp) nd.1
          | cons z l2 =>
            simp at e
            exact ih l2 p1 p2 (List.nodup_cons.1 nd).2 e.2
      exact (key yp' yp post' post ndy hy).symm
    have hpost : post2 = post := by rw [hpp]; exact way_uniq W2 W1
    subst hpost
    have hxn : ∀ z ∈ xp, z ∉ b :: wb := fun z hz hm => by
      rw [hy] at hm
      rcases List.mem_append.1 hm with h1 | h1
      · have := hyp z h1
        simp only [Bool.not_eq_true', decide_eq_false_iff_not] at this
        exact this (by rw [hx]; exact List.mem_append_left _ hz)
      · rw [hx] at ndx
        exact (List.nodup_append.1 ndx).2.2 z hz z h1 rfl
    refine ⟨c, xp, yp, post2, hx, hy, by unfold comN; rw [hf], ?_, hxn⟩
    have hf2 : (a :: wa).find? (fun g => decide (g ∈ b :: wb)) = some c := by
      rw [List.find?_eq_some_iff_append]
      exact ⟨decide_eq_true hcy, xp, post2, hx, fun z hz => by simp only [Bool.not_eq_true', decide_eq_false_iff_not]; exact hxn z hz⟩
    unfold comN; rw [hf2]
theorem place_mid {c : Nat} : ∀ {xp post : List Nat}, (xp ++ c :: post).Nodup → placeN (xp ++ c :: post) c = Int.ofNat xp.length := fun {xp post} nd => by
  unfold placeN
  rw [if_pos (by simp)]
  congr 1
  have hx : c ∉ xp := fun h => (List.nodup_append.1 nd).2.2 c h c List.mem_cons_self rfl
  rw [List.findIdx_append]
  have h1 : xp.findIdx (fun x => x == c) = xp.length := by
    rw [List.findIdx_eq_length]
    intro x hx'
    have : x ≠ c := fun e => hx (e ▸ hx')
    simp [this]
  rw [h1, if_neg (Nat.lt_irrefl _)]
  simp [List.findIdx_cons]
theorem place_no {ns : List Nat} {g : Nat} (h : g ∉ ns) : placeN ns g = -1 := by unfold placeN; rw [if_neg h]
/-- a row of one's own, not empty -/
structure OW (h : H) (v : CV) (ns : List Nat) : Prop where
  pos : 0 < ns.length
  at_ : ∃ id c b, v = .sl id 0 ns.length c ∧ (c = .exact ns.length ∨ c = .opn 1) ∧ id < h.nx ∧ h.blk id = some b ∧ b.n = ns.length ∧ ∀ i x, ns[i]? = some x → b.get i = some (u64 x)
theorem OW.ext {h h' : H} {v : CV} {ns : List Nat} (O : OW h v ns) (E : Ext h h') : OW h' v ns := ⟨O.pos, by
  obtain ⟨id, c, b, h1, h2, h3, h4, h5⟩ := O.at_
  exact ⟨id, c, b, h1, h2, Nat.lt_of_lt_of_le h3 E.nx, (E.blk h3).trans h4, h5⟩⟩
theorem OW.ns {h : H} {v : CV} {ns : List Nat} (O : OW h v ns) : NS h v ns := by
  obtain ⟨id, c, b, rfl, _, h3, h4, _, h6⟩ := O.at_
  exact NS.cells h3 h4 fun i x hx => by rw [Nat.zero_add]; exact h6 i x hx
theorem EL.ow {h : H} {v : CV} {ns : List Nat} (B : EL h v ns) (hp : 0 < ns.length) : OW h v ns := by
  rcases B with ⟨rfl, _⟩ | ⟨id, b, rfl, h2, h3, h4, h5⟩
  · cases hp
  · exact ⟨hp, id, _, b, rfl, .inr rfl, h2, h3, h4, h5⟩
theorem OW.cut {h : H} {v : CV} {ns : List Nat} (O : OW h v ns) {k : Nat} (hk : k ≤ ns.length) : ∃ w, w.one = true ∧ beqC w w = true ∧ ∀ h', Ext h h' → sliceT Try.prog h' 34 v (some (.int .i64 (Int.ofNat k))) none none = some w ∧ NS h' w (ns.drop k) := by
  obtain ⟨id, c, b, rfl, hc, h3, h4, h5, h6⟩ := O.at_
  have hsz : szOf Try.prog 22 = some 1 := by kernel_rfl
  have hgd : ∀ i x, (ns.drop k)[i]? = some x → b.get (k + i) = some (u64 x) := fun i x hx => h6 _ x (by rw [← hx, List.getElem?_drop])
  have hlen : (ns.drop k).length = ns.length - k := List.length_drop
  have b1 : Nat.ble k ns.length = true := Nat.ble_eq.mpr hk
  have b2 : Nat.ble ns.length ns.length = true := Nat.ble_eq.mpr (Nat.le_refl _)
  rcases hc with rfl | rfl
  · refine ⟨.sl id (cond (Nat.beq ns.length k) 0 (0 + k * 1)) (ns.length - k) (.exact (ns.length - k)), rfl, by simp [beqC], fun h' E => ⟨?_, ?_⟩⟩
    · unfold sliceT
      rw [Try.underlying34]
      simp only [Option.bind_some, hsz, sliceExact, bnd, toN, b1, b2, Bool.and_self, Bool.true_and, Option.isNone_none, Bool.true_or]
      simp [toN, b1]
    · rw [← hlen]
      refine NS.cells (Nat.lt_of_lt_of_le h3 E.nx) ((E.blk h3).trans h4) fun i x hx => ?_
      have hi := (List.getElem?_eq_some_iff.1 hx).1
      have : Nat.beq ns.length k = false := by
        cases q : Nat.beq ns.length k with
        | false => rfl
        | true => have := Nat.eq_of_beq_eq_true q; omega
      rw [this, cond_false, Nat.zero_add, Nat.mul_one]
      exact hgd i x hx
  · have hcap : ∀ h', Ext h h' → capK h' id 0 1 = some ns.length := fun h' E => by unfold capK; rw [E.blk h3, h4]; simp [h5]
    by_cases hlt : k < ns.length
    · refine ⟨.sl id (0 + k * 1) (ns.length - k) (.opn 1), rfl, by simp [beqC], fun h' E => ⟨?_, ?_⟩⟩
      · unfold sliceT
        rw [Try.underlying34]
        have b3 : Nat.blt k ns.length = true := by rw [blt_eq']; exact decide_eq_true hlt
        simp only [Option.bind_some, hsz, hcap h' E, bnd]
        have b9 : Nat.blt 0 1 = true := rfl
        simp [toN, b1, b2, b3, b9]
      · rw [← hlen]
        exact NS.cells (Nat.lt_of_lt_of_le h3 E.nx) ((E.blk h3).trans h4) fun i x hx => by rw [Nat.zero_add, Nat.mul_one]; exact hgd i x hx
    · have hk' : k = ns.length := by omega
      subst hk'
      have hpos := O.pos
      have b3 : Nat.blt ns.length ns.length = false := by rw [blt_eq']; exact decide_eq_false (Nat.lt_irrefl _)
      have b4 : Nat.beq ns.length 0 = false := by
        cases q : Nat.beq ns.length 0 with
        | false => rfl
        | true => have := Nat.eq_of_beq_eq_true q; omega
      refine ⟨.slend id 0 ns.length 1, rfl, by simp [beqC], fun h' E => ⟨?_, ?_⟩⟩
      · unfold sliceT
        rw [Try.underlying34]
        simp only [Option.bind_some, hsz, hcap h' E, bnd]
        have b9 : Nat.blt 0 1 = true := rfl
        simp [toN, b2, b3, b4, b9]
      · rw [List.drop_length]; exact NS.none h' (.inr (.inl ⟨_, _, _, _, rfl⟩))
theorem EL.app {h : H} {v : CV} {ns : List Nat} (B : EL h v ns) (s : CV) : builtinT Try.prog h .append [34, 34] [s, v] = uv (appS h 1 8 1 s ns.length (some (uc ns))) := by
  rcases B with ⟨rfl, rfl⟩ | ⟨id, b, rfl, h2, h3, h4, h5⟩
  · rw [app_34_n, ap_34_n]; rfl
  · have hl : b.loadN 0 ns.length = some (uc ns) := loadN_of _ _ _ (by rw [uc_len]) fun i v hv => by
      rw [Nat.zero_add, NL.get h4 h5, hv]
    rw [app_34, ap_34, firstC_sl, h3, bind_some', Nat.mul_one, hl]
/-- one number, and a row behind it -/
theorem own_app {X : H} {v : CV} {ns : List Nat} {g sid : Nat} {sb : Blk} (B : EL X v ns) (hs : sid < X.nx) (hb : X.blk sid = some sb) (hn : sb.n = 1) (hg : sb.get 0 = some (u64 g)) (hl : ns.length ≤ 1000) :
    ∃ w X', builtinT Try.prog X .append [34, 34] [.sl sid 0 1 (.exact 1), v] = some (.upd w X') ∧ OW X' w (g :: ns) ∧ Ext X X' ∧ X'.low = X.low := by
  rw [B.app]
  have c1 : (Nat.ble ((1 + ns.length) * 8) 70368744177664) = true := Nat.ble_eq.mpr (by omega)
  have c2 : (Nat.ble (1 + ns.length) 70368744177664) = true := Nat.ble_eq.mpr (by omega)
  have c5 : Nat.beq (uc ns).length (ns.length * 1) = true := by rw [uc_len, Nat.mul_one]; exact Nat.beq_refl _
  cases ns with
  | nil =>
    refine ⟨.sl sid 0 1 (.exact 1), X, ?_, ⟨Nat.zero_lt_one, sid, _, sb, rfl, .inl rfl, hs, hb, hn, fun i x hx => ?_⟩, Ext.refl X, rfl⟩
    · rfl
    · cases i with
      | zero => simp at hx; subst hx; exact hg
      | succ i => simp at hx
  | cons n ns =>
    have hload : sb.loadN 0 (1 * 1) = some (uc [g]) := by
      show sb.loadN 0 1 = _
      simp [Blk.loadN, hg, uc]
    have c3 : Nat.ble (1 + (n :: ns).length) 1 = false := by
      cases q : Nat.ble (1 + (n :: ns).length) 1 with
      | false => rfl
      | true => have := Nat.ble_eq.mp q; rw [List.length_cons] at this; omega
    refine ⟨.sl X.nx 0 (g :: n :: ns).length (.opn 1), X.alloc (.cells (fillB ((1 + (n :: ns).length) * 1) (uc [g] ++ uc (n :: ns)))), ?_, ⟨by simp, X.nx, _, _, rfl, .inr rfl, by rw [alloc_nx]; omega, alloc_blk_same _ _ _ rfl, by rw [fillB_n]; simp; omega, fun i x hx => ?_⟩, Ext.alloc _ _, rfl⟩
    · unfold appS
      simp only [lenC, Option.bind_some, c1, c2, c3, c5, hb, hload, grown, uc_one]
      have b9 : Nat.blt 0 1 = true := rfl
      have e1 : 1 + (ns.length + 1) = ns.length + 1 + 1 := by omega
      simp [uv, b9, e1]
    · rw [fill_get (by rw [← uc_app, uc_len]; simp; omega), ← uc_app]
      show (uc (g :: n :: ns))[i]? = _
      unfold uc; rw [List.getElem?_map, hx]; rfl
end Go.Cl.U

namespace Go.Cl.U
set_option maxRecDepth 100000

theorem cellsOf_u64 : Try.prog.cellsOf 22 = 1 := by kernel_rfl
theorem cellsOf_hist : Try.prog.cellsOf 40 = 2 := by kernel_rfl
theorem cellsOf_line : Try.prog.cellsOf 42 = 4 := by kernel_rfl
theorem szOf_born : szOf Try.prog 50 = some 2 := by kernel_rfl
theorem un_of {h : H} {xs : List CV} (r : Rd Try.prog h 22 xs) : ∃ n : Nat, xs = [u64 n] := by
  obtain ⟨n, e, q1, _⟩ := r.int_inv Try.underlying22
  have q1 : 0 ≤ n := q1
  refine ⟨n.toNat, ?_⟩
  rw [e]; unfold u64; congr 2; simp; omega
theorem u64n_of {h : H} {c : CV} (a : Arg Try.prog h 22 c) : ∃ n : Nat, c = u64 n := by
  have h1 : c.one = true := by rcases a.one with ⟨_, h⟩ | ⟨_, _, h⟩ | h; rw [Try.underlying22] at h; cases h; rw [Try.underlying22] at h; cases h; exact h
  have r := a.rd
  rw [cells_one h1] at r
  obtain ⟨n, e⟩ := un_of r
  simp at e
  exact ⟨n, e⟩
theorem line_of {h : H} {c : CV} (a : Arg Try.prog h 42 c) : ∃ l : Ln, c = l.cv := by
  obtain ⟨hl, hf⟩ := a.rd.struct_inv Try.underlying42
  rw [cellsOf_line] at hl
  obtain ⟨az, rfl⟩ := agg_of (c := c) (by omega)
  simp only [cells_agg] at hl hf
  have h0 := hf _ (List.mem_cons_self)
  have h1 := hf _ (List.mem_cons_of_mem _ List.mem_cons_self)
  have h2 := hf _ (List.mem_cons_of_mem _ (List.mem_cons_of_mem _ List.mem_cons_self))
  simp only [cellsOf_u64, cellsOf_hist] at h0 h1 h2
  obtain ⟨_, ha⟩ := h2.array_inv Try.underlying40
  have a0 := ha 0 (by decide)
  have a1 := ha 1 (by decide)
  simp only [cellsOf_u64] at a0 a1
  obtain ⟨n0, e0⟩ := un_of h0
  obtain ⟨n1, e1⟩ := un_of h1
  obtain ⟨n2, e2⟩ := un_of a0
  obtain ⟨n3, e3⟩ := un_of a1
  match az, hl with
  | [x0, x1, x2, x3], _ =>
    simp at e0 e1 e2 e3
    subst e0 e1 e2 e3
    exact ⟨⟨n0, n1, n2, n3⟩, rfl⟩
theorem born_of {h : H} {c : CV} (a : Arg Try.prog h 23 c) : ∃ l : List (Nat × Nat), Sl Try.prog 23 h c 2 l.length (bcs l) := by
  have h1 : c.one = true := by rcases a.one with ⟨_, h⟩ | ⟨_, _, h⟩ | h; rw [Try.underlying23] at h; cases h; rw [Try.underlying23] at h; cases h; exact h
  have r := a.rd
  rw [cells_one h1] at r
  obtain ⟨n, xs, _, hx, hs⟩ := r.slice_inv Try.underlying23 szOf_born
  obtain ⟨l, hl, hq⟩ := list_of (Q := fun i (p : Nat × Nat) => xs i = [u64 p.1, u64 p.2]) n fun i hi => by
    obtain ⟨hlen, r⟩ := hx i hi
    obtain ⟨_, hf⟩ := r.struct_inv Try.underlying50
    have h0 := hf _ (List.mem_cons_self)
    have h1 := hf _ (List.mem_cons_of_mem _ List.mem_cons_self)
    simp only [cellsOf_u64] at h0 h1
    obtain ⟨n0, e0⟩ := un_of h0
    obtain ⟨n1, e1⟩ := un_of h1
    generalize xs i = ys at *
    match ys, hlen with
    | [y0, y1], _ =>
      simp at e0 e1
      subst e0 e1
      exact ⟨(n0, n1), rfl⟩
  subst hl
  refine ⟨l, hs _ fun i j x hi hj hn => ?_⟩
  obtain ⟨⟨p, c⟩, hg⟩ : ∃ g, l[i]? = some g := ⟨_, List.getElem?_eq_getElem hi⟩
  obtain ⟨g0, g1⟩ := bcs_get l i p c hg
  rw [hq i _ hg]
  match j, hj with
  | 0, _ => rw [g0] at hn; cases hn; rfl
  | 1, _ => rw [g1] at hn; cases hn; rfl
theorem tell_none {g : FuncId} {v : CV} : ∀ f a h, f ≠ g → tell g v f a h = none := tell_other
end Go.Cl.U

namespace Go.Cl.U
variable {σ : Sums}
set_option maxRecDepth 1000000
set_option maxHeartbeats 8000000

theorem num_run (hσ : ∀ f a h, f ≠ 9 → σ f a h = none) (h : H) (n : Int) : RetQ (.int .i64 n) ((lim Try.prog σ).call 11 [.int .i64 n] h) := by
  rw [call_eq (hσ _ _ _ (by decide)) fn_11 rfl rfl, Try.ntmps11, Try.results11]
  simp only [go_sem]
  exact congrArg some (fin_q _ _ _ rfl rfl)
theorem much_run (hσ : ∀ f a h, f ≠ 9 → σ f a h = none) {h : H} {v : CV} {n : Nat} (Alen : ∀ h' ts az, builtinT Try.prog h' .len (23 :: ts) (v :: az) = some (.val (.int .i64 (Int.ofNat n)))) : RetQ (.bool (decide (60 < n))) ((lim Try.prog σ).call 8 [v] h) := by
  have e : (Int.ofNat n > 60) = (60 < n) := propext ⟨fun q => by have : (n : Int) > 60 := q; omega, fun q => by show (n : Int) > 60; omega⟩
  rw [call_eq (hσ _ _ _ (by decide)) fn_8 rfl rfl, Try.ntmps8, Try.results8]
  by_cases q : 60 < n
  · have c : Int.ofNat n > 60 := by rw [e]; exact q
    simp only [go_sem, Alen, c, decide_eq_true q]
    exact congrArg some (fin_q _ _ _ rfl rfl)
  · have c : ¬ Int.ofNat n > 60 := by rw [e]; exact q
    simp only [go_sem, Alen, c, decide_eq_false q]
    exact congrArg some (fin_q _ _ _ rfl rfl)
theorem way_len' {es : List (Nat × Nat)} (G : Good es) : ∀ {ws : List Nat} {g : Nat}, Way es g ws → ws.length ≤ rk es g
  | [], g, W => Nat.zero_le _
  | w :: ws, g, W => by
    have hr := way_rk G W w List.mem_cons_self
    rcases W.split with ⟨_, h⟩ | ⟨h, ws1, e, W1⟩
    · cases h
    · cases e
      have := way_len' G W1
      rw [List.length_cons]; omega
theorem way_len {es : List (Nat × Nat)} (G : Good es) {g : Nat} {ws : List Nat} (W : Way es g ws) : ws.length ≤ es.length :=
  Nat.le_trans (way_len' G W) List.findIdx_le_length
theorem grow_len : ∀ (l es : List (Nat × Nat)), (growN es l).1 = 0 → (growN es l).2.length = es.length + l.length
  | [], es, _ => by simp [growN]
  | (p, c) :: l, es, h => by
    unfold growN at h ⊢
    by_cases h1 : c = 0 ∨ hasOf es c = true
    · rw [if_pos h1] at h; cases h
    · rw [if_neg h1] at h ⊢
      by_cases h2 : hasOf es p = false
      · rw [if_pos h2] at h; cases h
      · rw [if_neg h2] at h ⊢
        rw [grow_len l _ h]; simp; omega
theorem of_len {first : Nat} {l : List (Nat × Nat)} (h : (ofN first l).1 = 0) : (ofN first l).2.length = 1 + l.length := by
  unfold ofN at h ⊢
  by_cases hf : first = 0
  · rw [if_pos hf] at h; cases h
  · rw [if_neg hf] at h ⊢
    rw [grow_len l _ h]; simp
theorem gcommon_run (hσ : ∀ f a h, f ≠ 9 → σ f a h = none) (hk : ∀ h, (lim Try.prog σ).call 9 [] h = some (.bool true, none)) {h : H} {v : CV} {first a b : Nat} {l : List (Nat × Nat)} (A : RL h v l.length (bcs l)) :
    Tru ((lim Try.prog σ).call 3 [u64 first, v, u64 a, u64 b] h) := by
  obtain ⟨Q, hQ⟩ : ∃ Q : Option (CV × Option H) → Prop, Q = Tru := ⟨_, rfl⟩
  rw [← hQ]
  rw [call_eq (hσ _ _ _ (by decide)) fn_3 rfl rfl, Try.ntmps3, Try.results3]
  have mr : (lim Try.prog σ).call 8 [v] h.lo = some (.bool (decide (60 < l.length)), none) := much_run hσ A.len
  by_cases q0 : 60 < l.length
  · rw [decide_eq_true q0] at mr
    simp only [go_sem, mr, hk]
    rw [hQ]; exact tru_fin _ _
  rw [decide_eq_false q0] at mr
  have Or := of_run hσ (first := first) (A.ext (Ext.lo h)) (by omega) (by simp only [go_sem]; omega)
  rcases Or with ⟨hne, hr⟩ | ⟨h0, t, X, hr, T, XE, Xlow⟩
  · have nr : (lim Try.prog σ).call 11 [.int .i64 (Int.ofNat (ofN first l).1)] h.lo = some (.int .i64 (Int.ofNat (ofN first l).1), none) := num_run hσ _ _
    have c0 : ¬ Int.ofNat (ofN first l).1 = 0 := by simpa using hne
    simp only [go_sem, mr, hk, hr, nr, c0]
    rw [hQ]; exact tru_fin _ _
  have Xnx := XE.nx
  have Xlow : X.low = h.nx := by rw [Xlow]; simp only [go_sem]; omega
  have Xnx : h.nx ≤ X.nx := Xnx
  have nr : (lim Try.prog σ).call 11 [.int .i64 0] X = some (.int .i64 0, none) := num_run hσ X _
  have G := of_good h0
  have R := of_root h0
  have ol := of_len h0
  obtain ⟨es, hes⟩ : ∃ es, es = (ofN first l).2 := ⟨_, rfl⟩
  rw [← hes] at T G R ol
  obtain ⟨wa, Wa, _⟩ := way_ex G _ a (Nat.lt_succ_self _)
  obtain ⟨wb, Wb, _⟩ := way_ex G _ b (Nat.lt_succ_self _)
  have hwa9 : wa.length ≤ 900 := by have := way_len G Wa; omega
  have hwb9 : wb.length ≤ 900 := by have := way_len G Wb; omega
  have hwa : wa.length ≤ 1000 := by have := way_len G Wa; omega
  have hwb : wb.length ≤ 1000 := by have := way_len G Wb; omega
  obtain ⟨x1, e1, E1, l1⟩ := common_run hσ T Wa Wb (way_nodup G Wa) hwa hwb (by omega)
  obtain ⟨Y1, hY1⟩ : ∃ Y, Y = x1.getD X := ⟨_, rfl⟩
  rw [← hY1] at E1 l1
  have n1 := E1.nx
  obtain ⟨x2, e2, E2, l2⟩ := common_run hσ (T.ext E1) Wb Wa (way_nodup G Wb) hwb hwa (by omega)
  obtain ⟨Y2, hY2⟩ : ∃ Y, Y = x2.getD Y1 := ⟨_, rfl⟩
  rw [← hY2] at E2 l2
  have n2 := E2.nx
  have T2 := T.ext (E1.trans E2)
  have ha : (lim Try.prog σ).call 13 [.ptr t 0, u64 a] Y2 = some (.bool (hasOf es a), none) := has_run hσ T2 a
  have hb : (lim Try.prog σ).call 13 [.ptr t 0, u64 b] Y2 = some (.bool (hasOf es b), none) := has_run hσ T2 b
  obtain ⟨v3, x3, e3, E3, B3, l3⟩ := up_run hσ T2 Wa hwa (by omega)
  obtain ⟨Y3, hY3⟩ : ∃ Y, Y = x3.getD Y2 := ⟨_, rfl⟩
  rw [← hY3] at E3 B3 l3
  have n3 := E3.nx
  have T3 := T2.ext E3
  have B3l := B3.len
  have f00 : decide ((0 : Nat) = 0) = true := rfl
  by_cases hab : hasOf es a = true ∧ hasOf es b = true
  · obtain ⟨c, xp, yp, post, hx, hy, hc1, hc2, hxn⟩ := common_law G R Wa Wb hab.1 hab.2
    rw [if_pos hab, hc1] at e1
    rw [if_pos ⟨hab.2, hab.1⟩, hc2] at e2
    rw [hab.1] at ha
    rw [hab.2] at hb
    have dcc : decide (c = c) = true := decide_eq_true rfl
    simp only [go_sem, mr, hr, nr, e1, ← hY1, e2, ← hY2, ha, hb, ne64, f00, e3, ← hY3, B3l, dcc]
    rcases Wa.split with ⟨hp0, hw0⟩ | ⟨hpn, ws1, hw1, W1⟩
    · have c0 : ¬ Int.ofNat wa.length > 0 := by rw [hw0]; decide
      refine cnd_go (Q := Q) (by kernel_rfl) ?_
      simp only [go_sem, ← hY1, ← hY2, ← hY3, c0, B3l]
      obtain ⟨sb1, hsb1⟩ : ∃ sb : Blk, sb = ({ n := 1, d := [CV.int IntKind.u64 0], t := Cl.T.nil : Blk }.st 0 (u64 a)) := ⟨_, rfl⟩
      obtain ⟨S1, hS1⟩ : ∃ S, S = Y3.alloc (.cells sb1) := ⟨_, rfl⟩
      have S1nx : S1.nx = Y3.nx + 1 := by rw [hS1]; rfl
      have S1low : S1.low = Y3.low := by rw [hS1]; rfl
      have ES1 : Ext Y3 S1 := by rw [hS1]; exact (Ext.refl Y3).alloc' _
      have S1b : S1.blk Y3.nx = some sb1 := by rw [hS1]; exact alloc_blk_same _ _ _ rfl
      obtain ⟨ax, S2, hap, OX, ES2, lS2⟩ := own_app (g := a) (B3.ext ((Ext.refl Y3).trans ES1)) (by omega) S1b (by rw [hsb1]; rfl) (by rw [hsb1]; rfl) hwa
      obtain ⟨sb2, hsb2⟩ : ∃ sb : Blk, sb = ({ n := 1, d := [CV.int IntKind.u64 0], t := Cl.T.nil : Blk }.st 0 (u64 b)) := ⟨_, rfl⟩
      obtain ⟨S3, hS3⟩ : ∃ S, S = S2.alloc (.cells sb2) := ⟨_, rfl⟩
      have S3nx : S3.nx = S2.nx + 1 := by rw [hS3]; rfl
      have S3low : S3.low = S2.low := by rw [hS3]; rfl
      have ES3 : Ext S2 S3 := by rw [hS3]; exact (Ext.refl S2).alloc' _
      have S3b : S3.blk S2.nx = some sb2 := by rw [hS3]; exact alloc_blk_same _ _ _ rfl
      have m2 := ES2.nx
      obtain ⟨v5, x5, e5, E5, B5, l5⟩ := up_run hσ (T3.ext ((((Ext.refl Y3).trans ES1).trans ES2).trans ES3)) Wb hwb (by omega)
      obtain ⟨S4, hS4⟩ : ∃ Y, Y = x5.getD S3 := ⟨_, rfl⟩
      rw [← hS4] at E5 B5 l5
      have m5 := E5.nx
      obtain ⟨ay, S5, hap2, OY, ES5, lS5⟩ := own_app (g := b) B5 (sid := S2.nx) (by omega) ((E5.blk (by omega)).trans S3b) (by rw [hsb2]; rfl) (by rw [hsb2]; rfl) hwb
      have OX5 := OX.ext ((ES3.trans E5).trans ES5)
      have NX := OX5.ns
      have NY := OY.ns
      have pr1 : (lim Try.prog σ).call 16 [ax, u64 c] S5 = some (.int .i64 (Int.ofNat xp.length), none) := by
        have e0 : _ = _ := place_run hσ NX (by rw [List.length_cons]; omega) c
        have nd := way_nodup G Wa
        rw [hx] at nd
        rw [hx, place_mid nd] at e0
        exact e0
      have pr2 : (lim Try.prog σ).call 16 [ay, u64 c] S5 = some (.int .i64 (Int.ofNat yp.length), none) := by
        have e0 : _ = _ := place_run hσ NY (by rw [List.length_cons]; omega) c
        have nd := way_nodup G Wb
        rw [hy] at nd
        rw [hy, place_mid nd] at e0
        exact e0
      have i1 : ¬ Int.ofNat xp.length < 0 := by simp
      have i2 : ¬ Int.ofNat yp.length < 0 := by simp
      simp only [go_sem, ← hsb1, ← hS1, hap, ← hsb2, ← hS3, e5, ← hS4, hap2, pr1, pr2, i1, i2]
      have hxl : xp.length ≤ wa.length := by
        have := congrArg List.length hx
        simp at this; omega
      refine loop_ind (Q := Q) (fun n env h' => h' = S5 ∧ evT env 16 = ax ∧ evT env 17 = ay ∧ evT env 18 = .int .i64 (Int.ofNat xp.length) ∧ evT env 19 = .int .i64 (Int.ofNat yp.length) ∧ evT env 20 = .int .i64 (Int.ofNat n)) xp.length 0 ?_ (Nat.zero_le _) ?_ ?_
      · exact ⟨rfl, by simp only [go_sem], by simp only [go_sem], by simp only [go_sem], by simp only [go_sem], by simp only [go_sem]; rfl⟩
      · rintro n env h' ⟨rfl, g16, g17, g18, g19, g20⟩ hn next
        have k0 := ofNat_lt hn
        have k1 := wrap_succ (i := n) (by omega)
        obtain ⟨z, hz⟩ : ∃ z, xp[n]? = some z := ⟨_, List.getElem?_eq_getElem hn⟩
        have hz' : (a :: wa)[n]? = some z := by rw [hx, List.getElem?_append_left hn]; exact hz
        obtain ⟨zid, zo, zb, za, _, zbk, zg⟩ := NX.at_ n z hz'
        have pz : (lim Try.prog σ).call 16 [ay, u64 z] h' = some (.int .i64 (-1), none) := by
          have e0 : _ = _ := place_run hσ NY (by rw [List.length_cons]; omega) z
          rw [place_no (hxn z (List.mem_of_getElem? hz))] at e0
          exact e0
        simp only [go_sem, g16, g17, g18, g19, g20, k0, za, zbk, zg, pz, k1]
        exact next _ _ ⟨rfl, by simp only [go_sem, g16], by simp only [go_sem, g17], by simp only [go_sem, g18], by simp only [go_sem, g19], by simp only [go_sem, k1]⟩
      · rintro env h' ⟨rfl, g16, g17, g18, g19, g20⟩
        have k0 := ofNat_nlt (Nat.le_refl xp.length)
        obtain ⟨wx, wx1, wx2, hwx⟩ := OX5.cut (k := xp.length) (by rw [List.length_cons]; omega)
        have hyl : yp.length ≤ (b :: wb).length := by rw [hy]; simp
        obtain ⟨wy, wy1, wy2, hwy⟩ := OY.cut (k := yp.length) hyl
        have cx1 := (hwx h' (Ext.refl _)).1
        have cy1 := (hwy h' (Ext.refl _)).1
        have sm2 : (lim Try.prog σ).call 15 [wx, wy] h' = some (.bool true, none) := by
          have e0 : _ = _ := nsame_run hσ (hwx h' (Ext.refl _)).2 (hwy h' (Ext.refl _)).2 (by rw [List.length_drop, List.length_cons]; omega)
          have d1 : (a :: wa).drop xp.length = c :: post := by rw [hx]; simp
          have d2 : (b :: wb).drop yp.length = c :: post := by rw [hy]; simp
          rw [d1, d2, decide_eq_true rfl] at e0
          exact e0
        simp only [go_sem, g16, g17, g18, g19, g20, k0]
        refine cnd_go (Q := Q) (by kernel_rfl) ?_
        simp only [go_sem, g16, g17, g18, g19, g20, cx1, cy1, sm2, hk]
        rw [hQ]; exact tru_fin _ _
    · have c0 : Int.ofNat wa.length > 0 := by rw [hw1]; show (0 : Int) < _; simp
      obtain ⟨w, w1, w2, hw⟩ := (B3.ow (by rw [hw1]; simp)).cut (k := 1) (by rw [hw1]; simp)
      have hcut : ∀ h', Ext Y3 h' → sliceT Try.prog h' 34 v3 (some (.int .i64 1)) none none = some w := fun h' E => (hw h' E).1
      have hcut3 := hcut Y3 (Ext.refl _)
      obtain ⟨uid, ub, ei, uidlt, hub, hug⟩ := B3.at_ (i := 0) (x := parOf es a) (by rw [hw1]; rfl)
      have ei0 : indexAddrT Try.prog 34 v3 (.int .i64 0) = some (.ptr uid 0) := ei .i64
      obtain ⟨v4, x4, e4, E4, B4, l4⟩ := up_run hσ T3 W1 (by rw [hw1] at hwa; simp at hwa; omega) (by omega)
      obtain ⟨Y4, hY4⟩ : ∃ Y, Y = x4.getD Y3 := ⟨_, rfl⟩
      rw [← hY4] at E4 B4 l4
      have n4 := E4.nx
      have hcut4 := hcut Y4 E4
      have hub4 : Y4.blk uid = some ub := (E4.blk uidlt).trans hub
      have sm : (lim Try.prog σ).call 15 [w, v4] Y4 = some (.bool true, none) := by
        have e0 : _ = _ := nsame_run hσ (hw Y4 E4).2 B4.ns (by rw [List.length_drop]; omega)
        rw [hw1, List.drop_one, List.tail_cons, decide_eq_true rfl] at e0
        exact e0
      have hv3b := B3.beq
      have hv4b := B4.beq
      rcases x4 with _ | Y4'
      · have hYY : Y4 = Y3 := hY4
        subst hYY
        refine cnd_go (Q := Q) (by kernel_rfl) ?_
        simp only [go_sem, ← hY1, ← hY2, ← hY3, c0, B3l, hcut3, ei0, hub, hug, e4, sm]
        obtain ⟨sb1, hsb1⟩ : ∃ sb : Blk, sb = ({ n := 1, d := [CV.int IntKind.u64 0], t := Cl.T.nil : Blk }.st 0 (u64 a)) := ⟨_, rfl⟩
        obtain ⟨S1, hS1⟩ : ∃ S, S = Y4.alloc (.cells sb1) := ⟨_, rfl⟩
        have S1nx : S1.nx = Y4.nx + 1 := by rw [hS1]; rfl
        have S1low : S1.low = Y4.low := by rw [hS1]; rfl
        have ES1 : Ext Y4 S1 := by rw [hS1]; exact (Ext.refl Y4).alloc' _
        have S1b : S1.blk Y4.nx = some sb1 := by rw [hS1]; exact alloc_blk_same _ _ _ rfl
        obtain ⟨ax, S2, hap, OX, ES2, lS2⟩ := own_app (g := a) (B3.ext (E4.trans ES1)) (by omega) S1b (by rw [hsb1]; rfl) (by rw [hsb1]; rfl) hwa
        obtain ⟨sb2, hsb2⟩ : ∃ sb : Blk, sb = ({ n := 1, d := [CV.int IntKind.u64 0], t := Cl.T.nil : Blk }.st 0 (u64 b)) := ⟨_, rfl⟩
        obtain ⟨S3, hS3⟩ : ∃ S, S = S2.alloc (.cells sb2) := ⟨_, rfl⟩
        have S3nx : S3.nx = S2.nx + 1 := by rw [hS3]; rfl
        have S3low : S3.low = S2.low := by rw [hS3]; rfl
        have ES3 : Ext S2 S3 := by rw [hS3]; exact (Ext.refl S2).alloc' _
        have S3b : S3.blk S2.nx = some sb2 := by rw [hS3]; exact alloc_blk_same _ _ _ rfl
        have m2 := ES2.nx
        obtain ⟨v5, x5, e5, E5, B5, l5⟩ := up_run hσ (T3.ext (((E4.trans ES1).trans ES2).trans ES3)) Wb hwb (by omega)
        obtain ⟨S4, hS4⟩ : ∃ Y, Y = x5.getD S3 := ⟨_, rfl⟩
        rw [← hS4] at E5 B5 l5
        have m5 := E5.nx
        obtain ⟨ay, S5, hap2, OY, ES5, lS5⟩ := own_app (g := b) B5 (sid := S2.nx) (by omega) ((E5.blk (by omega)).trans S3b) (by rw [hsb2]; rfl) (by rw [hsb2]; rfl) hwb
        have OX5 := OX.ext ((ES3.trans E5).trans ES5)
        have NX := OX5.ns
        have NY := OY.ns
        have pr1 : (lim Try.prog σ).call 16 [ax, u64 c] S5 = some (.int .i64 (Int.ofNat xp.length), none) := by
          have e0 : _ = _ := place_run hσ NX (by rw [List.length_cons]; omega) c
          have nd := way_nodup G Wa
          rw [hx] at nd
          rw [hx, place_mid nd] at e0
          exact e0
        have pr2 : (lim Try.prog σ).call 16 [ay, u64 c] S5 = some (.int .i64 (Int.ofNat yp.length), none) := by
          have e0 : _ = _ := place_run hσ NY (by rw [List.length_cons]; omega) c
          have nd := way_nodup G Wb
          rw [hy] at nd
          rw [hy, place_mid nd] at e0
          exact e0
        have i1 : ¬ Int.ofNat xp.length < 0 := by simp
        have i2 : ¬ Int.ofNat yp.length < 0 := by simp
        simp only [go_sem, ← hsb1, ← hS1, hap, ← hsb2, ← hS3, e5, ← hS4, hap2, pr1, pr2, i1, i2]
        have hxl : xp.length ≤ wa.length := by
          have := congrArg List.length hx
          simp at this; omega
        refine loop_ind (Q := Q) (fun n env h' => h' = S5 ∧ evT env 16 = ax ∧ evT env 17 = ay ∧ evT env 18 = .int .i64 (Int.ofNat xp.length) ∧ evT env 19 = .int .i64 (Int.ofNat yp.length) ∧ evT env 20 = .int .i64 (Int.ofNat n)) xp.length 0 ?_ (Nat.zero_le _) ?_ ?_
        · exact ⟨rfl, by simp only [go_sem], by simp only [go_sem], by simp only [go_sem], by simp only [go_sem], by simp only [go_sem]; rfl⟩
        · rintro n env h' ⟨rfl, g16, g17, g18, g19, g20⟩ hn next
          have k0 := ofNat_lt hn
          have k1 := wrap_succ (i := n) (by omega)
          obtain ⟨z, hz⟩ : ∃ z, xp[n]? = some z := ⟨_, List.getElem?_eq_getElem hn⟩
          have hz' : (a :: wa)[n]? = some z := by rw [hx, List.getElem?_append_left hn]; exact hz
          obtain ⟨zid, zo, zb, za, _, zbk, zg⟩ := NX.at_ n z hz'
          have pz : (lim Try.prog σ).call 16 [ay, u64 z] h' = some (.int .i64 (-1), none) := by
            have e0 : _ = _ := place_run hσ NY (by rw [List.length_cons]; omega) z
            rw [place_no (hxn z (List.mem_of_getElem? hz))] at e0
            exact e0
          simp only [go_sem, g16, g17, g18, g19, g20, k0, za, zbk, zg, pz, k1]
          exact next _ _ ⟨rfl, by simp only [go_sem, g16], by simp only [go_sem, g17], by simp only [go_sem, g18], by simp only [go_sem, g19], by simp only [go_sem, k1]⟩
        · rintro env h' ⟨rfl, g16, g17, g18, g19, g20⟩
          have k0 := ofNat_nlt (Nat.le_refl xp.length)
          obtain ⟨wx, wx1, wx2, hwx⟩ := OX5.cut (k := xp.length) (by rw [List.length_cons]; omega)
          have hyl : yp.length ≤ (b :: wb).length := by rw [hy]; simp
          obtain ⟨wy, wy1, wy2, hwy⟩ := OY.cut (k := yp.length) hyl
          have cx1 := (hwx h' (Ext.refl _)).1
          have cy1 := (hwy h' (Ext.refl _)).1
          have sm2 : (lim Try.prog σ).call 15 [wx, wy] h' = some (.bool true, none) := by
            have e0 : _ = _ := nsame_run hσ (hwx h' (Ext.refl _)).2 (hwy h' (Ext.refl _)).2 (by rw [List.length_drop, List.length_cons]; omega)
            have d1 : (a :: wa).drop xp.length = c :: post := by rw [hx]; simp
            have d2 : (b :: wb).drop yp.length = c :: post := by rw [hy]; simp
            rw [d1, d2, decide_eq_true rfl] at e0
            exact e0
          simp only [go_sem, g16, g17, g18, g19, g20, k0]
          refine cnd_go (Q := Q) (by kernel_rfl) ?_
          simp only [go_sem, g16, g17, g18, g19, g20, cx1, cy1, sm2, hk]
          rw [hQ]; exact tru_fin _ _
      · have hYY : Y4 = Y4' := hY4
        subst hYY
        refine cnd_go (Q := Q) (by kernel_rfl) ?_
        simp only [go_sem, ← hY1, ← hY2, ← hY3, c0, B3l, hcut3, hcut4, ei0, hub, hub4, hug, e4, sm]
        refine cnd_go (Q := Q) (by kernel_rfl) ?_
        simp only [go_sem, ← hY1, ← hY2, ← hY3, c0, B3l, hcut3, hcut4, ei0, hub, hub4, hug, e4, sm, w2, hv3b, hv4b]
        rw [cond_al (i := 11) (d := [])]
        rotate_left
        · kernel_rfl
        simp only [go_sem, ← hY1, ← hY2, ← hY3, c0, B3l, hcut3, hcut4, ei0, hub, hub4, hug, e4, sm, w2, hv3b, hv4b]
        obtain ⟨sb1, hsb1⟩ : ∃ sb : Blk, sb = ({ n := 1, d := [CV.int IntKind.u64 0], t := Cl.T.nil : Blk }.st 0 (u64 a)) := ⟨_, rfl⟩
        obtain ⟨S1, hS1⟩ : ∃ S, S = Y4.alloc (.cells sb1) := ⟨_, rfl⟩
        have S1nx : S1.nx = Y4.nx + 1 := by rw [hS1]; rfl
        have S1low : S1.low = Y4.low := by rw [hS1]; rfl
        have ES1 : Ext Y4 S1 := by rw [hS1]; exact (Ext.refl Y4).alloc' _
        have S1b : S1.blk Y4.nx = some sb1 := by rw [hS1]; exact alloc_blk_same _ _ _ rfl
        obtain ⟨ax, S2, hap, OX, ES2, lS2⟩ := own_app (g := a) (B3.ext (E4.trans ES1)) (by omega) S1b (by rw [hsb1]; rfl) (by rw [hsb1]; rfl) hwa
        obtain ⟨sb2, hsb2⟩ : ∃ sb : Blk, sb = ({ n := 1, d := [CV.int IntKind.u64 0], t := Cl.T.nil : Blk }.st 0 (u64 b)) := ⟨_, rfl⟩
        obtain ⟨S3, hS3⟩ : ∃ S, S = S2.alloc (.cells sb2) := ⟨_, rfl⟩
        have S3nx : S3.nx = S2.nx + 1 := by rw [hS3]; rfl
        have S3low : S3.low = S2.low := by rw [hS3]; rfl
        have ES3 : Ext S2 S3 := by rw [hS3]; exact (Ext.refl S2).alloc' _
        have S3b : S3.blk S2.nx = some sb2 := by rw [hS3]; exact alloc_blk_same _ _ _ rfl
        have m2 := ES2.nx
        obtain ⟨v5, x5, e5, E5, B5, l5⟩ := up_run hσ (T3.ext (((E4.trans ES1).trans ES2).trans ES3)) Wb hwb (by omega)
        obtain ⟨S4, hS4⟩ : ∃ Y, Y = x5.getD S3 := ⟨_, rfl⟩
        rw [← hS4] at E5 B5 l5
        have m5 := E5.nx
        obtain ⟨ay, S5, hap2, OY, ES5, lS5⟩ := own_app (g := b) B5 (sid := S2.nx) (by omega) ((E5.blk (by omega)).trans S3b) (by rw [hsb2]; rfl) (by rw [hsb2]; rfl) hwb
        have OX5 := OX.ext ((ES3.trans E5).trans ES5)
        have NX := OX5.ns
        have NY := OY.ns
        have pr1 : (lim Try.prog σ).call 16 [ax, u64 c] S5 = some (.int .i64 (Int.ofNat xp.length), none) := by
          have e0 : _ = _ := place_run hσ NX (by rw [List.length_cons]; omega) c
          have nd := way_nodup G Wa
          rw [hx] at nd
          rw [hx, place_mid nd] at e0
          exact e0
        have pr2 : (lim Try.prog σ).call 16 [ay, u64 c] S5 = some (.int .i64 (Int.ofNat yp.length), none) := by
          have e0 : _ = _ := place_run hσ NY (by rw [List.length_cons]; omega) c
          have nd := way_nodup G Wb
          rw [hy] at nd
          rw [hy, place_mid nd] at e0
          exact e0
        have i1 : ¬ Int.ofNat xp.length < 0 := by simp
        have i2 : ¬ Int.ofNat yp.length < 0 := by simp
        simp only [go_sem, ← hsb1, ← hS1, hap, ← hsb2, ← hS3, e5, ← hS4, hap2, pr1, pr2, i1, i2]
        have hxl : xp.length ≤ wa.length := by
          have := congrArg List.length hx
          simp at this; omega
        refine loop_ind (Q := Q) (fun n env h' => h' = S5 ∧ evT env 16 = ax ∧ evT env 17 = ay ∧ evT env 18 = .int .i64 (Int.ofNat xp.length) ∧ evT env 19 = .int .i64 (Int.ofNat yp.length) ∧ evT env 20 = .int .i64 (Int.ofNat n)) xp.length 0 ?_ (Nat.zero_le _) ?_ ?_
        · exact ⟨rfl, by simp only [go_sem], by simp only [go_sem], by simp only [go_sem], by simp only [go_sem], by simp only [go_sem]; rfl⟩
        · rintro n env h' ⟨rfl, g16, g17, g18, g19, g20⟩ hn next
          have k0 := ofNat_lt hn
          have k1 := wrap_succ (i := n) (by omega)
          obtain ⟨z, hz⟩ : ∃ z, xp[n]? = some z := ⟨_, List.getElem?_eq_getElem hn⟩
          have hz' : (a :: wa)[n]? = some z := by rw [hx, List.getElem?_append_left hn]; exact hz
          obtain ⟨zid, zo, zb, za, _, zbk, zg⟩ := NX.at_ n z hz'
          have pz : (lim Try.prog σ).call 16 [ay, u64 z] h' = some (.int .i64 (-1), none) := by
            have e0 : _ = _ := place_run hσ NY (by rw [List.length_cons]; omega) z
            rw [place_no (hxn z (List.mem_of_getElem? hz))] at e0
            exact e0
          simp only [go_sem, g16, g17, g18, g19, g20, k0, za, zbk, zg, pz, k1]
          exact next _ _ ⟨rfl, by simp only [go_sem, g16], by simp only [go_sem, g17], by simp only [go_sem, g18], by simp only [go_sem, g19], by simp only [go_sem, k1]⟩
        · rintro env h' ⟨rfl, g16, g17, g18, g19, g20⟩
          have k0 := ofNat_nlt (Nat.le_refl xp.length)
          obtain ⟨wx, wx1, wx2, hwx⟩ := OX5.cut (k := xp.length) (by rw [List.length_cons]; omega)
          have hyl : yp.length ≤ (b :: wb).length := by rw [hy]; simp
          obtain ⟨wy, wy1, wy2, hwy⟩ := OY.cut (k := yp.length) hyl
          have cx1 := (hwx h' (Ext.refl _)).1
          have cy1 := (hwy h' (Ext.refl _)).1
          have sm2 : (lim Try.prog σ).call 15 [wx, wy] h' = some (.bool true, none) := by
            have e0 : _ = _ := nsame_run hσ (hwx h' (Ext.refl _)).2 (hwy h' (Ext.refl _)).2 (by rw [List.length_drop, List.length_cons]; omega)
            have d1 : (a :: wa).drop xp.length = c :: post := by rw [hx]; simp
            have d2 : (b :: wb).drop yp.length = c :: post := by rw [hy]; simp
            rw [d1, d2, decide_eq_true rfl] at e0
            exact e0
          simp only [go_sem, g16, g17, g18, g19, g20, k0]
          refine cnd_go (Q := Q) (by kernel_rfl) ?_
          simp only [go_sem, g16, g17, g18, g19, g20, cx1, cy1, sm2, hk]
          rw [hQ]; exact tru_fin _ _
  · rw [if_neg hab] at e1
    rw [if_neg (fun q => hab ⟨q.2, q.1⟩)] at e2
    cases q1 : hasOf es a with
    | false =>
      rw [q1] at ha
      simp only [go_sem, mr, hr, nr, e1, ← hY1, e2, ← hY2, ha, hb, ne64, f00, e3, ← hY3, B3l]
      rcases Wa.split with ⟨hp0, hw0⟩ | ⟨hpn, ws1, hw1, W1⟩
      · have c0 : ¬ Int.ofNat wa.length > 0 := by rw [hw0]; decide
        refine cnd_go (Q := Q) (by kernel_rfl) ?_
        simp only [go_sem, ← hY1, ← hY2, ← hY3, c0, B3l]
        try simp only [go_sem, hk]
        rw [hQ]; exact tru_fin _ _
      · have c0 : Int.ofNat wa.length > 0 := by rw [hw1]; show (0 : Int) < _; simp
        obtain ⟨w, w1, w2, hw⟩ := (B3.ow (by rw [hw1]; simp)).cut (k := 1) (by rw [hw1]; simp)
        have hcut : ∀ h', Ext Y3 h' → sliceT Try.prog h' 34 v3 (some (.int .i64 1)) none none = some w := fun h' E => (hw h' E).1
        have hcut3 := hcut Y3 (Ext.refl _)
        obtain ⟨uid, ub, ei, uidlt, hub, hug⟩ := B3.at_ (i := 0) (x := parOf es a) (by rw [hw1]; rfl)
        have ei0 : indexAddrT Try.prog 34 v3 (.int .i64 0) = some (.ptr uid 0) := ei .i64
        obtain ⟨v4, x4, e4, E4, B4, l4⟩ := up_run hσ T3 W1 (by rw [hw1] at hwa; simp at hwa; omega) (by omega)
        obtain ⟨Y4, hY4⟩ : ∃ Y, Y = x4.getD Y3 := ⟨_, rfl⟩
        rw [← hY4] at E4 B4 l4
        have n4 := E4.nx
        have hcut4 := hcut Y4 E4
        have hub4 : Y4.blk uid = some ub := (E4.blk uidlt).trans hub
        have sm : (lim Try.prog σ).call 15 [w, v4] Y4 = some (.bool true, none) := by
          have e0 : _ = _ := nsame_run hσ (hw Y4 E4).2 B4.ns (by rw [List.length_drop]; omega)
          rw [hw1, List.drop_one, List.tail_cons, decide_eq_true rfl] at e0
          exact e0
        have hv3b := B3.beq
        have hv4b := B4.beq
        rcases x4 with _ | Y4'
        · have hYY : Y4 = Y3 := hY4
          subst hYY
          refine cnd_go (Q := Q) (by kernel_rfl) ?_
          simp only [go_sem, ← hY1, ← hY2, ← hY3, c0, B3l, hcut3, ei0, hub, hug, e4, sm]
          try simp only [go_sem, hk]
          rw [hQ]; exact tru_fin _ _
        · have hYY : Y4 = Y4' := hY4
          subst hYY
          refine cnd_go (Q := Q) (by kernel_rfl) ?_
          simp only [go_sem, ← hY1, ← hY2, ← hY3, c0, B3l, hcut3, hcut4, ei0, hub, hub4, hug, e4, sm]
          refine cnd_go (Q := Q) (by kernel_rfl) ?_
          simp only [go_sem, ← hY1, ← hY2, ← hY3, c0, B3l, hcut3, hcut4, ei0, hub, hub4, hug, e4, sm, w2, hv3b, hv4b]
          rw [cond_al (i := 11) (d := [])]
          rotate_left
          · kernel_rfl
          simp only [go_sem, ← hY1, ← hY2, ← hY3, c0, B3l, hcut3, hcut4, ei0, hub, hub4, hug, e4, sm, w2, hv3b, hv4b]
          try simp only [go_sem, hk]
          rw [hQ]; exact tru_fin _ _
    | true =>
      rw [q1] at ha
      cases q2 : hasOf es b with
      | true => exact absurd ⟨q1, q2⟩ hab
      | false =>
        rw [q2] at hb
        simp only [go_sem, mr, hr, nr, e1, ← hY1, e2, ← hY2, ha, hb, ne64, f00, e3, ← hY3, B3l]
        rcases Wa.split with ⟨hp0, hw0⟩ | ⟨hpn, ws1, hw1, W1⟩
        · have c0 : ¬ Int.ofNat wa.length > 0 := by rw [hw0]; decide
          refine cnd_go (Q := Q) (by kernel_rfl) ?_
          simp only [go_sem, ← hY1, ← hY2, ← hY3, c0, B3l]
          try simp only [go_sem, hk]
          rw [hQ]; exact tru_fin _ _
        · have c0 : Int.ofNat wa.length > 0 := by rw [hw1]; show (0 : Int) < _; simp
          obtain ⟨w, w1, w2, hw⟩ := (B3.ow (by rw [hw1]; simp)).cut (k := 1) (by rw [hw1]; simp)
          have hcut : ∀ h', Ext Y3 h' → sliceT Try.prog h' 34 v3 (some (.int .i64 1)) none none = some w := fun h' E => (hw h' E).1
          have hcut3 := hcut Y3 (Ext.refl _)
          obtain ⟨uid, ub, ei, uidlt, hub, hug⟩ := B3.at_ (i := 0) (x := parOf es a) (by rw [hw1]; rfl)
          have ei0 : indexAddrT Try.prog 34 v3 (.int .i64 0) = some (.ptr uid 0) := ei .i64
          obtain ⟨v4, x4, e4, E4, B4, l4⟩ := up_run hσ T3 W1 (by rw [hw1] at hwa; simp at hwa; omega) (by omega)
          obtain ⟨Y4, hY4⟩ : ∃ Y, Y = x4.getD Y3 := ⟨_, rfl⟩
          rw [← hY4] at E4 B4 l4
          have n4 := E4.nx
          have hcut4 := hcut Y4 E4
          have hub4 : Y4.blk uid = some ub := (E4.blk uidlt).trans hub
          have sm : (lim Try.prog σ).call 15 [w, v4] Y4 = some (.bool true, none) := by
            have e0 : _ = _ := nsame_run hσ (hw Y4 E4).2 B4.ns (by rw [List.length_drop]; omega)
            rw [hw1, List.drop_one, List.tail_cons, decide_eq_true rfl] at e0
            exact e0
          have hv3b := B3.beq
          have hv4b := B4.beq
          rcases x4 with _ | Y4'
          · have hYY : Y4 = Y3 := hY4
            subst hYY
            refine cnd_go (Q := Q) (by kernel_rfl) ?_
            simp only [go_sem, ← hY1, ← hY2, ← hY3, c0, B3l, hcut3, ei0, hub, hug, e4, sm]
            try simp only [go_sem, hk]
            rw [hQ]; exact tru_fin _ _
          · have hYY : Y4 = Y4' := hY4
            subst hYY
            refine cnd_go (Q := Q) (by kernel_rfl) ?_
            simp only [go_sem, ← hY1, ← hY2, ← hY3, c0, B3l, hcut3, hcut4, ei0, hub, hub4, hug, e4, sm]
            refine cnd_go (Q := Q) (by kernel_rfl) ?_
            simp only [go_sem, ← hY1, ← hY2, ← hY3, c0, B3l, hcut3, hcut4, ei0, hub, hub4, hug, e4, sm, w2, hv3b, hv4b]
            rw [cond_al (i := 11) (d := [])]
            rotate_left
            · kernel_rfl
            simp only [go_sem, ← hY1, ← hY2, ← hY3, c0, B3l, hcut3, hcut4, ei0, hub, hub4, hug, e4, sm, w2, hv3b, hv4b]
            try simp only [go_sem, hk]
            rw [hQ]; exact tru_fin _ _
end Go.Cl.U
