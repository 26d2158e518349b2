/- The program's functions, run by the rewriting evaluator: what each answers and leaves (DkE). -/
import Derived.Test.YtadmgnlmoodjeaaProg
import Derived.KernelRfl
import Derived.Test.YtadmgnlmoodjeaaDkD
set_option linter.all false
open Go Go.Cl Go.Proofs
namespace Go.Proofs
open Go.RowKit Go.Maps Go.Sort Go.Shelf
def Try.keysA_ren : Go.Shelf.Ren := ⟨fun | 7 => 27 | 10 => 34 | n => n, fun | 23 => 46 | 26 => 3 | 3 => 30 | 28 => 56 | 0 => 0 | 27 => 55 | 33 => 61 | 4 => 4 | n => n, fun | n => n⟩
theorem Try.keysA : Go.Proofs.SlLaysZI.n7 Try.prog Try.keysA_ren := {
  mixed := by kernel_rfl
  f7 := ⟨Try.f27.name, by decide, Try.func27.trans (congrArg some (by kernel_rfl))⟩
  f10 := ⟨Try.f34.name, by decide, Try.func34.trans (congrArg some (by kernel_rfl))⟩
  t0 := Try.underlying0
  a0 := Try.isAgg0
  z0 := Try.sizeOf0
  v0 := Try.zeroValue0
  t4 := Try.underlying4
  a4 := Try.isAgg4
  z4 := Try.sizeOf4
  v4 := Try.zeroValue4
  t23 := Try.underlying46
  a23 := Try.isAgg46
  z23 := Try.sizeOf46
  v23 := Try.zeroValue46
  t26 := Try.underlying3
  a26 := Try.isAgg3
  z26 := Try.sizeOf3
  v26 := Try.zeroValue3
  t27 := Try.underlying55
  a27 := Try.isAgg55
  z27 := Try.sizeOf55
  v27 := Try.zeroValue55
  t28 := Try.underlying56
  a28 := Try.isAgg56
  z28 := Try.sizeOf56
  v28 := Try.zeroValue56
  t33 := Try.underlying61
  a33 := Try.isAgg61
  z33 := Try.sizeOf61
  v33 := Try.zeroValue61 }
def Try.sortedA_ren : Go.Shelf.Ren := ⟨fun | 6 => 26 | 8 => 32 | 9 => 33 | 11 => 35 | 13 => 37 | 12 => 36 | 23 => 47 | 24 => 48 | 14 => 38 | 15 => 39 | 16 => 40 | 17 => 41 | 18 => 42 | 19 => 43 | 20 => 44 | 21 => 45 | 22 => 46 | 25 => 49 | 26 => 50 | 27 => 51 | 28 => 52 | 29 => 53 | 30 => 54 | 31 => 55 | n => n, fun | 26 => 3 | 28 => 56 | 24 => 23 | 0 => 0 | 3 => 3 | 37 => 65 | 48 => 76 | 50 => 78 | 4 => 4 | 40 => 68 | 39 => 67 | 45 => 73 | 5 => 5 | 9 => 9 | 51 => 79 | 55 => 83 | 57 => 85 | 58 => 86 | 33 => 61 | n => n, fun | n => n⟩
theorem Try.sortedA : Go.Proofs.SlLaysZI.n6 Try.prog Try.sortedA_ren := {
  mixed := by kernel_rfl
  f6 := ⟨Try.f26.name, by decide, Try.func26.trans (congrArg some (by kernel_rfl))⟩
  f8 := ⟨Try.f32.name, by decide, Try.func32.trans (congrArg some (by kernel_rfl))⟩
  f11 := ⟨Try.f35.name, by decide, Try.func35.trans (congrArg some (by kernel_rfl))⟩
  t0 := Try.underlying0
  a0 := Try.isAgg0
  z0 := Try.sizeOf0
  v0 := Try.zeroValue0
  t24 := Try.underlying23
  a24 := Try.isAgg23
  z24 := Try.sizeOf23
  v24 := Try.zeroValue23
  t26 := Try.underlying3
  a26 := Try.isAgg3
  z26 := Try.sizeOf3
  v26 := Try.zeroValue3
  t28 := Try.underlying56
  a28 := Try.isAgg56
  z28 := Try.sizeOf56
  v28 := Try.zeroValue56
  i26 := by kernel_rfl }
def Try.sortA_ren : Go.Shelf.Ren := ⟨fun | 5 => 33 | 8 => 37 | 7 => 36 | 19 => 47 | 20 => 48 | 10 => 38 | 11 => 39 | 12 => 40 | 13 => 41 | 14 => 42 | 15 => 43 | 16 => 44 | 17 => 45 | 18 => 46 | 30 => 49 | 31 => 50 | 32 => 51 | 33 => 52 | 34 => 53 | 35 => 54 | 40 => 55 | n => n, fun | 23 => 23 | 25 => 3 | 3 => 3 | 32 => 65 | 22 => 23 | 0 => 0 | 44 => 76 | 46 => 78 | 4 => 4 | 36 => 68 | 35 => 67 | 41 => 73 | 5 => 5 | 9 => 9 | 53 => 79 | 57 => 83 | 63 => 85 | 64 => 86 | n => n, fun | n => n⟩
theorem Try.sortA : Go.Proofs.SlLaysM.n5 Try.prog Try.sortA_ren := {
  mixed := by kernel_rfl
  f5 := ⟨Try.f33.name, by decide, Try.func33.trans (congrArg some (by kernel_rfl))⟩
  f7 := ⟨Try.f36.name, by decide, Try.func36.trans (congrArg some (by kernel_rfl))⟩
  f8 := Try.func37.trans (congrArg some (by kernel_rfl))
  f10 := ⟨Try.f38.name, by decide, Try.func38.trans (congrArg some (by kernel_rfl))⟩
  f11 := ⟨Try.f39.name, by decide, Try.func39.trans (congrArg some (by kernel_rfl))⟩
  f12 := ⟨Try.f40.name, by decide, Try.func40.trans (congrArg some (by kernel_rfl))⟩
  f13 := ⟨Try.f41.name, by decide, Try.func41.trans (congrArg some (by kernel_rfl))⟩
  f14 := ⟨Try.f42.name, by decide, Try.func42.trans (congrArg some (by kernel_rfl))⟩
  f15 := ⟨Try.f43.name, by decide, Try.func43.trans (congrArg some (by kernel_rfl))⟩
  f16 := ⟨Try.f44.name, by decide, Try.func44.trans (congrArg some (by kernel_rfl))⟩
  f17 := ⟨Try.f45.name, by decide, Try.func45.trans (congrArg some (by kernel_rfl))⟩
  f18 := ⟨Try.f46.name, by decide, Try.func46.trans (congrArg some (by kernel_rfl))⟩
  f19 := Try.func47.trans (congrArg some (by kernel_rfl))
  f20 := Try.func48.trans (congrArg some (by kernel_rfl))
  f30 := ⟨Try.f49.name, by decide, Try.func49.trans (congrArg some (by kernel_rfl))⟩
  f31 := Try.func50.trans (congrArg some (by kernel_rfl))
  f32 := Try.func51.trans (congrArg some (by kernel_rfl))
  f33 := ⟨Try.f52.name, by decide, Try.func52.trans (congrArg some (by kernel_rfl))⟩
  f34 := ⟨Try.f53.name, by decide, Try.func53.trans (congrArg some (by kernel_rfl))⟩
  f35 := ⟨Try.f54.name, by decide, Try.func54.trans (congrArg some (by kernel_rfl))⟩
  f40 := ⟨Try.f55.name, by decide, Try.func55.trans (congrArg some (by kernel_rfl))⟩
  t0 := Try.underlying0
  a0 := Try.isAgg0
  z0 := Try.sizeOf0
  v0 := Try.zeroValue0
  t3 := Try.underlying3
  a3 := Try.isAgg3
  z3 := Try.sizeOf3
  v3 := Try.zeroValue3
  t4 := Try.underlying4
  a4 := Try.isAgg4
  z4 := Try.sizeOf4
  v4 := Try.zeroValue4
  t5 := Try.underlying5
  a5 := Try.isAgg5
  z5 := Try.sizeOf5
  v5 := Try.zeroValue5
  t9 := Try.underlying9
  a9 := Try.isAgg9
  z9 := Try.sizeOf9
  v9 := Try.zeroValue9
  t22 := Try.underlying23
  a22 := Try.isAgg23
  z22 := Try.sizeOf23
  v22 := Try.zeroValue23
  t23 := Try.underlying23
  a23 := Try.isAgg23
  z23 := Try.sizeOf23
  v23 := Try.zeroValue23
  t25 := Try.underlying3
  a25 := Try.isAgg3
  z25 := Try.sizeOf3
  v25 := Try.zeroValue3
  t32 := Try.underlying65
  a32 := Try.isAgg65
  z32 := Try.sizeOf65
  v32 := Try.zeroValue65
  t35 := Try.underlying67
  a35 := Try.isAgg67
  z35 := Try.sizeOf67
  v35 := Try.zeroValue67
  t36 := Try.underlying68
  a36 := Try.isAgg68
  z36 := Try.sizeOf68
  v36 := Try.zeroValue68
  t41 := Try.underlying73
  a41 := Try.isAgg73
  z41 := Try.sizeOf73
  v41 := Try.zeroValue73
  t44 := Try.underlying76
  a44 := Try.isAgg76
  z44 := Try.sizeOf76
  v44 := Try.zeroValue76
  t46 := Try.underlying78
  a46 := Try.isAgg78
  z46 := Try.sizeOf78
  v46 := Try.zeroValue78
  t53 := Try.underlying79
  a53 := Try.isAgg79
  z53 := Try.sizeOf79
  v53 := Try.zeroValue79
  t57 := Try.underlying83
  a57 := Try.isAgg83
  z57 := Try.sizeOf83
  v57 := Try.zeroValue83
  t63 := Try.underlying85
  a63 := Try.isAgg85
  z63 := Try.sizeOf85
  v63 := Try.zeroValue85
  t64 := Try.underlying86
  a64 := Try.isAgg86
  z64 := Try.sizeOf86
  v64 := Try.zeroValue86 }
end Go.Proofs

namespace Go.Cl.So
open Go.RowKit Go.Maps Go.Sort Go.Shelf
set_option maxRecDepth 1000000

theorem sorts (m : Nat) : AnyZI.SortsIn Try.prog Try.sortedA_ren Fence.wide m :=
  ⟨fun blk off cap ss W hH hblk hsz => callsIn_wide.2 (AnyM.slices_Sort_int Try.sortA blk off cap ss W hH hblk hsz),
   fun p cap W => callsIn_wide.2 (AnyM.slices_Sort_int_none Try.sortA p cap W)⟩

set_option maxHeartbeats 2000000 in
theorem open_some {w : World} {b o m n : Nat} {ks : List Int} {S : World → Prop}
    (hn : CallsIn Fence.wide 5 Try.prog 24 #[.pointer (some ⟨b, o, none⟩)] w fun e w' => e = .returned (.bool false) ∧ S w' ∧ w'.cell? ⟨b, o + 1, none⟩ = some (.map (some m)) ∧ ∃ D : DataW Unit, w'.ownsMap Try.prog 3 rdAny m n D ∧ (intKeys D).Perm ks ∧ Maps.size D = n)
    (hl : n ≤ 1000000) :
    CallsIn Fence.wide 6 Try.prog 12 #[.pointer (some ⟨b, o, none⟩)] w fun e w' => ∃ w1, S w1 ∧ Keeps w1 w' ∧
      ((ks = [] ∧ e = .returned (.slice none 0 0)) ∨
       (ks ≠ [] ∧ ∃ g cap cur t, e = .returned (.slice (some ⟨g, 0, none⟩) ks.length cap) ∧ w1.heap.size ≤ g ∧ w'.heap[g]? = some (.cells cur t (0, 0)) ∧ ks.length ≤ cap ∧ cap ≤ cur.size ∧ cur.toList.take ks.length = (sortI ks).map (Value.int .i64))) := by
  have hfN : Fence.wide.fn 24 := trivial
  have hfK : Fence.wide.fn 27 := trivial
  have hfS : Fence.wide.fn 26 := trivial
  have cK : ∀ mb W, CallsIn Fence.wide 5 Try.prog 27 #[.map mb] W fun e w' => e = .returned (.func (.func 34) #[] #[.pointer (some ⟨W.heap.size, 0, none⟩)]) ∧ w' = W.alloc (.cells #[.map mb] 46) := fun mb W => AnyZI.keys_in Try.keysA Fence.wide 5 trivial rfl mb W
  have cS : ∀ (W : World) (D : DataW Unit), W.ownsMap Try.prog 3 rdAny m n D → (intKeys D).Perm ks → Maps.size D = n → CallsIn Fence.wide 5 Try.prog 26 #[.func (.func 34) #[] #[.pointer (some ⟨W.heap.size, 0, none⟩)]] (W.alloc (.cells #[.map (some m)] 46)) fun e w' =>
      Keeps W w' ∧ ((ks = [] ∧ e = .returned (.slice none 0 0)) ∨
       (ks ≠ [] ∧ ∃ g cap cur t, e = .returned (.slice (some ⟨g, 0, none⟩) ks.length cap) ∧ W.heap.size ≤ g ∧ w'.heap[g]? = some (.cells cur t (0, 0)) ∧ ks.length ≤ cap ∧ cap ≤ cur.size ∧ cur.toList.take ks.length = (sortI ks).map (Value.int .i64))) := fun W D hown hp hs => by
    have hbl := hown.lt
    have hseq : SeqGives Fence.wide 2 Try.prog 34 #[.pointer (some ⟨W.heap.size, 0, none⟩)] encZ (fun ss => ss.Perm (intKeys D)) (Maps.size D) (W.alloc (.cells #[.map (some m)] 46)) :=
      AnyZI.keys_gives (ρ := Try.keysA_ren) { Try.keysA with } Fence.wide _ trivial rfl (by omega) W.heap.size m n D _ (by simp) (by simp) (by
        obtain ⟨es, clock, hb, Ft, hs, hD⟩ := hown
        exact ⟨es, clock, (Below.heap_alloc _ _ m hbl).trans hb, Ft, hs, hD⟩)
    have c := AnyZI.sorted_in Try.sortedA Fence.wide 5 trivial trivial trivial trivial rfl (by omega) (sorts _) (enters_of Try.func33 (by kernel_rfl) rfl) 34 #[.pointer (some ⟨W.heap.size, 0, none⟩)] trivial (enters_of Try.func34 (by kernel_rfl) rfl) _ _ (by rw [hs]; simp [maxLen]; omega) (by rw [hs]; omega) _ hseq
    refine CallsIn.mono c ?_
    rintro e w' ⟨v, ss, rfl, hS, hrow, hnil, hb⟩
    have hk : Keeps W w' := (Keeps.alloc W _).trans ⟨hb.os, hb.tape, hb.output, hb.size, hb.block⟩
    have hss := hS.trans hp
    refine ⟨hk, ?_⟩
    by_cases h0 : ks = []
    · subst h0
      have : ss = [] := hss.eq_nil
      exact .inl ⟨rfl, by rw [hnil.2 this]⟩
    · refine .inr ⟨h0, ?_⟩
      have hne : ss ≠ [] := fun e => h0 (by subst e; exact hss.symm.eq_nil)
      rcases hrow.2 with ⟨hv, _⟩ | ⟨g, cap, cur, rfl, hbase, hgb, r1, r2, r3, r4⟩
      · exact absurd (hnil.1 hv) hne
      · have hlen : ss.length = ks.length := hss.length_eq
        refine ⟨g, cap, cur, _, by rw [hlen], ?_, hgb, by omega, by omega, ?_⟩
        · simp at hbase; omega
        · rw [← hlen, ← sortI_eq hss]
          simpa [encZ] using r4
  refine callsIn_of_wp Try.func12 rfl trivial ?_ rfl
  simp only [Try.ntmps12, List.size_toArray, List.length_cons, List.length_nil, Nat.reduceAdd, Nat.reduceSub, Array.replicate_succ, Array.replicate_zero, List.push_toArray, List.append_toArray, List.nil_append, List.cons_append]
  gi_wp2_with (first
    | (gi_at_call 24; refine hn.mono ?_; rintro e w1 ⟨rfl, hk1, hc, D, hown, hD1, hD2⟩)
    | (gi_at_call 27; refine (cK _ _).mono ?_; rintro e w2 ⟨rfl, rfl⟩)
    | (gi_at_call 26; refine (cS _ D hown hD1 hD2).mono ?_; rintro e w3 ⟨hk3, ⟨hks, rfl⟩ | ⟨hks, g, cap, cur, t, rfl, hg, hgb, hc1, hc2, hc3⟩⟩))
  · go_ret
    exact ⟨_, hk1, hk3, .inl ⟨hks, rfl⟩⟩
  · go_ret
    exact ⟨_, hk1, hk3, .inr ⟨hks, g, cap, cur, t, rfl, hg, hgb, hc1, hc2, hc3⟩⟩

theorem open_ok : ∀ (g : FuncId) (args : List CV) (h : H) (v : CV) (x : Option H), openS Try.prog 12 24 g args h = some (v, x) →
    (∃ fn, Try.prog.funcs[g]? = some fn ∧ fn.body.isSome = true) ∧ ∀ (f : Val) (w : World), Rel f h w → okL h.nx args → CallsIn Fence.wide 0 Try.prog g (renL f args).toArray w (CallPost f h w v x) := by
  intro g args h v x e
  obtain ⟨rfl, id, off, rfl, e⟩ := openS_at e
  refine ⟨⟨_, Try.func12, rfl⟩, fun f w r oa => ?_⟩
  obtain ⟨hcall, b, m, es, c, ks, hb, hbg, hp, hks, hst, hnd, hl, hv⟩ := openK_at e
  have hn := callC_sound (noSums_ok _) (plain_of (by kernel_rfl)) (by kernel_rfl) hcall r oa
  have hkl : es.length = ks.length := by
    have := congrArg List.length (keyInts_eq hks).1
    simpa using this
  have hD : ∀ w', Step f h w f h w' → ∃ D : DataW Unit, w'.ownsMap Try.prog 3 rdAny (f.blk m) es.length D ∧ (intKeys D).Perm ks ∧ Maps.size D = es.length := fun w' s =>
    owns_of (P := Try.prog) (k := 3) (by kernel_rfl) s.rel hp hks hst hnd hl
  have hn' : CallsIn Fence.wide 5 Try.prog 24 #[.pointer (some ⟨f.blk id, f.base id + off, none⟩)] w fun e w' => e = .returned (.bool false) ∧ Step f h w f h w' ∧ w'.cell? ⟨f.blk id, f.base id + off + 1, none⟩ = some (.map (some (f.blk m))) ∧ ∃ D : DataW Unit, w'.ownsMap Try.prog 3 rdAny (f.blk m) es.length D ∧ (intKeys D).Perm ks ∧ Maps.size D = es.length := by
    refine CallsIn.mono (callsIn_wide.2 hn) ?_
    rintro e w' ⟨f', he, hs, _, hf⟩
    obtain rfl := hf rfl
    refine ⟨he, hs, ?_, hD _ hs⟩
    obtain ⟨_, cs, t, fr, h1, h2⟩ := hs.rel.blk hb
    have := (cell_at h1 h2 hbg).1
    simpa [adr, ren, Nat.add_assoc] using this
  have big := open_some hn' hl
  refine CallsIn.mono (callsIn_wide.2 (callsIn_wide.1 big)) ?_
  rintro e w' ⟨w1, hs1, hk, ⟨h0, rfl⟩ | ⟨h0, g, cap, cur, t, rfl, hg, hgb, hc1, hc2, hc3⟩⟩
  · rcases hv with ⟨_, rfl, rfl⟩ | ⟨h1, _⟩
    · exact ⟨f, rfl, hs1.trans (Step.keeps hs1.rel hk), trivial, fun _ => rfl⟩
    · exact absurd h0 h1
  · rcases hv with ⟨h1, _⟩ | ⟨_, rfl, rfl⟩
    · exact absurd h1 h0
    · have hlen : (sortI ks).length = ks.length := (sortI_perm ks).length_eq
      have st := Step.adopt (vs := (sortI ks).map (CV.int .i64)) hs1.rel hk hg hgb (fun v hv => by
        obtain ⟨n, _, rfl⟩ := List.mem_map.1 hv
        exact ⟨rfl, trivial⟩) (by
        rw [List.length_map, hlen, hc3, renL_eq, List.map_map]
        rfl) (by rw [List.length_map, hlen]; exact hc1) hc2
      rw [List.length_map] at st
      refine ⟨_, ?_, hs1.trans st, ?_, fun h => by cases h⟩
      · simp [ren, adr, Val.add]
      · simp [ok, H.alloc]
end Go.Cl.So

namespace Go.Cl.Sh
noncomputable section
variable {P : Program} {gn : FuncId}
def openSL : Sums := fun f args h => cond (Nat.beq f 12) (match args with | [.ptr id off] => openL Try.prog 24 h id off | _ => none) none
theorem openSL_at {f : FuncId} {args : List CV} {h : H} {v : CV} {x : Option H} (e : openSL f args h = some (v, x)) :
    f = 12 ∧ ∃ id off, args = [.ptr id off] ∧ openL Try.prog 24 h id off = some (v, x) := by
  unfold openSL at e
  cases hb : Nat.beq f 12 <;> rw [hb] at e
  · cases e
  · refine ⟨Nat.eq_of_beq_eq_true hb, ?_⟩
    simp only [cond_true] at e
    split at e
    · exact ⟨_, _, rfl, e⟩
    · cases e
theorem openL_at {h : H} {id off : Nat} {v : CV} {x : Option H} (e : openL P gn h id off = some (v, x)) :
    (∃ k, callC P noSums k gn [.ptr id off] h = some (.bool false, none)) ∧ ∃ b m es c ks, h.blk id = some b ∧ b.get (off + 1) = some (.map m) ∧ h.mp m = some (es, c) ∧ keyInts es = some ks ∧ stampOk es c = true ∧ noDupI ks = true ∧ es.length ≤ 1000000 ∧
      ((ks = [] ∧ v = .nils ∧ x = none) ∨ (ks ≠ [] ∧ v = .sl h.nx 0 ks.length (.opn 1) ∧ x = some (h.alloc (.cells (fillB (sortI ks).length ((sortI ks).map (CV.int .i64))))))) := by
  unfold openL at e
  split at e
  · rename_i hcall
    refine ⟨lim_call_some hcall, ?_⟩
    split at e
    · rename_i m hm
      simp only [Option.bind_eq_some_iff] at e hm
      obtain ⟨b, hb, hbg⟩ := hm
      obtain ⟨p, hp, ks, hks, e⟩ := e
      cases hcd : (stampOk p.1 p.2 && noDupI ks && Nat.ble p.1.length 1000000) <;> rw [hcd] at e
      · cases e
      · simp only [Bool.and_eq_true] at hcd
        refine ⟨b, m, p.1, p.2, ks, hb, hbg, hp, hks, hcd.1.1, hcd.1.2, Nat.le_of_ble_eq_true hcd.2, ?_⟩
        simp only [cond_true] at e
        cases ks with
        | nil => simp at e; exact .inl ⟨rfl, e.1.symm, e.2.symm⟩
        | cons a l => simp at e; exact .inr ⟨by simp, by simpa using e.1.symm, by simpa using e.2.symm⟩
    · cases e
  · cases e
end
end Go.Cl.Sh
namespace Go.Cl.So
open Go.RowKit Go.Maps Go.Sort Go.Shelf
theorem openL_ok : ∀ (g : FuncId) (args : List CV) (h : H) (v : CV) (x : Option H), Sh.openSL g args h = some (v, x) →
    (∃ fn, Try.prog.funcs[g]? = some fn ∧ fn.body.isSome = true) ∧ ∀ (f : Val) (w : World), Rel f h w → okL h.nx args → CallsIn Fence.wide 0 Try.prog g (renL f args).toArray w (CallPost f h w v x) := by
  intro g args h v x e
  obtain ⟨rfl, id, off, rfl, e⟩ := Sh.openSL_at e
  refine ⟨⟨_, Try.func12, rfl⟩, fun f w r oa => ?_⟩
  obtain ⟨⟨kk, hcall⟩, b, m, es, c, ks, hb, hbg, hp, hks, hst, hnd, hl, hv⟩ := Sh.openL_at e
  have hn := callC_sound (noSums_ok _) (plain_of (by kernel_rfl)) (by kernel_rfl) hcall r oa
  have hkl : es.length = ks.length := by
    have := congrArg List.length (keyInts_eq hks).1
    simpa using this
  have hD : ∀ w', Step f h w f h w' → ∃ D : DataW Unit, w'.ownsMap Try.prog 3 rdAny (f.blk m) es.length D ∧ (intKeys D).Perm ks ∧ Maps.size D = es.length := fun w' s =>
    owns_of (P := Try.prog) (k := 3) (by kernel_rfl) s.rel hp hks hst hnd hl
  have hn' : CallsIn Fence.wide 5 Try.prog 24 #[.pointer (some ⟨f.blk id, f.base id + off, none⟩)] w fun e w' => e = .returned (.bool false) ∧ Step f h w f h w' ∧ w'.cell? ⟨f.blk id, f.base id + off + 1, none⟩ = some (.map (some (f.blk m))) ∧ ∃ D : DataW Unit, w'.ownsMap Try.prog 3 rdAny (f.blk m) es.length D ∧ (intKeys D).Perm ks ∧ Maps.size D = es.length := by
    refine CallsIn.mono (callsIn_wide.2 hn) ?_
    rintro e w' ⟨f', he, hs, _, hf⟩
    obtain rfl := hf rfl
    refine ⟨he, hs, ?_, hD _ hs⟩
    obtain ⟨_, cs, t, fr, h1, h2⟩ := hs.rel.blk hb
    have := (cell_at h1 h2 hbg).1
    simpa [adr, ren, Nat.add_assoc] using this
  have big := open_some hn' hl
  refine CallsIn.mono (callsIn_wide.2 (callsIn_wide.1 big)) ?_
  rintro e w' ⟨w1, hs1, hk, ⟨h0, rfl⟩ | ⟨h0, g, cap, cur, t, rfl, hg, hgb, hc1, hc2, hc3⟩⟩
  · rcases hv with ⟨_, rfl, rfl⟩ | ⟨h1, _⟩
    · exact ⟨f, rfl, hs1.trans (Step.keeps hs1.rel hk), trivial, fun _ => rfl⟩
    · exact absurd h0 h1
  · rcases hv with ⟨h1, _⟩ | ⟨_, rfl, rfl⟩
    · exact absurd h1 h0
    · have hlen : (sortI ks).length = ks.length := (sortI_perm ks).length_eq
      have st := Step.adopt (vs := (sortI ks).map (CV.int .i64)) hs1.rel hk hg hgb (fun v hv => by
        obtain ⟨n, _, rfl⟩ := List.mem_map.1 hv
        exact ⟨rfl, trivial⟩) (by
        rw [List.length_map, hlen, hc3, renL_eq, List.map_map]
        rfl) (by rw [List.length_map, hlen]; exact hc1) hc2
      rw [List.length_map] at st
      refine ⟨_, ?_, hs1.trans st, ?_, fun h => by cases h⟩
      · simp [ren, adr, Val.add]
      · simp [ok, H.alloc]
end Go.Cl.So

namespace Go.Cl.Sh
noncomputable section
open Go.RowKit
set_option maxRecDepth 1000000

theorem tell_okS {P : Program} {σ : Sums} {k : Nat} {g : FuncId} {v : CV} (hσ : SumOk P σ) (hP : plainB P = true) (hm : P.follows .mixedOrders = true) (e : (callK P σ k g [] (h0 0)).map Prod.fst = some v) (ov : okB 0 v = true) : SumOk P (tell g v) := by
  intro f a h w x ht
  unfold tell at ht
  cases hc : (Nat.beq f g && a.isEmpty) with
  | false => rw [hc] at ht; cases ht
  | true =>
    rw [hc] at ht
    simp only [cond_true, Option.some.injEq, Prod.mk.injEq] at ht
    obtain ⟨rfl, rfl⟩ := ht
    simp only [Bool.and_eq_true] at hc
    have := Nat.eq_of_beq_eq_true hc.1
    subst this
    have ha : a = [] := by simpa using hc.2
    subst ha
    rw [callK_eq] at e
    cases hq : callC P σ k f [] (h0 0) with
    | none => rw [hq] at e; cases e
    | some p =>
      rw [hq] at e
      obtain ⟨v', x'⟩ := p
      simp only [Option.map_some, Option.some.injEq] at e
      subst e
      obtain ⟨h1, h2⟩ := (all_sound hσ (plain_of hP) hm k).2.2.1 f [] (h0 0) v' x' hq
      refine ⟨h1, fun fv w rel _ => ?_⟩
      refine CallsIn.mono (h2 val0 w (rel0 w) (by simp [okL])) fun e' w' hp => ?_
      obtain ⟨f', rfl, st, _, _⟩ := hp
      have o0 := ok_of_okB _ ov
      have hk : Keeps w w' := ⟨st.os, st.tape, st.output, st.size, fun j hj => st.frame j hj fun id o ho => by
        rw [show (h0 0).t = T.nil from rfl, T.get_nil] at ho; cases ho⟩
      refine ⟨fv, ?_, Step.keeps rel hk, ok_mono (Nat.zero_le _) _ o0, fun _ => rfl⟩
      rw [ren_congr (f := f') (g := fv) (n := 0) (fun i hi => by omega) v' o0]
def sigL : Sums := bothS openSL (tell 5 (.bool true))
theorem openSL_self (h : H) (d : Nat) : openSL 12 [.ptr d 0] h = openL Try.prog 24 h d 0 := by
  unfold openSL; rw [show Nat.beq 12 12 = true from rfl]; rfl
theorem sigL_open : OpenTold sigL := fun h d => by
  unfold sigL bothS
  rw [openSL_self]
  cases openL Try.prog 24 h d 0 with
  | none => exact tell_other _ _ _ (by decide)
  | some r => rfl
theorem sigL_other : ∀ f a h, toldL f = false → sigL f a h = none := fun f a h t => by
  unfold toldL at t
  rw [Bool.or_eq_false_iff] at t
  unfold sigL bothS
  have h1 : openSL f a h = none := by unfold openSL; rw [t.1]; rfl
  rw [h1]
  unfold tell; rw [t.2]; rfl
theorem sigL_known (h : H) : (lim Try.prog sigL).call 5 [] h = some (.bool true, none) := by
  rw [lim_call]
  unfold callF
  have : sigL 5 [] h = some (.bool true, none) := by
    unfold sigL bothS
    have h1 : openSL 5 [] h = none := by unfold openSL; rw [show Nat.beq 5 12 = false from rfl]; rfl
    rw [h1]
    unfold tell; rw [beq_eq', decide_eq_true rfl]; rfl
  rw [this]
set_option maxHeartbeats 0 in
theorem known_run : (callK Try.prog (openS Try.prog 12 24) 10000000 5 [] (h0 0)).map Prod.fst = some (.bool true) := by kernel_rfl
theorem sigL_ok : SumOk Try.prog sigL := both_ok So.openL_ok (tell_okS (So.open_ok) (by kernel_rfl) (by kernel_rfl) known_run rfl)
theorem slice_beq {h : H} {t e : TypeId} {v : CV} (r : Rd Try.prog h t [v]) (hu : Try.prog.underlying t = some (.slice e)) : beqC v v = true := by
  generalize hcs : [v] = cs at r
  cases r with
  | nils ht => simp at hcs; subst hcs; rfl
  | sl0 id ht hid => simp at hcs; subst hcs; simp [beqC]
  | sl id len cap b xs ht hid hl hcap hb hro hxl hxg hx => simp at hcs; subst hcs; simp [beqC]
  | _ => simp_all
theorem means_run {h : H} {c0 c1 c2 : CV} (B0 : Arg Try.prog h 3 c0) (B1 : Arg Try.prog h 22 c1) (B2 : Arg Try.prog h 23 c2) : Tru ((lim Try.prog sigL).call 3 [c0, c1, c2] h) := by
  have i1 : c0.one = true := by rcases B0.one with ⟨_, h⟩ | ⟨_, _, h⟩ | h; rw [Try.underlying3] at h; cases h; rw [Try.underlying3] at h; cases h; exact h
  have r := B0.rd
  rw [cells_one i1] at r
  obtain ⟨n, e, _⟩ := r.int_inv Try.underlying3
  simp at e
  subst e
  obtain ⟨l, PL, hl⟩ := steps_of B1
  obtain ⟨ps, PP⟩ := ints_of B2
  have i2 : c1.one = true := by rcases B1.one with ⟨_, h⟩ | ⟨_, _, h⟩ | h; rw [Try.underlying22] at h; cases h; rw [Try.underlying22] at h; cases h; exact h
  have r2 := B1.rd
  rw [cells_one i2] at r2
  exact law_run sigL_other sigL_known sigL_open PL hl PP (slice_beq r2 Try.underlying22)
end
end Go.Cl.Sh
