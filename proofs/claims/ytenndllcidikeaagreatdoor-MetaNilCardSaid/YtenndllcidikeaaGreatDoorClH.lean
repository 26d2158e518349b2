/- Facts of the program's tables, each read off by the kernel. -/
import Derived.Attr
import Derived.KernelRfl
import Derived.Test.YtenndllcidikeaaGreatDoorProg
import Derived.Test.YtenndllcidikeaaGreatDoorClG
set_option linter.all false
namespace Go.Cl.Sh
open Go Go.Cl
theorem sz_0 : szOf Go.Proofs.Tryz.prog 0 = some 1 := by kernel_rfl
attribute [go_sem] sz_0
theorem ld_0 (h : H) (id off : Nat) : loadT Go.Proofs.Tryz.prog h 0 id off = @thn _ _ (h.blk id) ⟨fun b => b.get off⟩ := by kernel_rfl
attribute [go_sem] ld_0
theorem st_0 (h : H) (id off : Nat) (v : CV) : storeT Go.Proofs.Tryz.prog h 0 id off v = @thn _ _ (h.blk id) ⟨fun b => cond (Nat.beq v.cells.length 1 && !b.ro) ((b.storeA off v.cells).map fun b' => h.put id (.cells b')) none⟩ := by kernel_rfl
attribute [go_sem] st_0
theorem part_0 (cs : List CV) (off : Nat) : partT Go.Proofs.Tryz.prog 0 cs off = nth cs off := by kernel_rfl
attribute [go_sem] part_0
theorem sz_2 : szOf Go.Proofs.Tryz.prog 2 = some 1 := by kernel_rfl
attribute [go_sem] sz_2
theorem ld_2 (h : H) (id off : Nat) : loadT Go.Proofs.Tryz.prog h 2 id off = @thn _ _ (h.blk id) ⟨fun b => b.get off⟩ := by kernel_rfl
attribute [go_sem] ld_2
theorem st_2 (h : H) (id off : Nat) (v : CV) : storeT Go.Proofs.Tryz.prog h 2 id off v = @thn _ _ (h.blk id) ⟨fun b => cond (Nat.beq v.cells.length 1 && !b.ro) ((b.storeA off v.cells).map fun b' => h.put id (.cells b')) none⟩ := by kernel_rfl
attribute [go_sem] st_2
theorem part_2 (cs : List CV) (off : Nat) : partT Go.Proofs.Tryz.prog 2 cs off = nth cs off := by kernel_rfl
attribute [go_sem] part_2
theorem ze_2 : zeroT Go.Proofs.Tryz.prog 2 = some (.int .i64 0) := by kernel_rfl
attribute [go_sem] ze_2
theorem sz_3 : szOf Go.Proofs.Tryz.prog 3 = some 1 := by kernel_rfl
attribute [go_sem] sz_3
theorem ld_3 (h : H) (id off : Nat) : loadT Go.Proofs.Tryz.prog h 3 id off = @thn _ _ (h.blk id) ⟨fun b => b.get off⟩ := by kernel_rfl
attribute [go_sem] ld_3
theorem st_3 (h : H) (id off : Nat) (v : CV) : storeT Go.Proofs.Tryz.prog h 3 id off v = @thn _ _ (h.blk id) ⟨fun b => cond (Nat.beq v.cells.length 1 && !b.ro) ((b.storeA off v.cells).map fun b' => h.put id (.cells b')) none⟩ := by kernel_rfl
attribute [go_sem] st_3
theorem part_3 (cs : List CV) (off : Nat) : partT Go.Proofs.Tryz.prog 3 cs off = nth cs off := by kernel_rfl
attribute [go_sem] part_3
theorem ze_3 : zeroT Go.Proofs.Tryz.prog 3 = some (.int .i64 0) := by kernel_rfl
attribute [go_sem] ze_3
theorem sz_4 : szOf Go.Proofs.Tryz.prog 4 = some 1 := by kernel_rfl
attribute [go_sem] sz_4
theorem ld_4 (h : H) (id off : Nat) : loadT Go.Proofs.Tryz.prog h 4 id off = @thn _ _ (h.blk id) ⟨fun b => b.get off⟩ := by kernel_rfl
attribute [go_sem] ld_4
theorem st_4 (h : H) (id off : Nat) (v : CV) : storeT Go.Proofs.Tryz.prog h 4 id off v = @thn _ _ (h.blk id) ⟨fun b => cond (Nat.beq v.cells.length 1 && !b.ro) ((b.storeA off v.cells).map fun b' => h.put id (.cells b')) none⟩ := by kernel_rfl
attribute [go_sem] st_4
theorem part_4 (cs : List CV) (off : Nat) : partT Go.Proofs.Tryz.prog 4 cs off = nth cs off := by kernel_rfl
attribute [go_sem] part_4
theorem ze_4 : zeroT Go.Proofs.Tryz.prog 4 = some (.bool false) := by kernel_rfl
attribute [go_sem] ze_4
theorem eq_4 (xo yo : Operand) (a b : Bool) : binT Go.Proofs.Tryz.prog .eql 4 xo yo (.bool a) (.bool b) = some (.bool (a == b)) := by kernel_rfl
attribute [go_sem] eq_4
theorem ne_4 (xo yo : Operand) (a b : Bool) : binT Go.Proofs.Tryz.prog .neq 4 xo yo (.bool a) (.bool b) = some (.bool (!(a == b))) := by kernel_rfl
attribute [go_sem] ne_4
theorem sz_5 : szOf Go.Proofs.Tryz.prog 5 = some 1 := by kernel_rfl
attribute [go_sem] sz_5
theorem ld_5 (h : H) (id off : Nat) : loadT Go.Proofs.Tryz.prog h 5 id off = @thn _ _ (h.blk id) ⟨fun b => b.get off⟩ := by kernel_rfl
attribute [go_sem] ld_5
theorem st_5 (h : H) (id off : Nat) (v : CV) : storeT Go.Proofs.Tryz.prog h 5 id off v = @thn _ _ (h.blk id) ⟨fun b => cond (Nat.beq v.cells.length 1 && !b.ro) ((b.storeA off v.cells).map fun b' => h.put id (.cells b')) none⟩ := by kernel_rfl
attribute [go_sem] st_5
theorem part_5 (cs : List CV) (off : Nat) : partT Go.Proofs.Tryz.prog 5 cs off = nth cs off := by kernel_rfl
attribute [go_sem] part_5
theorem ze_5 : zeroT Go.Proofs.Tryz.prog 5 = some (.int .u8 0) := by kernel_rfl
attribute [go_sem] ze_5
theorem sz_9 : szOf Go.Proofs.Tryz.prog 9 = some 1 := by kernel_rfl
attribute [go_sem] sz_9
theorem ld_9 (h : H) (id off : Nat) : loadT Go.Proofs.Tryz.prog h 9 id off = @thn _ _ (h.blk id) ⟨fun b => b.get off⟩ := by kernel_rfl
attribute [go_sem] ld_9
theorem st_9 (h : H) (id off : Nat) (v : CV) : storeT Go.Proofs.Tryz.prog h 9 id off v = @thn _ _ (h.blk id) ⟨fun b => cond (Nat.beq v.cells.length 1 && !b.ro) ((b.storeA off v.cells).map fun b' => h.put id (.cells b')) none⟩ := by kernel_rfl
attribute [go_sem] st_9
theorem part_9 (cs : List CV) (off : Nat) : partT Go.Proofs.Tryz.prog 9 cs off = nth cs off := by kernel_rfl
attribute [go_sem] part_9
theorem ze_9 : zeroT Go.Proofs.Tryz.prog 9 = some (.str []) := by kernel_rfl
attribute [go_sem] ze_9
theorem ix_9 (s : List Nat) (k : Nat) (kd : IntKind) : indexT Go.Proofs.Tryz.prog 9 (.str s) (.int kd (Int.ofNat k)) = (nth s k).map fun b => .int .u8 (Int.ofNat b) := by kernel_rfl
attribute [go_sem] ix_9
theorem len_9 (h : H) (ts : List TypeId) (az : List CV) (s : List Nat) : builtinT Go.Proofs.Tryz.prog h .len (9 :: ts) (.str s :: az) = some (.val (.int .i64 (Int.ofNat s.length))) := by kernel_rfl
attribute [go_sem] len_9
theorem sz_12 : szOf Go.Proofs.Tryz.prog 12 = some 1 := by kernel_rfl
attribute [go_sem] sz_12
theorem ld_12 (h : H) (id off : Nat) : loadT Go.Proofs.Tryz.prog h 12 id off = @thn _ _ (h.blk id) ⟨fun b => b.get off⟩ := by kernel_rfl
attribute [go_sem] ld_12
theorem st_12 (h : H) (id off : Nat) (v : CV) : storeT Go.Proofs.Tryz.prog h 12 id off v = @thn _ _ (h.blk id) ⟨fun b => cond (Nat.beq v.cells.length 1 && !b.ro) ((b.storeA off v.cells).map fun b' => h.put id (.cells b')) none⟩ := by kernel_rfl
attribute [go_sem] st_12
theorem part_12 (cs : List CV) (off : Nat) : partT Go.Proofs.Tryz.prog 12 cs off = nth cs off := by kernel_rfl
attribute [go_sem] part_12
theorem ze_12 : zeroT Go.Proofs.Tryz.prog 12 = some (.int .u64 0) := by kernel_rfl
attribute [go_sem] ze_12
theorem sz_21 : szOf Go.Proofs.Tryz.prog 21 = some 1 := by kernel_rfl
attribute [go_sem] sz_21
theorem ld_21 (h : H) (id off : Nat) : loadT Go.Proofs.Tryz.prog h 21 id off = @thn _ _ (h.blk id) ⟨fun b => b.get off⟩ := by kernel_rfl
attribute [go_sem] ld_21
theorem st_21 (h : H) (id off : Nat) (v : CV) : storeT Go.Proofs.Tryz.prog h 21 id off v = @thn _ _ (h.blk id) ⟨fun b => cond (Nat.beq v.cells.length 1 && !b.ro) ((b.storeA off v.cells).map fun b' => h.put id (.cells b')) none⟩ := by kernel_rfl
attribute [go_sem] st_21
theorem part_21 (cs : List CV) (off : Nat) : partT Go.Proofs.Tryz.prog 21 cs off = nth cs off := by kernel_rfl
attribute [go_sem] part_21
theorem ze_21 : zeroT Go.Proofs.Tryz.prog 21 = some (.int .i32 0) := by kernel_rfl
attribute [go_sem] ze_21
theorem sz_24 : szOf Go.Proofs.Tryz.prog 24 = some 1 := by kernel_rfl
attribute [go_sem] sz_24
theorem ld_24 (h : H) (id off : Nat) : loadT Go.Proofs.Tryz.prog h 24 id off = @thn _ _ (h.blk id) ⟨fun b => b.get off⟩ := by kernel_rfl
attribute [go_sem] ld_24
theorem st_24 (h : H) (id off : Nat) (v : CV) : storeT Go.Proofs.Tryz.prog h 24 id off v = @thn _ _ (h.blk id) ⟨fun b => cond (Nat.beq v.cells.length 1 && !b.ro) ((b.storeA off v.cells).map fun b' => h.put id (.cells b')) none⟩ := by kernel_rfl
attribute [go_sem] st_24
theorem part_24 (cs : List CV) (off : Nat) : partT Go.Proofs.Tryz.prog 24 cs off = nth cs off := by kernel_rfl
attribute [go_sem] part_24
theorem ze_24 : zeroT Go.Proofs.Tryz.prog 24 = some (.int .u64 0) := by kernel_rfl
attribute [go_sem] ze_24
theorem sz_25 : szOf Go.Proofs.Tryz.prog 25 = some 2 := by kernel_rfl
attribute [go_sem] sz_25
theorem ld_25 (h : H) (id off : Nat) : loadT Go.Proofs.Tryz.prog h 25 id off = @thn _ _ (h.blk id) ⟨fun b => (b.loadN off 2).map .agg⟩ := by kernel_rfl
attribute [go_sem] ld_25
theorem st_25 (h : H) (id off : Nat) (v : CV) : storeT Go.Proofs.Tryz.prog h 25 id off v = @thn _ _ (h.blk id) ⟨fun b => cond (Nat.beq v.cells.length 2 && !b.ro) ((b.storeA off v.cells).map fun b' => h.put id (.cells b')) none⟩ := by kernel_rfl
attribute [go_sem] st_25
theorem part_25 (cs : List CV) (off : Nat) : partT Go.Proofs.Tryz.prog 25 cs off = some (.agg ((cs.drop off).take 2)) := by kernel_rfl
attribute [go_sem] part_25
theorem ze_25 : zeroT Go.Proofs.Tryz.prog 25 = some (.agg [.int .u64 0, .int .u64 0]) := by kernel_rfl
attribute [go_sem] ze_25
theorem ia_25 (id off k : Nat) (kd : IntKind) : indexAddrT Go.Proofs.Tryz.prog 25 (.ptr id off) (.int kd (Int.ofNat k)) = cond (Nat.blt k 2) (some (.ptr id (off + k * 1))) none := by kernel_rfl
attribute [go_sem] ia_25
theorem ix_25 (cs : List CV) (k : Nat) (kd : IntKind) : indexT Go.Proofs.Tryz.prog 25 (.agg cs) (.int kd (Int.ofNat k)) = cond (Nat.blt k 2) (partT Go.Proofs.Tryz.prog 24 cs (k * 1)) none := by kernel_rfl
attribute [go_sem] ix_25
theorem len_25 (h : H) (ts : List TypeId) (az : List CV) (a : CV) : builtinT Go.Proofs.Tryz.prog h .len (25 :: ts) (a :: az) = some (.val (.int .i64 2)) := by kernel_rfl
attribute [go_sem] len_25
theorem bt_25 (parts : List (Nat × CV)) : buildT Go.Proofs.Tryz.prog 25 parts = finB (CV.cells (.agg [.int .u64 0, .int .u64 0])) (fun i => some (i * 1, 1)) parts := by kernel_rfl
attribute [go_sem] bt_25
theorem sz_30 : szOf Go.Proofs.Tryz.prog 30 = some 16 := by kernel_rfl
attribute [go_sem] sz_30
theorem ld_30 (h : H) (id off : Nat) : loadT Go.Proofs.Tryz.prog h 30 id off = @thn _ _ (h.blk id) ⟨fun b => (b.loadN off 16).map .agg⟩ := by kernel_rfl
attribute [go_sem] ld_30
theorem st_30 (h : H) (id off : Nat) (v : CV) : storeT Go.Proofs.Tryz.prog h 30 id off v = @thn _ _ (h.blk id) ⟨fun b => cond (Nat.beq v.cells.length 16 && !b.ro) ((b.storeA off v.cells).map fun b' => h.put id (.cells b')) none⟩ := by kernel_rfl
attribute [go_sem] st_30
theorem part_30 (cs : List CV) (off : Nat) : partT Go.Proofs.Tryz.prog 30 cs off = some (.agg ((cs.drop off).take 16)) := by kernel_rfl
attribute [go_sem] part_30
theorem ze_30 : zeroT Go.Proofs.Tryz.prog 30 = some (.agg [.int .u64 0, .int .u64 0, .int .u64 0, .int .u64 0, .int .u64 0, .int .u64 0, .int .u64 0, .int .u64 0, .int .u64 0, .int .u64 0, .int .u64 0, .int .u64 0, .int .u64 0, .int .u64 0, .int .u64 0, .int .u64 0]) := by kernel_rfl
attribute [go_sem] ze_30
theorem ia_30 (id off k : Nat) (kd : IntKind) : indexAddrT Go.Proofs.Tryz.prog 30 (.ptr id off) (.int kd (Int.ofNat k)) = cond (Nat.blt k 16) (some (.ptr id (off + k * 1))) none := by kernel_rfl
attribute [go_sem] ia_30
theorem ix_30 (cs : List CV) (k : Nat) (kd : IntKind) : indexT Go.Proofs.Tryz.prog 30 (.agg cs) (.int kd (Int.ofNat k)) = cond (Nat.blt k 16) (partT Go.Proofs.Tryz.prog 24 cs (k * 1)) none := by kernel_rfl
attribute [go_sem] ix_30
theorem len_30 (h : H) (ts : List TypeId) (az : List CV) (a : CV) : builtinT Go.Proofs.Tryz.prog h .len (30 :: ts) (a :: az) = some (.val (.int .i64 16)) := by kernel_rfl
attribute [go_sem] len_30
theorem bt_30 (parts : List (Nat × CV)) : buildT Go.Proofs.Tryz.prog 30 parts = finB (CV.cells (.agg [.int .u64 0, .int .u64 0, .int .u64 0, .int .u64 0, .int .u64 0, .int .u64 0, .int .u64 0, .int .u64 0, .int .u64 0, .int .u64 0, .int .u64 0, .int .u64 0, .int .u64 0, .int .u64 0, .int .u64 0, .int .u64 0])) (fun i => some (i * 1, 1)) parts := by kernel_rfl
attribute [go_sem] bt_30
theorem sz_34 : szOf Go.Proofs.Tryz.prog 34 = some 1 := by kernel_rfl
attribute [go_sem] sz_34
theorem ld_34 (h : H) (id off : Nat) : loadT Go.Proofs.Tryz.prog h 34 id off = @thn _ _ (h.blk id) ⟨fun b => b.get off⟩ := by kernel_rfl
attribute [go_sem] ld_34
theorem st_34 (h : H) (id off : Nat) (v : CV) : storeT Go.Proofs.Tryz.prog h 34 id off v = @thn _ _ (h.blk id) ⟨fun b => cond (Nat.beq v.cells.length 1 && !b.ro) ((b.storeA off v.cells).map fun b' => h.put id (.cells b')) none⟩ := by kernel_rfl
attribute [go_sem] st_34
theorem part_34 (cs : List CV) (off : Nat) : partT Go.Proofs.Tryz.prog 34 cs off = nth cs off := by kernel_rfl
attribute [go_sem] part_34
theorem ze_34 : zeroT Go.Proofs.Tryz.prog 34 = some (.int .u16 0) := by kernel_rfl
attribute [go_sem] ze_34
theorem sz_53 : szOf Go.Proofs.Tryz.prog 53 = some 256 := by kernel_rfl
attribute [go_sem] sz_53
theorem ld_53 (h : H) (id off : Nat) : loadT Go.Proofs.Tryz.prog h 53 id off = @thn _ _ (h.blk id) ⟨fun b => (b.loadN off 256).map .agg⟩ := by kernel_rfl
attribute [go_sem] ld_53
theorem st_53 (h : H) (id off : Nat) (v : CV) : storeT Go.Proofs.Tryz.prog h 53 id off v = @thn _ _ (h.blk id) ⟨fun b => cond (Nat.beq v.cells.length 256 && !b.ro) ((b.storeA off v.cells).map fun b' => h.put id (.cells b')) none⟩ := by kernel_rfl
attribute [go_sem] st_53
theorem part_53 (cs : List CV) (off : Nat) : partT Go.Proofs.Tryz.prog 53 cs off = some (.agg ((cs.drop off).take 256)) := by kernel_rfl
attribute [go_sem] part_53
theorem ia_53 (id off k : Nat) (kd : IntKind) : indexAddrT Go.Proofs.Tryz.prog 53 (.ptr id off) (.int kd (Int.ofNat k)) = cond (Nat.blt k 256) (some (.ptr id (off + k * 1))) none := by kernel_rfl
attribute [go_sem] ia_53
theorem ix_53 (cs : List CV) (k : Nat) (kd : IntKind) : indexT Go.Proofs.Tryz.prog 53 (.agg cs) (.int kd (Int.ofNat k)) = cond (Nat.blt k 256) (partT Go.Proofs.Tryz.prog 5 cs (k * 1)) none := by kernel_rfl
attribute [go_sem] ix_53
theorem len_53 (h : H) (ts : List TypeId) (az : List CV) (a : CV) : builtinT Go.Proofs.Tryz.prog h .len (53 :: ts) (a :: az) = some (.val (.int .i64 256)) := by kernel_rfl
attribute [go_sem] len_53
theorem sz_60 : szOf Go.Proofs.Tryz.prog 60 = some 1 := by kernel_rfl
attribute [go_sem] sz_60
theorem ld_60 (h : H) (id off : Nat) : loadT Go.Proofs.Tryz.prog h 60 id off = @thn _ _ (h.blk id) ⟨fun b => b.get off⟩ := by kernel_rfl
attribute [go_sem] ld_60
theorem st_60 (h : H) (id off : Nat) (v : CV) : storeT Go.Proofs.Tryz.prog h 60 id off v = @thn _ _ (h.blk id) ⟨fun b => cond (Nat.beq v.cells.length 1 && !b.ro) ((b.storeA off v.cells).map fun b' => h.put id (.cells b')) none⟩ := by kernel_rfl
attribute [go_sem] st_60
theorem part_60 (cs : List CV) (off : Nat) : partT Go.Proofs.Tryz.prog 60 cs off = nth cs off := by kernel_rfl
attribute [go_sem] part_60
theorem ze_60 : zeroT Go.Proofs.Tryz.prog 60 = some (.nils) := by kernel_rfl
attribute [go_sem] ze_60
theorem ia_60 (id off len k : Nat) (c : Cap) (kd : IntKind) : indexAddrT Go.Proofs.Tryz.prog 60 (.sl id off len c) (.int kd (Int.ofNat k)) = cond (Nat.blt k len) (some (.ptr id (off + k * 1))) none := by kernel_rfl
attribute [go_sem] ia_60
theorem len_60 (h : H) (id off len : Nat) (c : Cap) (ts : List TypeId) (az : List CV) : builtinT Go.Proofs.Tryz.prog h .len (60 :: ts) (.sl id off len c :: az) = some (.val (.int .i64 (Int.ofNat len))) := by kernel_rfl
attribute [go_sem] len_60
theorem len_60_n (h : H) (ts : List TypeId) (az : List CV) : builtinT Go.Proofs.Tryz.prog h .len (60 :: ts) (.nils :: az) = some (.val (.int .i64 0)) := by kernel_rfl
attribute [go_sem] len_60_n
theorem app_60 (h : H) (s : CV) (id off len : Nat) (c : Cap) (ts : List TypeId) (az : List CV) : builtinT Go.Proofs.Tryz.prog h .append (60 :: 60 :: ts) (s :: .sl id off len c :: az) = uv (appendT Go.Proofs.Tryz.prog h 60 s (.sl id off len c)) := by kernel_rfl
attribute [go_sem] app_60
theorem app_60_n (h : H) (s : CV) (ts : List TypeId) (az : List CV) : builtinT Go.Proofs.Tryz.prog h .append (60 :: 60 :: ts) (s :: .nils :: az) = uv (appendT Go.Proofs.Tryz.prog h 60 s .nils) := by kernel_rfl
attribute [go_sem] app_60_n
theorem ap_60 (h : H) (s : CV) (id off len : Nat) (c : Cap) : appendT Go.Proofs.Tryz.prog h 60 s (.sl id off len c) = appS h 1 8 1 s len (firstC h 1 len (.sl id off len c)) := by kernel_rfl
attribute [go_sem] ap_60
theorem ap_60_n (h : H) (s : CV) : appendT Go.Proofs.Tryz.prog h 60 s .nils = appS h 1 8 1 s 0 (some []) := by kernel_rfl
attribute [go_sem] ap_60_n
theorem ap_60_z (h : H) (s : CV) (a b c d : Nat) : appendT Go.Proofs.Tryz.prog h 60 s (.sl0 a b c d) = appS h 1 8 1 s 0 (some []) := by kernel_rfl
attribute [go_sem] ap_60_z
theorem bs_60 (h : H) (n : Nat) (parts : List (Nat × CV)) : buildSliceT Go.Proofs.Tryz.prog h 60 n parts = bslS h 1 (CV.cells (.int .i64 0)) n parts := by kernel_rfl
attribute [go_sem] bs_60
theorem ms_60 (h : H) (l c : Nat) (k k' : IntKind) : makeSliceT Go.Proofs.Tryz.prog h 60 (.int k (Int.ofNat l)) (.int k' (Int.ofNat c)) = mkS h 1 8 (zeroT Go.Proofs.Tryz.prog 3) l c := by kernel_rfl
attribute [go_sem] ms_60
theorem eq_60 (xo yo : Operand) (a b c : Nat) (d : Cap) : binT Go.Proofs.Tryz.prog .eql 60 xo yo (.sl a b c d) .nils = some (.bool false) := by kernel_rfl
attribute [go_sem] eq_60
theorem eq_60_n (xo yo : Operand) : binT Go.Proofs.Tryz.prog .eql 60 xo yo .nils .nils = some (.bool true) := by kernel_rfl
attribute [go_sem] eq_60_n
theorem eq_60_z (xo yo : Operand) (a b c d : Nat) : binT Go.Proofs.Tryz.prog .eql 60 xo yo (.sl0 a b c d) .nils = some (.bool false) := by kernel_rfl
attribute [go_sem] eq_60_z
theorem ne_60 (xo yo : Operand) (a b c : Nat) (d : Cap) : binT Go.Proofs.Tryz.prog .neq 60 xo yo (.sl a b c d) .nils = some (.bool true) := by kernel_rfl
attribute [go_sem] ne_60
theorem ne_60_n (xo yo : Operand) : binT Go.Proofs.Tryz.prog .neq 60 xo yo .nils .nils = some (.bool false) := by kernel_rfl
attribute [go_sem] ne_60_n
theorem ne_60_z (xo yo : Operand) (a b c d : Nat) : binT Go.Proofs.Tryz.prog .neq 60 xo yo (.sl0 a b c d) .nils = some (.bool true) := by kernel_rfl
attribute [go_sem] ne_60_z
theorem len_60_z (h : H) (a b c d : Nat) (ts : List TypeId) (az : List CV) : builtinT Go.Proofs.Tryz.prog h .len (60 :: ts) (.sl0 a b c d :: az) = some (.val (.int .i64 0)) := by kernel_rfl
attribute [go_sem] len_60_z
theorem app_60_z (h : H) (s : CV) (a b c d : Nat) (ts : List TypeId) (az : List CV) : builtinT Go.Proofs.Tryz.prog h .append (60 :: 60 :: ts) (s :: .sl0 a b c d :: az) = uv (appendT Go.Proofs.Tryz.prog h 60 s (.sl0 a b c d)) := by kernel_rfl
attribute [go_sem] app_60_z
theorem sz_78 : szOf Go.Proofs.Tryz.prog 78 = some 1 := by kernel_rfl
attribute [go_sem] sz_78
theorem ld_78 (h : H) (id off : Nat) : loadT Go.Proofs.Tryz.prog h 78 id off = @thn _ _ (h.blk id) ⟨fun b => b.get off⟩ := by kernel_rfl
attribute [go_sem] ld_78
theorem st_78 (h : H) (id off : Nat) (v : CV) : storeT Go.Proofs.Tryz.prog h 78 id off v = @thn _ _ (h.blk id) ⟨fun b => cond (Nat.beq v.cells.length 1 && !b.ro) ((b.storeA off v.cells).map fun b' => h.put id (.cells b')) none⟩ := by kernel_rfl
attribute [go_sem] st_78
theorem part_78 (cs : List CV) (off : Nat) : partT Go.Proofs.Tryz.prog 78 cs off = nth cs off := by kernel_rfl
attribute [go_sem] part_78
theorem ze_78 : zeroT Go.Proofs.Tryz.prog 78 = some (.int .u64 0) := by kernel_rfl
attribute [go_sem] ze_78
theorem sz_93 : szOf Go.Proofs.Tryz.prog 93 = some 1 := by kernel_rfl
attribute [go_sem] sz_93
theorem ld_93 (h : H) (id off : Nat) : loadT Go.Proofs.Tryz.prog h 93 id off = @thn _ _ (h.blk id) ⟨fun b => b.get off⟩ := by kernel_rfl
attribute [go_sem] ld_93
theorem st_93 (h : H) (id off : Nat) (v : CV) : storeT Go.Proofs.Tryz.prog h 93 id off v = @thn _ _ (h.blk id) ⟨fun b => cond (Nat.beq v.cells.length 1 && !b.ro) ((b.storeA off v.cells).map fun b' => h.put id (.cells b')) none⟩ := by kernel_rfl
attribute [go_sem] st_93
theorem part_93 (cs : List CV) (off : Nat) : partT Go.Proofs.Tryz.prog 93 cs off = nth cs off := by kernel_rfl
attribute [go_sem] part_93
theorem ze_93 : zeroT Go.Proofs.Tryz.prog 93 = some (.nils) := by kernel_rfl
attribute [go_sem] ze_93
theorem ia_93 (id off len k : Nat) (c : Cap) (kd : IntKind) : indexAddrT Go.Proofs.Tryz.prog 93 (.sl id off len c) (.int kd (Int.ofNat k)) = cond (Nat.blt k len) (some (.ptr id (off + k * 1))) none := by kernel_rfl
attribute [go_sem] ia_93
theorem len_93 (h : H) (id off len : Nat) (c : Cap) (ts : List TypeId) (az : List CV) : builtinT Go.Proofs.Tryz.prog h .len (93 :: ts) (.sl id off len c :: az) = some (.val (.int .i64 (Int.ofNat len))) := by kernel_rfl
attribute [go_sem] len_93
theorem len_93_n (h : H) (ts : List TypeId) (az : List CV) : builtinT Go.Proofs.Tryz.prog h .len (93 :: ts) (.nils :: az) = some (.val (.int .i64 0)) := by kernel_rfl
attribute [go_sem] len_93_n
theorem app_93 (h : H) (s : CV) (id off len : Nat) (c : Cap) (ts : List TypeId) (az : List CV) : builtinT Go.Proofs.Tryz.prog h .append (93 :: 93 :: ts) (s :: .sl id off len c :: az) = uv (appendT Go.Proofs.Tryz.prog h 93 s (.sl id off len c)) := by kernel_rfl
attribute [go_sem] app_93
theorem app_93_n (h : H) (s : CV) (ts : List TypeId) (az : List CV) : builtinT Go.Proofs.Tryz.prog h .append (93 :: 93 :: ts) (s :: .nils :: az) = uv (appendT Go.Proofs.Tryz.prog h 93 s .nils) := by kernel_rfl
attribute [go_sem] app_93_n
theorem ap_93 (h : H) (s : CV) (id off len : Nat) (c : Cap) : appendT Go.Proofs.Tryz.prog h 93 s (.sl id off len c) = appS h 1 16 1 s len (firstC h 1 len (.sl id off len c)) := by kernel_rfl
attribute [go_sem] ap_93
theorem ap_93_n (h : H) (s : CV) : appendT Go.Proofs.Tryz.prog h 93 s .nils = appS h 1 16 1 s 0 (some []) := by kernel_rfl
attribute [go_sem] ap_93_n
theorem ap_93_z (h : H) (s : CV) (a b c d : Nat) : appendT Go.Proofs.Tryz.prog h 93 s (.sl0 a b c d) = appS h 1 16 1 s 0 (some []) := by kernel_rfl
attribute [go_sem] ap_93_z
theorem bs_93 (h : H) (n : Nat) (parts : List (Nat × CV)) : buildSliceT Go.Proofs.Tryz.prog h 93 n parts = bslS h 1 (CV.cells (.str [])) n parts := by kernel_rfl
attribute [go_sem] bs_93
theorem ms_93 (h : H) (l c : Nat) (k k' : IntKind) : makeSliceT Go.Proofs.Tryz.prog h 93 (.int k (Int.ofNat l)) (.int k' (Int.ofNat c)) = mkS h 1 16 (zeroT Go.Proofs.Tryz.prog 9) l c := by kernel_rfl
attribute [go_sem] ms_93
theorem eq_93 (xo yo : Operand) (a b c : Nat) (d : Cap) : binT Go.Proofs.Tryz.prog .eql 93 xo yo (.sl a b c d) .nils = some (.bool false) := by kernel_rfl
attribute [go_sem] eq_93
theorem eq_93_n (xo yo : Operand) : binT Go.Proofs.Tryz.prog .eql 93 xo yo .nils .nils = some (.bool true) := by kernel_rfl
attribute [go_sem] eq_93_n
theorem eq_93_z (xo yo : Operand) (a b c d : Nat) : binT Go.Proofs.Tryz.prog .eql 93 xo yo (.sl0 a b c d) .nils = some (.bool false) := by kernel_rfl
attribute [go_sem] eq_93_z
theorem ne_93 (xo yo : Operand) (a b c : Nat) (d : Cap) : binT Go.Proofs.Tryz.prog .neq 93 xo yo (.sl a b c d) .nils = some (.bool true) := by kernel_rfl
attribute [go_sem] ne_93
theorem ne_93_n (xo yo : Operand) : binT Go.Proofs.Tryz.prog .neq 93 xo yo .nils .nils = some (.bool false) := by kernel_rfl
attribute [go_sem] ne_93_n
theorem ne_93_z (xo yo : Operand) (a b c d : Nat) : binT Go.Proofs.Tryz.prog .neq 93 xo yo (.sl0 a b c d) .nils = some (.bool true) := by kernel_rfl
attribute [go_sem] ne_93_z
theorem len_93_z (h : H) (a b c d : Nat) (ts : List TypeId) (az : List CV) : builtinT Go.Proofs.Tryz.prog h .len (93 :: ts) (.sl0 a b c d :: az) = some (.val (.int .i64 0)) := by kernel_rfl
attribute [go_sem] len_93_z
theorem app_93_z (h : H) (s : CV) (a b c d : Nat) (ts : List TypeId) (az : List CV) : builtinT Go.Proofs.Tryz.prog h .append (93 :: 93 :: ts) (s :: .sl0 a b c d :: az) = uv (appendT Go.Proofs.Tryz.prog h 93 s (.sl0 a b c d)) := by kernel_rfl
attribute [go_sem] app_93_z
theorem sz_97 : szOf Go.Proofs.Tryz.prog 97 = some 7 := by kernel_rfl
attribute [go_sem] sz_97
theorem ld_97 (h : H) (id off : Nat) : loadT Go.Proofs.Tryz.prog h 97 id off = @thn _ _ (h.blk id) ⟨fun b => (b.loadN off 7).map .agg⟩ := by kernel_rfl
attribute [go_sem] ld_97
theorem st_97 (h : H) (id off : Nat) (v : CV) : storeT Go.Proofs.Tryz.prog h 97 id off v = @thn _ _ (h.blk id) ⟨fun b => cond (Nat.beq v.cells.length 7 && !b.ro) ((b.storeA off v.cells).map fun b' => h.put id (.cells b')) none⟩ := by kernel_rfl
attribute [go_sem] st_97
theorem part_97 (cs : List CV) (off : Nat) : partT Go.Proofs.Tryz.prog 97 cs off = some (.agg ((cs.drop off).take 7)) := by kernel_rfl
attribute [go_sem] part_97
theorem ze_97 : zeroT Go.Proofs.Tryz.prog 97 = some (.agg [.str [], .str [], .str [], .str [], .str [], .str [], .str []]) := by kernel_rfl
attribute [go_sem] ze_97
theorem ia_97 (id off k : Nat) (kd : IntKind) : indexAddrT Go.Proofs.Tryz.prog 97 (.ptr id off) (.int kd (Int.ofNat k)) = cond (Nat.blt k 7) (some (.ptr id (off + k * 1))) none := by kernel_rfl
attribute [go_sem] ia_97
theorem ix_97 (cs : List CV) (k : Nat) (kd : IntKind) : indexT Go.Proofs.Tryz.prog 97 (.agg cs) (.int kd (Int.ofNat k)) = cond (Nat.blt k 7) (partT Go.Proofs.Tryz.prog 9 cs (k * 1)) none := by kernel_rfl
attribute [go_sem] ix_97
theorem len_97 (h : H) (ts : List TypeId) (az : List CV) (a : CV) : builtinT Go.Proofs.Tryz.prog h .len (97 :: ts) (a :: az) = some (.val (.int .i64 7)) := by kernel_rfl
attribute [go_sem] len_97
theorem bt_97 (parts : List (Nat × CV)) : buildT Go.Proofs.Tryz.prog 97 parts = finB (CV.cells (.agg [.str [], .str [], .str [], .str [], .str [], .str [], .str []])) (fun i => some (i * 1, 1)) parts := by kernel_rfl
attribute [go_sem] bt_97
theorem sz_138 : szOf Go.Proofs.Tryz.prog 138 = some 1 := by kernel_rfl
attribute [go_sem] sz_138
theorem ld_138 (h : H) (id off : Nat) : loadT Go.Proofs.Tryz.prog h 138 id off = @thn _ _ (h.blk id) ⟨fun b => b.get off⟩ := by kernel_rfl
attribute [go_sem] ld_138
theorem st_138 (h : H) (id off : Nat) (v : CV) : storeT Go.Proofs.Tryz.prog h 138 id off v = @thn _ _ (h.blk id) ⟨fun b => cond (Nat.beq v.cells.length 1 && !b.ro) ((b.storeA off v.cells).map fun b' => h.put id (.cells b')) none⟩ := by kernel_rfl
attribute [go_sem] st_138
theorem part_138 (cs : List CV) (off : Nat) : partT Go.Proofs.Tryz.prog 138 cs off = nth cs off := by kernel_rfl
attribute [go_sem] part_138
theorem sz_140 : szOf Go.Proofs.Tryz.prog 140 = some 1 := by kernel_rfl
attribute [go_sem] sz_140
theorem ld_140 (h : H) (id off : Nat) : loadT Go.Proofs.Tryz.prog h 140 id off = @thn _ _ (h.blk id) ⟨fun b => b.get off⟩ := by kernel_rfl
attribute [go_sem] ld_140
theorem st_140 (h : H) (id off : Nat) (v : CV) : storeT Go.Proofs.Tryz.prog h 140 id off v = @thn _ _ (h.blk id) ⟨fun b => cond (Nat.beq v.cells.length 1 && !b.ro) ((b.storeA off v.cells).map fun b' => h.put id (.cells b')) none⟩ := by kernel_rfl
attribute [go_sem] st_140
theorem part_140 (cs : List CV) (off : Nat) : partT Go.Proofs.Tryz.prog 140 cs off = nth cs off := by kernel_rfl
attribute [go_sem] part_140
theorem sz_158 : szOf Go.Proofs.Tryz.prog 158 = some 1 := by kernel_rfl
attribute [go_sem] sz_158
theorem ld_158 (h : H) (id off : Nat) : loadT Go.Proofs.Tryz.prog h 158 id off = @thn _ _ (h.blk id) ⟨fun b => b.get off⟩ := by kernel_rfl
attribute [go_sem] ld_158
theorem st_158 (h : H) (id off : Nat) (v : CV) : storeT Go.Proofs.Tryz.prog h 158 id off v = @thn _ _ (h.blk id) ⟨fun b => cond (Nat.beq v.cells.length 1 && !b.ro) ((b.storeA off v.cells).map fun b' => h.put id (.cells b')) none⟩ := by kernel_rfl
attribute [go_sem] st_158
theorem part_158 (cs : List CV) (off : Nat) : partT Go.Proofs.Tryz.prog 158 cs off = nth cs off := by kernel_rfl
attribute [go_sem] part_158
theorem sz_164 : szOf Go.Proofs.Tryz.prog 164 = some 1 := by kernel_rfl
attribute [go_sem] sz_164
theorem ld_164 (h : H) (id off : Nat) : loadT Go.Proofs.Tryz.prog h 164 id off = @thn _ _ (h.blk id) ⟨fun b => b.get off⟩ := by kernel_rfl
attribute [go_sem] ld_164
theorem st_164 (h : H) (id off : Nat) (v : CV) : storeT Go.Proofs.Tryz.prog h 164 id off v = @thn _ _ (h.blk id) ⟨fun b => cond (Nat.beq v.cells.length 1 && !b.ro) ((b.storeA off v.cells).map fun b' => h.put id (.cells b')) none⟩ := by kernel_rfl
attribute [go_sem] st_164
theorem part_164 (cs : List CV) (off : Nat) : partT Go.Proofs.Tryz.prog 164 cs off = nth cs off := by kernel_rfl
attribute [go_sem] part_164
theorem ze_164 : zeroT Go.Proofs.Tryz.prog 164 = some (.nils) := by kernel_rfl
attribute [go_sem] ze_164
theorem ia_164 (id off len k : Nat) (c : Cap) (kd : IntKind) : indexAddrT Go.Proofs.Tryz.prog 164 (.sl id off len c) (.int kd (Int.ofNat k)) = cond (Nat.blt k len) (some (.ptr id (off + k * 1))) none := by kernel_rfl
attribute [go_sem] ia_164
theorem len_164 (h : H) (id off len : Nat) (c : Cap) (ts : List TypeId) (az : List CV) : builtinT Go.Proofs.Tryz.prog h .len (164 :: ts) (.sl id off len c :: az) = some (.val (.int .i64 (Int.ofNat len))) := by kernel_rfl
attribute [go_sem] len_164
theorem len_164_n (h : H) (ts : List TypeId) (az : List CV) : builtinT Go.Proofs.Tryz.prog h .len (164 :: ts) (.nils :: az) = some (.val (.int .i64 0)) := by kernel_rfl
attribute [go_sem] len_164_n
theorem app_164 (h : H) (s : CV) (id off len : Nat) (c : Cap) (ts : List TypeId) (az : List CV) : builtinT Go.Proofs.Tryz.prog h .append (164 :: 164 :: ts) (s :: .sl id off len c :: az) = uv (appendT Go.Proofs.Tryz.prog h 164 s (.sl id off len c)) := by kernel_rfl
attribute [go_sem] app_164
theorem app_164_n (h : H) (s : CV) (ts : List TypeId) (az : List CV) : builtinT Go.Proofs.Tryz.prog h .append (164 :: 164 :: ts) (s :: .nils :: az) = uv (appendT Go.Proofs.Tryz.prog h 164 s .nils) := by kernel_rfl
attribute [go_sem] app_164_n
theorem ap_164 (h : H) (s : CV) (id off len : Nat) (c : Cap) : appendT Go.Proofs.Tryz.prog h 164 s (.sl id off len c) = appSb 5 h 1 1 1 s len (firstC h 1 len (.sl id off len c)) := by kernel_rfl
attribute [go_sem] ap_164
theorem ap_164_n (h : H) (s : CV) : appendT Go.Proofs.Tryz.prog h 164 s .nils = appSb 5 h 1 1 1 s 0 (some []) := by kernel_rfl
attribute [go_sem] ap_164_n
theorem ap_164_z (h : H) (s : CV) (a b c d : Nat) : appendT Go.Proofs.Tryz.prog h 164 s (.sl0 a b c d) = appSb 5 h 1 1 1 s 0 (some []) := by kernel_rfl
attribute [go_sem] ap_164_z
theorem bs_164 (h : H) (n : Nat) (parts : List (Nat × CV)) : buildSliceT Go.Proofs.Tryz.prog h 164 n parts = bslS h 1 (CV.cells (.int .u8 0)) n parts := by kernel_rfl
attribute [go_sem] bs_164
theorem ms_164 (h : H) (l c : Nat) (k k' : IntKind) : makeSliceT Go.Proofs.Tryz.prog h 164 (.int k (Int.ofNat l)) (.int k' (Int.ofNat c)) = mkS h 1 1 (zeroT Go.Proofs.Tryz.prog 5) l c := by kernel_rfl
attribute [go_sem] ms_164
theorem eq_164 (xo yo : Operand) (a b c : Nat) (d : Cap) : binT Go.Proofs.Tryz.prog .eql 164 xo yo (.sl a b c d) .nils = some (.bool false) := by kernel_rfl
attribute [go_sem] eq_164
theorem eq_164_n (xo yo : Operand) : binT Go.Proofs.Tryz.prog .eql 164 xo yo .nils .nils = some (.bool true) := by kernel_rfl
attribute [go_sem] eq_164_n
theorem eq_164_z (xo yo : Operand) (a b c d : Nat) : binT Go.Proofs.Tryz.prog .eql 164 xo yo (.sl0 a b c d) .nils = some (.bool false) := by kernel_rfl
attribute [go_sem] eq_164_z
theorem ne_164 (xo yo : Operand) (a b c : Nat) (d : Cap) : binT Go.Proofs.Tryz.prog .neq 164 xo yo (.sl a b c d) .nils = some (.bool true) := by kernel_rfl
attribute [go_sem] ne_164
theorem ne_164_n (xo yo : Operand) : binT Go.Proofs.Tryz.prog .neq 164 xo yo .nils .nils = some (.bool false) := by kernel_rfl
attribute [go_sem] ne_164_n
theorem ne_164_z (xo yo : Operand) (a b c d : Nat) : binT Go.Proofs.Tryz.prog .neq 164 xo yo (.sl0 a b c d) .nils = some (.bool true) := by kernel_rfl
attribute [go_sem] ne_164_z
theorem len_164_z (h : H) (a b c d : Nat) (ts : List TypeId) (az : List CV) : builtinT Go.Proofs.Tryz.prog h .len (164 :: ts) (.sl0 a b c d :: az) = some (.val (.int .i64 0)) := by kernel_rfl
attribute [go_sem] len_164_z
theorem app_164_z (h : H) (s : CV) (a b c d : Nat) (ts : List TypeId) (az : List CV) : builtinT Go.Proofs.Tryz.prog h .append (164 :: 164 :: ts) (s :: .sl0 a b c d :: az) = uv (appendT Go.Proofs.Tryz.prog h 164 s (.sl0 a b c d)) := by kernel_rfl
attribute [go_sem] app_164_z
theorem sz_185 : szOf Go.Proofs.Tryz.prog 185 = some 5 := by kernel_rfl
attribute [go_sem] sz_185
theorem ld_185 (h : H) (id off : Nat) : loadT Go.Proofs.Tryz.prog h 185 id off = @thn _ _ (h.blk id) ⟨fun b => (b.loadN off 5).map .agg⟩ := by kernel_rfl
attribute [go_sem] ld_185
theorem st_185 (h : H) (id off : Nat) (v : CV) : storeT Go.Proofs.Tryz.prog h 185 id off v = @thn _ _ (h.blk id) ⟨fun b => cond (Nat.beq v.cells.length 5 && !b.ro) ((b.storeA off v.cells).map fun b' => h.put id (.cells b')) none⟩ := by kernel_rfl
attribute [go_sem] st_185
theorem part_185 (cs : List CV) (off : Nat) : partT Go.Proofs.Tryz.prog 185 cs off = some (.agg ((cs.drop off).take 5)) := by kernel_rfl
attribute [go_sem] part_185
theorem ze_185 : zeroT Go.Proofs.Tryz.prog 185 = some (.agg [.int .u64 0, .int .u64 0, .int .u64 0, .int .u64 0, .int .u64 0]) := by kernel_rfl
attribute [go_sem] ze_185
theorem ia_185 (id off k : Nat) (kd : IntKind) : indexAddrT Go.Proofs.Tryz.prog 185 (.ptr id off) (.int kd (Int.ofNat k)) = cond (Nat.blt k 5) (some (.ptr id (off + k * 1))) none := by kernel_rfl
attribute [go_sem] ia_185
theorem ix_185 (cs : List CV) (k : Nat) (kd : IntKind) : indexT Go.Proofs.Tryz.prog 185 (.agg cs) (.int kd (Int.ofNat k)) = cond (Nat.blt k 5) (partT Go.Proofs.Tryz.prog 24 cs (k * 1)) none := by kernel_rfl
attribute [go_sem] ix_185
theorem len_185 (h : H) (ts : List TypeId) (az : List CV) (a : CV) : builtinT Go.Proofs.Tryz.prog h .len (185 :: ts) (a :: az) = some (.val (.int .i64 5)) := by kernel_rfl
attribute [go_sem] len_185
theorem bt_185 (parts : List (Nat × CV)) : buildT Go.Proofs.Tryz.prog 185 parts = finB (CV.cells (.agg [.int .u64 0, .int .u64 0, .int .u64 0, .int .u64 0, .int .u64 0])) (fun i => some (i * 1, 1)) parts := by kernel_rfl
attribute [go_sem] bt_185
theorem sz_212 : szOf Go.Proofs.Tryz.prog 212 = some 1 := by kernel_rfl
attribute [go_sem] sz_212
theorem ld_212 (h : H) (id off : Nat) : loadT Go.Proofs.Tryz.prog h 212 id off = @thn _ _ (h.blk id) ⟨fun b => b.get off⟩ := by kernel_rfl
attribute [go_sem] ld_212
theorem st_212 (h : H) (id off : Nat) (v : CV) : storeT Go.Proofs.Tryz.prog h 212 id off v = @thn _ _ (h.blk id) ⟨fun b => cond (Nat.beq v.cells.length 1 && !b.ro) ((b.storeA off v.cells).map fun b' => h.put id (.cells b')) none⟩ := by kernel_rfl
attribute [go_sem] st_212
theorem part_212 (cs : List CV) (off : Nat) : partT Go.Proofs.Tryz.prog 212 cs off = nth cs off := by kernel_rfl
attribute [go_sem] part_212
theorem sz_218 : szOf Go.Proofs.Tryz.prog 218 = some 1 := by kernel_rfl
attribute [go_sem] sz_218
theorem ld_218 (h : H) (id off : Nat) : loadT Go.Proofs.Tryz.prog h 218 id off = @thn _ _ (h.blk id) ⟨fun b => b.get off⟩ := by kernel_rfl
attribute [go_sem] ld_218
theorem st_218 (h : H) (id off : Nat) (v : CV) : storeT Go.Proofs.Tryz.prog h 218 id off v = @thn _ _ (h.blk id) ⟨fun b => cond (Nat.beq v.cells.length 1 && !b.ro) ((b.storeA off v.cells).map fun b' => h.put id (.cells b')) none⟩ := by kernel_rfl
attribute [go_sem] st_218
theorem part_218 (cs : List CV) (off : Nat) : partT Go.Proofs.Tryz.prog 218 cs off = nth cs off := by kernel_rfl
attribute [go_sem] part_218
theorem ze_218 : zeroT Go.Proofs.Tryz.prog 218 = some (.nili) := by kernel_rfl
attribute [go_sem] ze_218
theorem sz_219 : szOf Go.Proofs.Tryz.prog 219 = some 1 := by kernel_rfl
attribute [go_sem] sz_219
theorem ld_219 (h : H) (id off : Nat) : loadT Go.Proofs.Tryz.prog h 219 id off = @thn _ _ (h.blk id) ⟨fun b => b.get off⟩ := by kernel_rfl
attribute [go_sem] ld_219
theorem st_219 (h : H) (id off : Nat) (v : CV) : storeT Go.Proofs.Tryz.prog h 219 id off v = @thn _ _ (h.blk id) ⟨fun b => cond (Nat.beq v.cells.length 1 && !b.ro) ((b.storeA off v.cells).map fun b' => h.put id (.cells b')) none⟩ := by kernel_rfl
attribute [go_sem] st_219
theorem part_219 (cs : List CV) (off : Nat) : partT Go.Proofs.Tryz.prog 219 cs off = nth cs off := by kernel_rfl
attribute [go_sem] part_219
theorem sz_222 : szOf Go.Proofs.Tryz.prog 222 = some 1 := by kernel_rfl
attribute [go_sem] sz_222
theorem ld_222 (h : H) (id off : Nat) : loadT Go.Proofs.Tryz.prog h 222 id off = @thn _ _ (h.blk id) ⟨fun b => b.get off⟩ := by kernel_rfl
attribute [go_sem] ld_222
theorem st_222 (h : H) (id off : Nat) (v : CV) : storeT Go.Proofs.Tryz.prog h 222 id off v = @thn _ _ (h.blk id) ⟨fun b => cond (Nat.beq v.cells.length 1 && !b.ro) ((b.storeA off v.cells).map fun b' => h.put id (.cells b')) none⟩ := by kernel_rfl
attribute [go_sem] st_222
theorem part_222 (cs : List CV) (off : Nat) : partT Go.Proofs.Tryz.prog 222 cs off = nth cs off := by kernel_rfl
attribute [go_sem] part_222
theorem sz_227 : szOf Go.Proofs.Tryz.prog 227 = some 1 := by kernel_rfl
attribute [go_sem] sz_227
theorem ld_227 (h : H) (id off : Nat) : loadT Go.Proofs.Tryz.prog h 227 id off = @thn _ _ (h.blk id) ⟨fun b => b.get off⟩ := by kernel_rfl
attribute [go_sem] ld_227
theorem st_227 (h : H) (id off : Nat) (v : CV) : storeT Go.Proofs.Tryz.prog h 227 id off v = @thn _ _ (h.blk id) ⟨fun b => cond (Nat.beq v.cells.length 1 && !b.ro) ((b.storeA off v.cells).map fun b' => h.put id (.cells b')) none⟩ := by kernel_rfl
attribute [go_sem] st_227
theorem part_227 (cs : List CV) (off : Nat) : partT Go.Proofs.Tryz.prog 227 cs off = nth cs off := by kernel_rfl
attribute [go_sem] part_227
theorem ze_227 : zeroT Go.Proofs.Tryz.prog 227 = some (.nilp) := by kernel_rfl
attribute [go_sem] ze_227
theorem eq_227 (xo yo : Operand) (a b : Nat) : binT Go.Proofs.Tryz.prog .eql 227 xo yo (.ptr a b) .nilp = some (.bool false) := by kernel_rfl
attribute [go_sem] eq_227
theorem eq_227_n (xo yo : Operand) : binT Go.Proofs.Tryz.prog .eql 227 xo yo .nilp .nilp = some (.bool true) := by kernel_rfl
attribute [go_sem] eq_227_n
theorem ne_227 (xo yo : Operand) (a b : Nat) : binT Go.Proofs.Tryz.prog .neq 227 xo yo (.ptr a b) .nilp = some (.bool true) := by kernel_rfl
attribute [go_sem] ne_227
theorem ne_227_n (xo yo : Operand) : binT Go.Proofs.Tryz.prog .neq 227 xo yo .nilp .nilp = some (.bool false) := by kernel_rfl
attribute [go_sem] ne_227_n
theorem sz_232 : szOf Go.Proofs.Tryz.prog 232 = some 1 := by kernel_rfl
attribute [go_sem] sz_232
theorem ld_232 (h : H) (id off : Nat) : loadT Go.Proofs.Tryz.prog h 232 id off = @thn _ _ (h.blk id) ⟨fun b => b.get off⟩ := by kernel_rfl
attribute [go_sem] ld_232
theorem st_232 (h : H) (id off : Nat) (v : CV) : storeT Go.Proofs.Tryz.prog h 232 id off v = @thn _ _ (h.blk id) ⟨fun b => cond (Nat.beq v.cells.length 1 && !b.ro) ((b.storeA off v.cells).map fun b' => h.put id (.cells b')) none⟩ := by kernel_rfl
attribute [go_sem] st_232
theorem part_232 (cs : List CV) (off : Nat) : partT Go.Proofs.Tryz.prog 232 cs off = nth cs off := by kernel_rfl
attribute [go_sem] part_232
theorem sz_234 : szOf Go.Proofs.Tryz.prog 234 = some 32 := by kernel_rfl
attribute [go_sem] sz_234
theorem ld_234 (h : H) (id off : Nat) : loadT Go.Proofs.Tryz.prog h 234 id off = @thn _ _ (h.blk id) ⟨fun b => (b.loadN off 32).map .agg⟩ := by kernel_rfl
attribute [go_sem] ld_234
theorem st_234 (h : H) (id off : Nat) (v : CV) : storeT Go.Proofs.Tryz.prog h 234 id off v = @thn _ _ (h.blk id) ⟨fun b => cond (Nat.beq v.cells.length 32 && !b.ro) ((b.storeA off v.cells).map fun b' => h.put id (.cells b')) none⟩ := by kernel_rfl
attribute [go_sem] st_234
theorem part_234 (cs : List CV) (off : Nat) : partT Go.Proofs.Tryz.prog 234 cs off = some (.agg ((cs.drop off).take 32)) := by kernel_rfl
attribute [go_sem] part_234
theorem ze_234 : zeroT Go.Proofs.Tryz.prog 234 = some (.agg [.int .u8 0, .int .u8 0, .int .u8 0, .int .u8 0, .int .u8 0, .int .u8 0, .int .u8 0, .int .u8 0, .int .u8 0, .int .u8 0, .int .u8 0, .int .u8 0, .int .u8 0, .int .u8 0, .int .u8 0, .int .u8 0, .int .u8 0, .int .u8 0, .int .u8 0, .int .u8 0, .int .u8 0, .int .u8 0, .int .u8 0, .int .u8 0, .int .u8 0, .int .u8 0, .int .u8 0, .int .u8 0, .int .u8 0, .int .u8 0, .int .u8 0, .int .u8 0]) := by kernel_rfl
attribute [go_sem] ze_234
theorem ia_234 (id off k : Nat) (kd : IntKind) : indexAddrT Go.Proofs.Tryz.prog 234 (.ptr id off) (.int kd (Int.ofNat k)) = cond (Nat.blt k 32) (some (.ptr id (off + k * 1))) none := by kernel_rfl
attribute [go_sem] ia_234
theorem ix_234 (cs : List CV) (k : Nat) (kd : IntKind) : indexT Go.Proofs.Tryz.prog 234 (.agg cs) (.int kd (Int.ofNat k)) = cond (Nat.blt k 32) (partT Go.Proofs.Tryz.prog 5 cs (k * 1)) none := by kernel_rfl
attribute [go_sem] ix_234
theorem len_234 (h : H) (ts : List TypeId) (az : List CV) (a : CV) : builtinT Go.Proofs.Tryz.prog h .len (234 :: ts) (a :: az) = some (.val (.int .i64 32)) := by kernel_rfl
attribute [go_sem] len_234
theorem bt_234 (parts : List (Nat × CV)) : buildT Go.Proofs.Tryz.prog 234 parts = finB (CV.cells (.agg [.int .u8 0, .int .u8 0, .int .u8 0, .int .u8 0, .int .u8 0, .int .u8 0, .int .u8 0, .int .u8 0, .int .u8 0, .int .u8 0, .int .u8 0, .int .u8 0, .int .u8 0, .int .u8 0, .int .u8 0, .int .u8 0, .int .u8 0, .int .u8 0, .int .u8 0, .int .u8 0, .int .u8 0, .int .u8 0, .int .u8 0, .int .u8 0, .int .u8 0, .int .u8 0, .int .u8 0, .int .u8 0, .int .u8 0, .int .u8 0, .int .u8 0, .int .u8 0])) (fun i => some (i * 1, 1)) parts := by kernel_rfl
attribute [go_sem] bt_234
theorem sz_248 : szOf Go.Proofs.Tryz.prog 248 = some 1 := by kernel_rfl
attribute [go_sem] sz_248
theorem ld_248 (h : H) (id off : Nat) : loadT Go.Proofs.Tryz.prog h 248 id off = @thn _ _ (h.blk id) ⟨fun b => b.get off⟩ := by kernel_rfl
attribute [go_sem] ld_248
theorem st_248 (h : H) (id off : Nat) (v : CV) : storeT Go.Proofs.Tryz.prog h 248 id off v = @thn _ _ (h.blk id) ⟨fun b => cond (Nat.beq v.cells.length 1 && !b.ro) ((b.storeA off v.cells).map fun b' => h.put id (.cells b')) none⟩ := by kernel_rfl
attribute [go_sem] st_248
theorem part_248 (cs : List CV) (off : Nat) : partT Go.Proofs.Tryz.prog 248 cs off = nth cs off := by kernel_rfl
attribute [go_sem] part_248
theorem sz_252 : szOf Go.Proofs.Tryz.prog 252 = some 1 := by kernel_rfl
attribute [go_sem] sz_252
theorem ld_252 (h : H) (id off : Nat) : loadT Go.Proofs.Tryz.prog h 252 id off = @thn _ _ (h.blk id) ⟨fun b => b.get off⟩ := by kernel_rfl
attribute [go_sem] ld_252
theorem st_252 (h : H) (id off : Nat) (v : CV) : storeT Go.Proofs.Tryz.prog h 252 id off v = @thn _ _ (h.blk id) ⟨fun b => cond (Nat.beq v.cells.length 1 && !b.ro) ((b.storeA off v.cells).map fun b' => h.put id (.cells b')) none⟩ := by kernel_rfl
attribute [go_sem] st_252
theorem part_252 (cs : List CV) (off : Nat) : partT Go.Proofs.Tryz.prog 252 cs off = nth cs off := by kernel_rfl
attribute [go_sem] part_252
theorem ze_252 : zeroT Go.Proofs.Tryz.prog 252 = some (.int .u32 0) := by kernel_rfl
attribute [go_sem] ze_252
theorem sz_253 : szOf Go.Proofs.Tryz.prog 253 = some 8 := by kernel_rfl
attribute [go_sem] sz_253
theorem ld_253 (h : H) (id off : Nat) : loadT Go.Proofs.Tryz.prog h 253 id off = @thn _ _ (h.blk id) ⟨fun b => (b.loadN off 8).map .agg⟩ := by kernel_rfl
attribute [go_sem] ld_253
theorem st_253 (h : H) (id off : Nat) (v : CV) : storeT Go.Proofs.Tryz.prog h 253 id off v = @thn _ _ (h.blk id) ⟨fun b => cond (Nat.beq v.cells.length 8 && !b.ro) ((b.storeA off v.cells).map fun b' => h.put id (.cells b')) none⟩ := by kernel_rfl
attribute [go_sem] st_253
theorem part_253 (cs : List CV) (off : Nat) : partT Go.Proofs.Tryz.prog 253 cs off = some (.agg ((cs.drop off).take 8)) := by kernel_rfl
attribute [go_sem] part_253
theorem ze_253 : zeroT Go.Proofs.Tryz.prog 253 = some (.agg [.int .u32 0, .int .u32 0, .int .u32 0, .int .u32 0, .int .u32 0, .int .u32 0, .int .u32 0, .int .u32 0]) := by kernel_rfl
attribute [go_sem] ze_253
theorem ia_253 (id off k : Nat) (kd : IntKind) : indexAddrT Go.Proofs.Tryz.prog 253 (.ptr id off) (.int kd (Int.ofNat k)) = cond (Nat.blt k 8) (some (.ptr id (off + k * 1))) none := by kernel_rfl
attribute [go_sem] ia_253
theorem ix_253 (cs : List CV) (k : Nat) (kd : IntKind) : indexT Go.Proofs.Tryz.prog 253 (.agg cs) (.int kd (Int.ofNat k)) = cond (Nat.blt k 8) (partT Go.Proofs.Tryz.prog 252 cs (k * 1)) none := by kernel_rfl
attribute [go_sem] ix_253
theorem len_253 (h : H) (ts : List TypeId) (az : List CV) (a : CV) : builtinT Go.Proofs.Tryz.prog h .len (253 :: ts) (a :: az) = some (.val (.int .i64 8)) := by kernel_rfl
attribute [go_sem] len_253
theorem bt_253 (parts : List (Nat × CV)) : buildT Go.Proofs.Tryz.prog 253 parts = finB (CV.cells (.agg [.int .u32 0, .int .u32 0, .int .u32 0, .int .u32 0, .int .u32 0, .int .u32 0, .int .u32 0, .int .u32 0])) (fun i => some (i * 1, 1)) parts := by kernel_rfl
attribute [go_sem] bt_253
theorem sz_254 : szOf Go.Proofs.Tryz.prog 254 = some 64 := by kernel_rfl
attribute [go_sem] sz_254
theorem ld_254 (h : H) (id off : Nat) : loadT Go.Proofs.Tryz.prog h 254 id off = @thn _ _ (h.blk id) ⟨fun b => (b.loadN off 64).map .agg⟩ := by kernel_rfl
attribute [go_sem] ld_254
theorem st_254 (h : H) (id off : Nat) (v : CV) : storeT Go.Proofs.Tryz.prog h 254 id off v = @thn _ _ (h.blk id) ⟨fun b => cond (Nat.beq v.cells.length 64 && !b.ro) ((b.storeA off v.cells).map fun b' => h.put id (.cells b')) none⟩ := by kernel_rfl
attribute [go_sem] st_254
theorem part_254 (cs : List CV) (off : Nat) : partT Go.Proofs.Tryz.prog 254 cs off = some (.agg ((cs.drop off).take 64)) := by kernel_rfl
attribute [go_sem] part_254
theorem ze_254 : zeroT Go.Proofs.Tryz.prog 254 = some (.agg [.int .u32 0, .int .u32 0, .int .u32 0, .int .u32 0, .int .u32 0, .int .u32 0, .int .u32 0, .int .u32 0, .int .u32 0, .int .u32 0, .int .u32 0, .int .u32 0, .int .u32 0, .int .u32 0, .int .u32 0, .int .u32 0, .int .u32 0, .int .u32 0, .int .u32 0, .int .u32 0, .int .u32 0, .int .u32 0, .int .u32 0, .int .u32 0, .int .u32 0, .int .u32 0, .int .u32 0, .int .u32 0, .int .u32 0, .int .u32 0, .int .u32 0, .int .u32 0, .int .u32 0, .int .u32 0, .int .u32 0, .int .u32 0, .int .u32 0, .int .u32 0, .int .u32 0, .int .u32 0, .int .u32 0, .int .u32 0, .int .u32 0, .int .u32 0, .int .u32 0, .int .u32 0, .int .u32 0, .int .u32 0, .int .u32 0, .int .u32 0, .int .u32 0, .int .u32 0, .int .u32 0, .int .u32 0, .int .u32 0, .int .u32 0, .int .u32 0, .int .u32 0, .int .u32 0, .int .u32 0, .int .u32 0, .int .u32 0, .int .u32 0, .int .u32 0]) := by kernel_rfl
attribute [go_sem] ze_254
theorem ia_254 (id off k : Nat) (kd : IntKind) : indexAddrT Go.Proofs.Tryz.prog 254 (.ptr id off) (.int kd (Int.ofNat k)) = cond (Nat.blt k 64) (some (.ptr id (off + k * 1))) none := by kernel_rfl
attribute [go_sem] ia_254
theorem ix_254 (cs : List CV) (k : Nat) (kd : IntKind) : indexT Go.Proofs.Tryz.prog 254 (.agg cs) (.int kd (Int.ofNat k)) = cond (Nat.blt k 64) (partT Go.Proofs.Tryz.prog 252 cs (k * 1)) none := by kernel_rfl
attribute [go_sem] ix_254
theorem len_254 (h : H) (ts : List TypeId) (az : List CV) (a : CV) : builtinT Go.Proofs.Tryz.prog h .len (254 :: ts) (a :: az) = some (.val (.int .i64 64)) := by kernel_rfl
attribute [go_sem] len_254
theorem bt_254 (parts : List (Nat × CV)) : buildT Go.Proofs.Tryz.prog 254 parts = finB (CV.cells (.agg [.int .u32 0, .int .u32 0, .int .u32 0, .int .u32 0, .int .u32 0, .int .u32 0, .int .u32 0, .int .u32 0, .int .u32 0, .int .u32 0, .int .u32 0, .int .u32 0, .int .u32 0, .int .u32 0, .int .u32 0, .int .u32 0, .int .u32 0, .int .u32 0, .int .u32 0, .int .u32 0, .int .u32 0, .int .u32 0, .int .u32 0, .int .u32 0, .int .u32 0, .int .u32 0, .int .u32 0, .int .u32 0, .int .u32 0, .int .u32 0, .int .u32 0, .int .u32 0, .int .u32 0, .int .u32 0, .int .u32 0, .int .u32 0, .int .u32 0, .int .u32 0, .int .u32 0, .int .u32 0, .int .u32 0, .int .u32 0, .int .u32 0, .int .u32 0, .int .u32 0, .int .u32 0, .int .u32 0, .int .u32 0, .int .u32 0, .int .u32 0, .int .u32 0, .int .u32 0, .int .u32 0, .int .u32 0, .int .u32 0, .int .u32 0, .int .u32 0, .int .u32 0, .int .u32 0, .int .u32 0, .int .u32 0, .int .u32 0, .int .u32 0, .int .u32 0])) (fun i => some (i * 1, 1)) parts := by kernel_rfl
attribute [go_sem] bt_254
theorem sz_257 : szOf Go.Proofs.Tryz.prog 257 = some 1 := by kernel_rfl
attribute [go_sem] sz_257
theorem ld_257 (h : H) (id off : Nat) : loadT Go.Proofs.Tryz.prog h 257 id off = @thn _ _ (h.blk id) ⟨fun b => b.get off⟩ := by kernel_rfl
attribute [go_sem] ld_257
theorem st_257 (h : H) (id off : Nat) (v : CV) : storeT Go.Proofs.Tryz.prog h 257 id off v = @thn _ _ (h.blk id) ⟨fun b => cond (Nat.beq v.cells.length 1 && !b.ro) ((b.storeA off v.cells).map fun b' => h.put id (.cells b')) none⟩ := by kernel_rfl
attribute [go_sem] st_257
theorem part_257 (cs : List CV) (off : Nat) : partT Go.Proofs.Tryz.prog 257 cs off = nth cs off := by kernel_rfl
attribute [go_sem] part_257
theorem ze_257 : zeroT Go.Proofs.Tryz.prog 257 = some (.nilp) := by kernel_rfl
attribute [go_sem] ze_257
theorem eq_257 (xo yo : Operand) (a b : Nat) : binT Go.Proofs.Tryz.prog .eql 257 xo yo (.ptr a b) .nilp = some (.bool false) := by kernel_rfl
attribute [go_sem] eq_257
theorem eq_257_n (xo yo : Operand) : binT Go.Proofs.Tryz.prog .eql 257 xo yo .nilp .nilp = some (.bool true) := by kernel_rfl
attribute [go_sem] eq_257_n
theorem ne_257 (xo yo : Operand) (a b : Nat) : binT Go.Proofs.Tryz.prog .neq 257 xo yo (.ptr a b) .nilp = some (.bool true) := by kernel_rfl
attribute [go_sem] ne_257
theorem ne_257_n (xo yo : Operand) : binT Go.Proofs.Tryz.prog .neq 257 xo yo .nilp .nilp = some (.bool false) := by kernel_rfl
attribute [go_sem] ne_257_n
theorem sz_258 : szOf Go.Proofs.Tryz.prog 258 = some 1 := by kernel_rfl
attribute [go_sem] sz_258
theorem ld_258 (h : H) (id off : Nat) : loadT Go.Proofs.Tryz.prog h 258 id off = @thn _ _ (h.blk id) ⟨fun b => b.get off⟩ := by kernel_rfl
attribute [go_sem] ld_258
theorem st_258 (h : H) (id off : Nat) (v : CV) : storeT Go.Proofs.Tryz.prog h 258 id off v = @thn _ _ (h.blk id) ⟨fun b => cond (Nat.beq v.cells.length 1 && !b.ro) ((b.storeA off v.cells).map fun b' => h.put id (.cells b')) none⟩ := by kernel_rfl
attribute [go_sem] st_258
theorem part_258 (cs : List CV) (off : Nat) : partT Go.Proofs.Tryz.prog 258 cs off = nth cs off := by kernel_rfl
attribute [go_sem] part_258
theorem ze_258 : zeroT Go.Proofs.Tryz.prog 258 = some (.nilp) := by kernel_rfl
attribute [go_sem] ze_258
theorem eq_258 (xo yo : Operand) (a b : Nat) : binT Go.Proofs.Tryz.prog .eql 258 xo yo (.ptr a b) .nilp = some (.bool false) := by kernel_rfl
attribute [go_sem] eq_258
theorem eq_258_n (xo yo : Operand) : binT Go.Proofs.Tryz.prog .eql 258 xo yo .nilp .nilp = some (.bool true) := by kernel_rfl
attribute [go_sem] eq_258_n
theorem ne_258 (xo yo : Operand) (a b : Nat) : binT Go.Proofs.Tryz.prog .neq 258 xo yo (.ptr a b) .nilp = some (.bool true) := by kernel_rfl
attribute [go_sem] ne_258
theorem ne_258_n (xo yo : Operand) : binT Go.Proofs.Tryz.prog .neq 258 xo yo .nilp .nilp = some (.bool false) := by kernel_rfl
attribute [go_sem] ne_258_n
theorem sz_279 : szOf Go.Proofs.Tryz.prog 279 = some 1 := by kernel_rfl
attribute [go_sem] sz_279
theorem ld_279 (h : H) (id off : Nat) : loadT Go.Proofs.Tryz.prog h 279 id off = @thn _ _ (h.blk id) ⟨fun b => b.get off⟩ := by kernel_rfl
attribute [go_sem] ld_279
theorem st_279 (h : H) (id off : Nat) (v : CV) : storeT Go.Proofs.Tryz.prog h 279 id off v = @thn _ _ (h.blk id) ⟨fun b => cond (Nat.beq v.cells.length 1 && !b.ro) ((b.storeA off v.cells).map fun b' => h.put id (.cells b')) none⟩ := by kernel_rfl
attribute [go_sem] st_279
theorem part_279 (cs : List CV) (off : Nat) : partT Go.Proofs.Tryz.prog 279 cs off = nth cs off := by kernel_rfl
attribute [go_sem] part_279
theorem sz_284 : szOf Go.Proofs.Tryz.prog 284 = some 24 := by kernel_rfl
attribute [go_sem] sz_284
theorem ld_284 (h : H) (id off : Nat) : loadT Go.Proofs.Tryz.prog h 284 id off = @thn _ _ (h.blk id) ⟨fun b => (b.loadN off 24).map .agg⟩ := by kernel_rfl
attribute [go_sem] ld_284
theorem st_284 (h : H) (id off : Nat) (v : CV) : storeT Go.Proofs.Tryz.prog h 284 id off v = @thn _ _ (h.blk id) ⟨fun b => cond (Nat.beq v.cells.length 24 && !b.ro) ((b.storeA off v.cells).map fun b' => h.put id (.cells b')) none⟩ := by kernel_rfl
attribute [go_sem] st_284
theorem part_284 (cs : List CV) (off : Nat) : partT Go.Proofs.Tryz.prog 284 cs off = some (.agg ((cs.drop off).take 24)) := by kernel_rfl
attribute [go_sem] part_284
theorem ze_284 : zeroT Go.Proofs.Tryz.prog 284 = some (.agg [.int .u8 0, .int .u8 0, .int .u8 0, .int .u8 0, .int .u8 0, .int .u8 0, .int .u8 0, .int .u8 0, .int .u8 0, .int .u8 0, .int .u8 0, .int .u8 0, .int .u8 0, .int .u8 0, .int .u8 0, .int .u8 0, .int .u8 0, .int .u8 0, .int .u8 0, .int .u8 0, .int .u8 0, .int .u8 0, .int .u8 0, .int .u8 0]) := by kernel_rfl
attribute [go_sem] ze_284
theorem ia_284 (id off k : Nat) (kd : IntKind) : indexAddrT Go.Proofs.Tryz.prog 284 (.ptr id off) (.int kd (Int.ofNat k)) = cond (Nat.blt k 24) (some (.ptr id (off + k * 1))) none := by kernel_rfl
attribute [go_sem] ia_284
theorem ix_284 (cs : List CV) (k : Nat) (kd : IntKind) : indexT Go.Proofs.Tryz.prog 284 (.agg cs) (.int kd (Int.ofNat k)) = cond (Nat.blt k 24) (partT Go.Proofs.Tryz.prog 5 cs (k * 1)) none := by kernel_rfl
attribute [go_sem] ix_284
theorem len_284 (h : H) (ts : List TypeId) (az : List CV) (a : CV) : builtinT Go.Proofs.Tryz.prog h .len (284 :: ts) (a :: az) = some (.val (.int .i64 24)) := by kernel_rfl
attribute [go_sem] len_284
theorem bt_284 (parts : List (Nat × CV)) : buildT Go.Proofs.Tryz.prog 284 parts = finB (CV.cells (.agg [.int .u8 0, .int .u8 0, .int .u8 0, .int .u8 0, .int .u8 0, .int .u8 0, .int .u8 0, .int .u8 0, .int .u8 0, .int .u8 0, .int .u8 0, .int .u8 0, .int .u8 0, .int .u8 0, .int .u8 0, .int .u8 0, .int .u8 0, .int .u8 0, .int .u8 0, .int .u8 0, .int .u8 0, .int .u8 0, .int .u8 0, .int .u8 0])) (fun i => some (i * 1, 1)) parts := by kernel_rfl
attribute [go_sem] bt_284
theorem sz_286 : szOf Go.Proofs.Tryz.prog 286 = some 1 := by kernel_rfl
attribute [go_sem] sz_286
theorem ld_286 (h : H) (id off : Nat) : loadT Go.Proofs.Tryz.prog h 286 id off = @thn _ _ (h.blk id) ⟨fun b => b.get off⟩ := by kernel_rfl
attribute [go_sem] ld_286
theorem st_286 (h : H) (id off : Nat) (v : CV) : storeT Go.Proofs.Tryz.prog h 286 id off v = @thn _ _ (h.blk id) ⟨fun b => cond (Nat.beq v.cells.length 1 && !b.ro) ((b.storeA off v.cells).map fun b' => h.put id (.cells b')) none⟩ := by kernel_rfl
attribute [go_sem] st_286
theorem part_286 (cs : List CV) (off : Nat) : partT Go.Proofs.Tryz.prog 286 cs off = nth cs off := by kernel_rfl
attribute [go_sem] part_286
theorem sz_288 : szOf Go.Proofs.Tryz.prog 288 = some 1 := by kernel_rfl
attribute [go_sem] sz_288
theorem ld_288 (h : H) (id off : Nat) : loadT Go.Proofs.Tryz.prog h 288 id off = @thn _ _ (h.blk id) ⟨fun b => b.get off⟩ := by kernel_rfl
attribute [go_sem] ld_288
theorem st_288 (h : H) (id off : Nat) (v : CV) : storeT Go.Proofs.Tryz.prog h 288 id off v = @thn _ _ (h.blk id) ⟨fun b => cond (Nat.beq v.cells.length 1 && !b.ro) ((b.storeA off v.cells).map fun b' => h.put id (.cells b')) none⟩ := by kernel_rfl
attribute [go_sem] st_288
theorem part_288 (cs : List CV) (off : Nat) : partT Go.Proofs.Tryz.prog 288 cs off = nth cs off := by kernel_rfl
attribute [go_sem] part_288
theorem sz_290 : szOf Go.Proofs.Tryz.prog 290 = some 1 := by kernel_rfl
attribute [go_sem] sz_290
theorem ld_290 (h : H) (id off : Nat) : loadT Go.Proofs.Tryz.prog h 290 id off = @thn _ _ (h.blk id) ⟨fun b => b.get off⟩ := by kernel_rfl
attribute [go_sem] ld_290
theorem st_290 (h : H) (id off : Nat) (v : CV) : storeT Go.Proofs.Tryz.prog h 290 id off v = @thn _ _ (h.blk id) ⟨fun b => cond (Nat.beq v.cells.length 1 && !b.ro) ((b.storeA off v.cells).map fun b' => h.put id (.cells b')) none⟩ := by kernel_rfl
attribute [go_sem] st_290
theorem part_290 (cs : List CV) (off : Nat) : partT Go.Proofs.Tryz.prog 290 cs off = nth cs off := by kernel_rfl
attribute [go_sem] part_290
theorem sz_292 : szOf Go.Proofs.Tryz.prog 292 = some 64 := by kernel_rfl
attribute [go_sem] sz_292
theorem ld_292 (h : H) (id off : Nat) : loadT Go.Proofs.Tryz.prog h 292 id off = @thn _ _ (h.blk id) ⟨fun b => (b.loadN off 64).map .agg⟩ := by kernel_rfl
attribute [go_sem] ld_292
theorem st_292 (h : H) (id off : Nat) (v : CV) : storeT Go.Proofs.Tryz.prog h 292 id off v = @thn _ _ (h.blk id) ⟨fun b => cond (Nat.beq v.cells.length 64 && !b.ro) ((b.storeA off v.cells).map fun b' => h.put id (.cells b')) none⟩ := by kernel_rfl
attribute [go_sem] st_292
theorem part_292 (cs : List CV) (off : Nat) : partT Go.Proofs.Tryz.prog 292 cs off = some (.agg ((cs.drop off).take 64)) := by kernel_rfl
attribute [go_sem] part_292
theorem ze_292 : zeroT Go.Proofs.Tryz.prog 292 = some (.agg [.int .u64 0, .int .u64 0, .int .u64 0, .int .u64 0, .int .u64 0, .int .u64 0, .int .u64 0, .int .u64 0, .int .u64 0, .int .u64 0, .int .u64 0, .int .u64 0, .int .u64 0, .int .u64 0, .int .u64 0, .int .u64 0, .int .u64 0, .int .u64 0, .int .u64 0, .int .u64 0, .int .u64 0, .int .u64 0, .int .u64 0, .int .u64 0, .int .u64 0, .int .u64 0, .int .u64 0, .int .u64 0, .int .u64 0, .int .u64 0, .int .u64 0, .int .u64 0, .int .u64 0, .int .u64 0, .int .u64 0, .int .u64 0, .int .u64 0, .int .u64 0, .int .u64 0, .int .u64 0, .int .u64 0, .int .u64 0, .int .u64 0, .int .u64 0, .int .u64 0, .int .u64 0, .int .u64 0, .int .u64 0, .int .u64 0, .int .u64 0, .int .u64 0, .int .u64 0, .int .u64 0, .int .u64 0, .int .u64 0, .int .u64 0, .int .u64 0, .int .u64 0, .int .u64 0, .int .u64 0, .int .u64 0, .int .u64 0, .int .u64 0, .int .u64 0]) := by kernel_rfl
attribute [go_sem] ze_292
theorem ia_292 (id off k : Nat) (kd : IntKind) : indexAddrT Go.Proofs.Tryz.prog 292 (.ptr id off) (.int kd (Int.ofNat k)) = cond (Nat.blt k 64) (some (.ptr id (off + k * 1))) none := by kernel_rfl
attribute [go_sem] ia_292
theorem ix_292 (cs : List CV) (k : Nat) (kd : IntKind) : indexT Go.Proofs.Tryz.prog 292 (.agg cs) (.int kd (Int.ofNat k)) = cond (Nat.blt k 64) (partT Go.Proofs.Tryz.prog 24 cs (k * 1)) none := by kernel_rfl
attribute [go_sem] ix_292
theorem len_292 (h : H) (ts : List TypeId) (az : List CV) (a : CV) : builtinT Go.Proofs.Tryz.prog h .len (292 :: ts) (a :: az) = some (.val (.int .i64 64)) := by kernel_rfl
attribute [go_sem] len_292
theorem bt_292 (parts : List (Nat × CV)) : buildT Go.Proofs.Tryz.prog 292 parts = finB (CV.cells (.agg [.int .u64 0, .int .u64 0, .int .u64 0, .int .u64 0, .int .u64 0, .int .u64 0, .int .u64 0, .int .u64 0, .int .u64 0, .int .u64 0, .int .u64 0, .int .u64 0, .int .u64 0, .int .u64 0, .int .u64 0, .int .u64 0, .int .u64 0, .int .u64 0, .int .u64 0, .int .u64 0, .int .u64 0, .int .u64 0, .int .u64 0, .int .u64 0, .int .u64 0, .int .u64 0, .int .u64 0, .int .u64 0, .int .u64 0, .int .u64 0, .int .u64 0, .int .u64 0, .int .u64 0, .int .u64 0, .int .u64 0, .int .u64 0, .int .u64 0, .int .u64 0, .int .u64 0, .int .u64 0, .int .u64 0, .int .u64 0, .int .u64 0, .int .u64 0, .int .u64 0, .int .u64 0, .int .u64 0, .int .u64 0, .int .u64 0, .int .u64 0, .int .u64 0, .int .u64 0, .int .u64 0, .int .u64 0, .int .u64 0, .int .u64 0, .int .u64 0, .int .u64 0, .int .u64 0, .int .u64 0, .int .u64 0, .int .u64 0, .int .u64 0, .int .u64 0])) (fun i => some (i * 1, 1)) parts := by kernel_rfl
attribute [go_sem] bt_292
theorem sz_299 : szOf Go.Proofs.Tryz.prog 299 = some 1 := by kernel_rfl
attribute [go_sem] sz_299
theorem ld_299 (h : H) (id off : Nat) : loadT Go.Proofs.Tryz.prog h 299 id off = @thn _ _ (h.blk id) ⟨fun b => b.get off⟩ := by kernel_rfl
attribute [go_sem] ld_299
theorem st_299 (h : H) (id off : Nat) (v : CV) : storeT Go.Proofs.Tryz.prog h 299 id off v = @thn _ _ (h.blk id) ⟨fun b => cond (Nat.beq v.cells.length 1 && !b.ro) ((b.storeA off v.cells).map fun b' => h.put id (.cells b')) none⟩ := by kernel_rfl
attribute [go_sem] st_299
theorem part_299 (cs : List CV) (off : Nat) : partT Go.Proofs.Tryz.prog 299 cs off = nth cs off := by kernel_rfl
attribute [go_sem] part_299
theorem ze_299 : zeroT Go.Proofs.Tryz.prog 299 = some (.nilp) := by kernel_rfl
attribute [go_sem] ze_299
theorem eq_299 (xo yo : Operand) (a b : Nat) : binT Go.Proofs.Tryz.prog .eql 299 xo yo (.ptr a b) .nilp = some (.bool false) := by kernel_rfl
attribute [go_sem] eq_299
theorem eq_299_n (xo yo : Operand) : binT Go.Proofs.Tryz.prog .eql 299 xo yo .nilp .nilp = some (.bool true) := by kernel_rfl
attribute [go_sem] eq_299_n
theorem ne_299 (xo yo : Operand) (a b : Nat) : binT Go.Proofs.Tryz.prog .neq 299 xo yo (.ptr a b) .nilp = some (.bool true) := by kernel_rfl
attribute [go_sem] ne_299
theorem ne_299_n (xo yo : Operand) : binT Go.Proofs.Tryz.prog .neq 299 xo yo .nilp .nilp = some (.bool false) := by kernel_rfl
attribute [go_sem] ne_299_n
theorem sz_308 : szOf Go.Proofs.Tryz.prog 308 = some 20 := by kernel_rfl
attribute [go_sem] sz_308
theorem ld_308 (h : H) (id off : Nat) : loadT Go.Proofs.Tryz.prog h 308 id off = @thn _ _ (h.blk id) ⟨fun b => (b.loadN off 20).map .agg⟩ := by kernel_rfl
attribute [go_sem] ld_308
theorem st_308 (h : H) (id off : Nat) (v : CV) : storeT Go.Proofs.Tryz.prog h 308 id off v = @thn _ _ (h.blk id) ⟨fun b => cond (Nat.beq v.cells.length 20 && !b.ro) ((b.storeA off v.cells).map fun b' => h.put id (.cells b')) none⟩ := by kernel_rfl
attribute [go_sem] st_308
theorem part_308 (cs : List CV) (off : Nat) : partT Go.Proofs.Tryz.prog 308 cs off = some (.agg ((cs.drop off).take 20)) := by kernel_rfl
attribute [go_sem] part_308
theorem ze_308 : zeroT Go.Proofs.Tryz.prog 308 = some (.agg [.int .u64 0, .int .u64 0, .int .u64 0, .int .u64 0, .int .u64 0, .int .u64 0, .int .u64 0, .int .u64 0, .int .u64 0, .int .u64 0, .int .u64 0, .int .u64 0, .int .u64 0, .int .u64 0, .int .u64 0, .int .u64 0, .int .u64 0, .int .u64 0, .int .u64 0, .int .u64 0]) := by kernel_rfl
attribute [go_sem] ze_308
theorem ia_308 (id off k : Nat) (kd : IntKind) : indexAddrT Go.Proofs.Tryz.prog 308 (.ptr id off) (.int kd (Int.ofNat k)) = cond (Nat.blt k 20) (some (.ptr id (off + k * 1))) none := by kernel_rfl
attribute [go_sem] ia_308
theorem ix_308 (cs : List CV) (k : Nat) (kd : IntKind) : indexT Go.Proofs.Tryz.prog 308 (.agg cs) (.int kd (Int.ofNat k)) = cond (Nat.blt k 20) (partT Go.Proofs.Tryz.prog 24 cs (k * 1)) none := by kernel_rfl
attribute [go_sem] ix_308
theorem len_308 (h : H) (ts : List TypeId) (az : List CV) (a : CV) : builtinT Go.Proofs.Tryz.prog h .len (308 :: ts) (a :: az) = some (.val (.int .i64 20)) := by kernel_rfl
attribute [go_sem] len_308
theorem bt_308 (parts : List (Nat × CV)) : buildT Go.Proofs.Tryz.prog 308 parts = finB (CV.cells (.agg [.int .u64 0, .int .u64 0, .int .u64 0, .int .u64 0, .int .u64 0, .int .u64 0, .int .u64 0, .int .u64 0, .int .u64 0, .int .u64 0, .int .u64 0, .int .u64 0, .int .u64 0, .int .u64 0, .int .u64 0, .int .u64 0, .int .u64 0, .int .u64 0, .int .u64 0, .int .u64 0])) (fun i => some (i * 1, 1)) parts := by kernel_rfl
attribute [go_sem] bt_308
theorem sz_309 : szOf Go.Proofs.Tryz.prog 309 = some 65 := by kernel_rfl
attribute [go_sem] sz_309
theorem ld_309 (h : H) (id off : Nat) : loadT Go.Proofs.Tryz.prog h 309 id off = @thn _ _ (h.blk id) ⟨fun b => (b.loadN off 65).map .agg⟩ := by kernel_rfl
attribute [go_sem] ld_309
theorem st_309 (h : H) (id off : Nat) (v : CV) : storeT Go.Proofs.Tryz.prog h 309 id off v = @thn _ _ (h.blk id) ⟨fun b => cond (Nat.beq v.cells.length 65 && !b.ro) ((b.storeA off v.cells).map fun b' => h.put id (.cells b')) none⟩ := by kernel_rfl
attribute [go_sem] st_309
theorem part_309 (cs : List CV) (off : Nat) : partT Go.Proofs.Tryz.prog 309 cs off = some (.agg ((cs.drop off).take 65)) := by kernel_rfl
attribute [go_sem] part_309
theorem ia_309 (id off k : Nat) (kd : IntKind) : indexAddrT Go.Proofs.Tryz.prog 309 (.ptr id off) (.int kd (Int.ofNat k)) = cond (Nat.blt k 65) (some (.ptr id (off + k * 1))) none := by kernel_rfl
attribute [go_sem] ia_309
theorem ix_309 (cs : List CV) (k : Nat) (kd : IntKind) : indexT Go.Proofs.Tryz.prog 309 (.agg cs) (.int kd (Int.ofNat k)) = cond (Nat.blt k 65) (partT Go.Proofs.Tryz.prog 5 cs (k * 1)) none := by kernel_rfl
attribute [go_sem] ix_309
theorem len_309 (h : H) (ts : List TypeId) (az : List CV) (a : CV) : builtinT Go.Proofs.Tryz.prog h .len (309 :: ts) (a :: az) = some (.val (.int .i64 65)) := by kernel_rfl
attribute [go_sem] len_309
theorem sz_310 : szOf Go.Proofs.Tryz.prog 310 = some 1 := by kernel_rfl
attribute [go_sem] sz_310
theorem ld_310 (h : H) (id off : Nat) : loadT Go.Proofs.Tryz.prog h 310 id off = @thn _ _ (h.blk id) ⟨fun b => b.get off⟩ := by kernel_rfl
attribute [go_sem] ld_310
theorem st_310 (h : H) (id off : Nat) (v : CV) : storeT Go.Proofs.Tryz.prog h 310 id off v = @thn _ _ (h.blk id) ⟨fun b => cond (Nat.beq v.cells.length 1 && !b.ro) ((b.storeA off v.cells).map fun b' => h.put id (.cells b')) none⟩ := by kernel_rfl
attribute [go_sem] st_310
theorem part_310 (cs : List CV) (off : Nat) : partT Go.Proofs.Tryz.prog 310 cs off = nth cs off := by kernel_rfl
attribute [go_sem] part_310
theorem ze_310 : zeroT Go.Proofs.Tryz.prog 310 = some (.nils) := by kernel_rfl
attribute [go_sem] ze_310
theorem ia_310 (id off len k : Nat) (c : Cap) (kd : IntKind) : indexAddrT Go.Proofs.Tryz.prog 310 (.sl id off len c) (.int kd (Int.ofNat k)) = cond (Nat.blt k len) (some (.ptr id (off + k * 1))) none := by kernel_rfl
attribute [go_sem] ia_310
theorem len_310 (h : H) (id off len : Nat) (c : Cap) (ts : List TypeId) (az : List CV) : builtinT Go.Proofs.Tryz.prog h .len (310 :: ts) (.sl id off len c :: az) = some (.val (.int .i64 (Int.ofNat len))) := by kernel_rfl
attribute [go_sem] len_310
theorem len_310_n (h : H) (ts : List TypeId) (az : List CV) : builtinT Go.Proofs.Tryz.prog h .len (310 :: ts) (.nils :: az) = some (.val (.int .i64 0)) := by kernel_rfl
attribute [go_sem] len_310_n
theorem app_310 (h : H) (s : CV) (id off len : Nat) (c : Cap) (ts : List TypeId) (az : List CV) : builtinT Go.Proofs.Tryz.prog h .append (310 :: 310 :: ts) (s :: .sl id off len c :: az) = uv (appendT Go.Proofs.Tryz.prog h 310 s (.sl id off len c)) := by kernel_rfl
attribute [go_sem] app_310
theorem app_310_n (h : H) (s : CV) (ts : List TypeId) (az : List CV) : builtinT Go.Proofs.Tryz.prog h .append (310 :: 310 :: ts) (s :: .nils :: az) = uv (appendT Go.Proofs.Tryz.prog h 310 s .nils) := by kernel_rfl
attribute [go_sem] app_310_n
theorem ap_310 (h : H) (s : CV) (id off len : Nat) (c : Cap) : appendT Go.Proofs.Tryz.prog h 310 s (.sl id off len c) = appS h 1 8 1 s len (firstC h 1 len (.sl id off len c)) := by kernel_rfl
attribute [go_sem] ap_310
theorem ap_310_n (h : H) (s : CV) : appendT Go.Proofs.Tryz.prog h 310 s .nils = appS h 1 8 1 s 0 (some []) := by kernel_rfl
attribute [go_sem] ap_310_n
theorem ap_310_z (h : H) (s : CV) (a b c d : Nat) : appendT Go.Proofs.Tryz.prog h 310 s (.sl0 a b c d) = appS h 1 8 1 s 0 (some []) := by kernel_rfl
attribute [go_sem] ap_310_z
theorem bs_310 (h : H) (n : Nat) (parts : List (Nat × CV)) : buildSliceT Go.Proofs.Tryz.prog h 310 n parts = bslS h 1 (CV.cells (.int .u64 0)) n parts := by kernel_rfl
attribute [go_sem] bs_310
theorem ms_310 (h : H) (l c : Nat) (k k' : IntKind) : makeSliceT Go.Proofs.Tryz.prog h 310 (.int k (Int.ofNat l)) (.int k' (Int.ofNat c)) = mkS h 1 8 (zeroT Go.Proofs.Tryz.prog 24) l c := by kernel_rfl
attribute [go_sem] ms_310
theorem eq_310 (xo yo : Operand) (a b c : Nat) (d : Cap) : binT Go.Proofs.Tryz.prog .eql 310 xo yo (.sl a b c d) .nils = some (.bool false) := by kernel_rfl
attribute [go_sem] eq_310
theorem eq_310_n (xo yo : Operand) : binT Go.Proofs.Tryz.prog .eql 310 xo yo .nils .nils = some (.bool true) := by kernel_rfl
attribute [go_sem] eq_310_n
theorem eq_310_z (xo yo : Operand) (a b c d : Nat) : binT Go.Proofs.Tryz.prog .eql 310 xo yo (.sl0 a b c d) .nils = some (.bool false) := by kernel_rfl
attribute [go_sem] eq_310_z
theorem ne_310 (xo yo : Operand) (a b c : Nat) (d : Cap) : binT Go.Proofs.Tryz.prog .neq 310 xo yo (.sl a b c d) .nils = some (.bool true) := by kernel_rfl
attribute [go_sem] ne_310
theorem ne_310_n (xo yo : Operand) : binT Go.Proofs.Tryz.prog .neq 310 xo yo .nils .nils = some (.bool false) := by kernel_rfl
attribute [go_sem] ne_310_n
theorem ne_310_z (xo yo : Operand) (a b c d : Nat) : binT Go.Proofs.Tryz.prog .neq 310 xo yo (.sl0 a b c d) .nils = some (.bool true) := by kernel_rfl
attribute [go_sem] ne_310_z
theorem len_310_z (h : H) (a b c d : Nat) (ts : List TypeId) (az : List CV) : builtinT Go.Proofs.Tryz.prog h .len (310 :: ts) (.sl0 a b c d :: az) = some (.val (.int .i64 0)) := by kernel_rfl
attribute [go_sem] len_310_z
theorem app_310_z (h : H) (s : CV) (a b c d : Nat) (ts : List TypeId) (az : List CV) : builtinT Go.Proofs.Tryz.prog h .append (310 :: 310 :: ts) (s :: .sl0 a b c d :: az) = uv (appendT Go.Proofs.Tryz.prog h 310 s (.sl0 a b c d)) := by kernel_rfl
attribute [go_sem] app_310_z
theorem sz_313 : szOf Go.Proofs.Tryz.prog 313 = some 1 := by kernel_rfl
attribute [go_sem] sz_313
theorem ld_313 (h : H) (id off : Nat) : loadT Go.Proofs.Tryz.prog h 313 id off = @thn _ _ (h.blk id) ⟨fun b => b.get off⟩ := by kernel_rfl
attribute [go_sem] ld_313
theorem st_313 (h : H) (id off : Nat) (v : CV) : storeT Go.Proofs.Tryz.prog h 313 id off v = @thn _ _ (h.blk id) ⟨fun b => cond (Nat.beq v.cells.length 1 && !b.ro) ((b.storeA off v.cells).map fun b' => h.put id (.cells b')) none⟩ := by kernel_rfl
attribute [go_sem] st_313
theorem part_313 (cs : List CV) (off : Nat) : partT Go.Proofs.Tryz.prog 313 cs off = nth cs off := by kernel_rfl
attribute [go_sem] part_313
theorem sz_322 : szOf Go.Proofs.Tryz.prog 322 = some 64 := by kernel_rfl
attribute [go_sem] sz_322
theorem ld_322 (h : H) (id off : Nat) : loadT Go.Proofs.Tryz.prog h 322 id off = @thn _ _ (h.blk id) ⟨fun b => (b.loadN off 64).map .agg⟩ := by kernel_rfl
attribute [go_sem] ld_322
theorem st_322 (h : H) (id off : Nat) (v : CV) : storeT Go.Proofs.Tryz.prog h 322 id off v = @thn _ _ (h.blk id) ⟨fun b => cond (Nat.beq v.cells.length 64 && !b.ro) ((b.storeA off v.cells).map fun b' => h.put id (.cells b')) none⟩ := by kernel_rfl
attribute [go_sem] st_322
theorem part_322 (cs : List CV) (off : Nat) : partT Go.Proofs.Tryz.prog 322 cs off = some (.agg ((cs.drop off).take 64)) := by kernel_rfl
attribute [go_sem] part_322
theorem ze_322 : zeroT Go.Proofs.Tryz.prog 322 = some (.agg [.int .u8 0, .int .u8 0, .int .u8 0, .int .u8 0, .int .u8 0, .int .u8 0, .int .u8 0, .int .u8 0, .int .u8 0, .int .u8 0, .int .u8 0, .int .u8 0, .int .u8 0, .int .u8 0, .int .u8 0, .int .u8 0, .int .u8 0, .int .u8 0, .int .u8 0, .int .u8 0, .int .u8 0, .int .u8 0, .int .u8 0, .int .u8 0, .int .u8 0, .int .u8 0, .int .u8 0, .int .u8 0, .int .u8 0, .int .u8 0, .int .u8 0, .int .u8 0, .int .u8 0, .int .u8 0, .int .u8 0, .int .u8 0, .int .u8 0, .int .u8 0, .int .u8 0, .int .u8 0, .int .u8 0, .int .u8 0, .int .u8 0, .int .u8 0, .int .u8 0, .int .u8 0, .int .u8 0, .int .u8 0, .int .u8 0, .int .u8 0, .int .u8 0, .int .u8 0, .int .u8 0, .int .u8 0, .int .u8 0, .int .u8 0, .int .u8 0, .int .u8 0, .int .u8 0, .int .u8 0, .int .u8 0, .int .u8 0, .int .u8 0, .int .u8 0]) := by kernel_rfl
attribute [go_sem] ze_322
theorem ia_322 (id off k : Nat) (kd : IntKind) : indexAddrT Go.Proofs.Tryz.prog 322 (.ptr id off) (.int kd (Int.ofNat k)) = cond (Nat.blt k 64) (some (.ptr id (off + k * 1))) none := by kernel_rfl
attribute [go_sem] ia_322
theorem ix_322 (cs : List CV) (k : Nat) (kd : IntKind) : indexT Go.Proofs.Tryz.prog 322 (.agg cs) (.int kd (Int.ofNat k)) = cond (Nat.blt k 64) (partT Go.Proofs.Tryz.prog 5 cs (k * 1)) none := by kernel_rfl
attribute [go_sem] ix_322
theorem len_322 (h : H) (ts : List TypeId) (az : List CV) (a : CV) : builtinT Go.Proofs.Tryz.prog h .len (322 :: ts) (a :: az) = some (.val (.int .i64 64)) := by kernel_rfl
attribute [go_sem] len_322
theorem bt_322 (parts : List (Nat × CV)) : buildT Go.Proofs.Tryz.prog 322 parts = finB (CV.cells (.agg [.int .u8 0, .int .u8 0, .int .u8 0, .int .u8 0, .int .u8 0, .int .u8 0, .int .u8 0, .int .u8 0, .int .u8 0, .int .u8 0, .int .u8 0, .int .u8 0, .int .u8 0, .int .u8 0, .int .u8 0, .int .u8 0, .int .u8 0, .int .u8 0, .int .u8 0, .int .u8 0, .int .u8 0, .int .u8 0, .int .u8 0, .int .u8 0, .int .u8 0, .int .u8 0, .int .u8 0, .int .u8 0, .int .u8 0, .int .u8 0, .int .u8 0, .int .u8 0, .int .u8 0, .int .u8 0, .int .u8 0, .int .u8 0, .int .u8 0, .int .u8 0, .int .u8 0, .int .u8 0, .int .u8 0, .int .u8 0, .int .u8 0, .int .u8 0, .int .u8 0, .int .u8 0, .int .u8 0, .int .u8 0, .int .u8 0, .int .u8 0, .int .u8 0, .int .u8 0, .int .u8 0, .int .u8 0, .int .u8 0, .int .u8 0, .int .u8 0, .int .u8 0, .int .u8 0, .int .u8 0, .int .u8 0, .int .u8 0, .int .u8 0, .int .u8 0])) (fun i => some (i * 1, 1)) parts := by kernel_rfl
attribute [go_sem] bt_322
theorem mi_9 (a : CV) : ifT Go.Proofs.Tryz.prog 9 a = some (.val (.ifc 9 a)) := by kernel_rfl
attribute [go_sem] mi_9
theorem cv_3_78 (h : H) (k : IntKind) (x : Int) : convT Go.Proofs.Tryz.prog h 3 78 (.int k x) = some (.val (.int .u64 (IntKind.wrap .u64 x))) := by kernel_rfl
attribute [go_sem] cv_3_78
theorem cv_3_24 (h : H) (k : IntKind) (x : Int) : convT Go.Proofs.Tryz.prog h 3 24 (.int k x) = some (.val (.int .u64 (IntKind.wrap .u64 x))) := by kernel_rfl
attribute [go_sem] cv_3_24
theorem cv_24_3 (h : H) (k : IntKind) (x : Int) : convT Go.Proofs.Tryz.prog h 24 3 (.int k x) = some (.val (.int .i64 (IntKind.wrap .i64 x))) := by kernel_rfl
attribute [go_sem] cv_24_3
theorem cv_34_3 (h : H) (k : IntKind) (x : Int) : convT Go.Proofs.Tryz.prog h 34 3 (.int k x) = some (.val (.int .i64 (IntKind.wrap .i64 x))) := by kernel_rfl
attribute [go_sem] cv_34_3
theorem cv_24_34 (h : H) (k : IntKind) (x : Int) : convT Go.Proofs.Tryz.prog h 24 34 (.int k x) = some (.val (.int .u16 (IntKind.wrap .u16 x))) := by kernel_rfl
attribute [go_sem] cv_24_34
theorem cv_34_24 (h : H) (k : IntKind) (x : Int) : convT Go.Proofs.Tryz.prog h 34 24 (.int k x) = some (.val (.int .u64 (IntKind.wrap .u64 x))) := by kernel_rfl
attribute [go_sem] cv_34_24
theorem cv_24_5 (h : H) (k : IntKind) (x : Int) : convT Go.Proofs.Tryz.prog h 24 5 (.int k x) = some (.val (.int .u8 (IntKind.wrap .u8 x))) := by kernel_rfl
attribute [go_sem] cv_24_5
theorem cv_34_5 (h : H) (k : IntKind) (x : Int) : convT Go.Proofs.Tryz.prog h 34 5 (.int k x) = some (.val (.int .u8 (IntKind.wrap .u8 x))) := by kernel_rfl
attribute [go_sem] cv_34_5
theorem cv_5_34 (h : H) (k : IntKind) (x : Int) : convT Go.Proofs.Tryz.prog h 5 34 (.int k x) = some (.val (.int .u16 (IntKind.wrap .u16 x))) := by kernel_rfl
attribute [go_sem] cv_5_34
theorem cv_164_9 (h : H) (id off len : Nat) (c : Cap) : convT Go.Proofs.Tryz.prog h 164 9 (.sl id off len c) = @thn _ _ (h.blk id) ⟨fun b => (b.loadN off len).bind fun cs => (bytesOf cs).map fun l => .val (.str l)⟩ := by kernel_rfl
attribute [go_sem] cv_164_9
theorem cv_164_9_n (h : H) : convT Go.Proofs.Tryz.prog h 164 9 .nils = some (.val (.str [])) := by kernel_rfl
attribute [go_sem] cv_164_9_n
theorem cv_164_9_z (h : H) (x y z w : Nat) : convT Go.Proofs.Tryz.prog h 164 9 (.sl0 x y z w) = some (.val (.str [])) := by kernel_rfl
attribute [go_sem] cv_164_9_z
theorem cv_5_24 (h : H) (k : IntKind) (x : Int) : convT Go.Proofs.Tryz.prog h 5 24 (.int k x) = some (.val (.int .u64 (IntKind.wrap .u64 x))) := by kernel_rfl
attribute [go_sem] cv_5_24
theorem cv_3_5 (h : H) (k : IntKind) (x : Int) : convT Go.Proofs.Tryz.prog h 3 5 (.int k x) = some (.val (.int .u8 (IntKind.wrap .u8 x))) := by kernel_rfl
attribute [go_sem] cv_3_5
theorem cv_78_3 (h : H) (k : IntKind) (x : Int) : convT Go.Proofs.Tryz.prog h 78 3 (.int k x) = some (.val (.int .i64 (IntKind.wrap .i64 x))) := by kernel_rfl
attribute [go_sem] cv_78_3
theorem cv_78_252 (h : H) (k : IntKind) (x : Int) : convT Go.Proofs.Tryz.prog h 78 252 (.int k x) = some (.val (.int .u32 (IntKind.wrap .u32 x))) := by kernel_rfl
attribute [go_sem] cv_78_252
theorem cv_252_5 (h : H) (k : IntKind) (x : Int) : convT Go.Proofs.Tryz.prog h 252 5 (.int k x) = some (.val (.int .u8 (IntKind.wrap .u8 x))) := by kernel_rfl
attribute [go_sem] cv_252_5
theorem cv_252_78 (h : H) (k : IntKind) (x : Int) : convT Go.Proofs.Tryz.prog h 252 78 (.int k x) = some (.val (.int .u64 (IntKind.wrap .u64 x))) := by kernel_rfl
attribute [go_sem] cv_252_78
theorem cv_5_252 (h : H) (k : IntKind) (x : Int) : convT Go.Proofs.Tryz.prog h 5 252 (.int k x) = some (.val (.int .u32 (IntKind.wrap .u32 x))) := by kernel_rfl
attribute [go_sem] cv_5_252
theorem cv_24_252 (h : H) (k : IntKind) (x : Int) : convT Go.Proofs.Tryz.prog h 24 252 (.int k x) = some (.val (.int .u32 (IntKind.wrap .u32 x))) := by kernel_rfl
attribute [go_sem] cv_24_252
theorem cv_5_3 (h : H) (k : IntKind) (x : Int) : convT Go.Proofs.Tryz.prog h 5 3 (.int k x) = some (.val (.int .i64 (IntKind.wrap .i64 x))) := by kernel_rfl
attribute [go_sem] cv_5_3
theorem cv_5_21 (h : H) (k : IntKind) (x : Int) : convT Go.Proofs.Tryz.prog h 5 21 (.int k x) = some (.val (.int .i32 (IntKind.wrap .i32 x))) := by kernel_rfl
attribute [go_sem] cv_5_21
theorem cv_252_24 (h : H) (k : IntKind) (x : Int) : convT Go.Proofs.Tryz.prog h 252 24 (.int k x) = some (.val (.int .u64 (IntKind.wrap .u64 x))) := by kernel_rfl
attribute [go_sem] cv_252_24
theorem cv_2_24 (h : H) (k : IntKind) (x : Int) : convT Go.Proofs.Tryz.prog h 2 24 (.int k x) = some (.val (.int .u64 (IntKind.wrap .u64 x))) := by kernel_rfl
attribute [go_sem] cv_2_24
theorem eq_218 (xo yo : Operand) (u : TypeId) (v : CV) : binT Go.Proofs.Tryz.prog .eql 218 xo yo (.ifc u v) .nili = some (.bool false) := by kernel_rfl
attribute [go_sem] eq_218
theorem eq_218_n (n : Nat) (v : Value) : binT Go.Proofs.Tryz.prog .eql 218 (.tmp n) (.const v) .nili .nili = some (.bool true) := by kernel_rfl
attribute [go_sem] eq_218_n
theorem ne_218 (xo yo : Operand) (u : TypeId) (v : CV) : binT Go.Proofs.Tryz.prog .neq 218 xo yo (.ifc u v) .nili = some (.bool true) := by kernel_rfl
attribute [go_sem] ne_218
theorem ne_218_n (n : Nat) (v : Value) : binT Go.Proofs.Tryz.prog .neq 218 (.tmp n) (.const v) .nili .nili = some (.bool false) := by kernel_rfl
attribute [go_sem] ne_218_n
theorem fn_137 : nth Go.Proofs.Tryz.prog.funcs.toList 137 = some Go.Proofs.Tryz.f137 := by kernel_rfl
attribute [go_sem] fn_137
theorem tx_137 : isTextO Go.Proofs.Tryz.prog 137 = some () := by kernel_rfl
attribute [go_sem] tx_137
theorem fn_181 : nth Go.Proofs.Tryz.prog.funcs.toList 181 = some Go.Proofs.Tryz.f181 := by kernel_rfl
attribute [go_sem] fn_181
theorem tx_181 : isTextO Go.Proofs.Tryz.prog 181 = some () := by kernel_rfl
attribute [go_sem] tx_181
theorem fn_209 : nth Go.Proofs.Tryz.prog.funcs.toList 209 = some Go.Proofs.Tryz.f209 := by kernel_rfl
attribute [go_sem] fn_209
theorem tx_209 : isTextO Go.Proofs.Tryz.prog 209 = some () := by kernel_rfl
attribute [go_sem] tx_209
theorem fn_210 : nth Go.Proofs.Tryz.prog.funcs.toList 210 = some Go.Proofs.Tryz.f210 := by kernel_rfl
attribute [go_sem] fn_210
theorem tx_210 : isTextO Go.Proofs.Tryz.prog 210 = some () := by kernel_rfl
attribute [go_sem] tx_210
theorem fn_211 : nth Go.Proofs.Tryz.prog.funcs.toList 211 = some Go.Proofs.Tryz.f211 := by kernel_rfl
attribute [go_sem] fn_211
theorem tx_211 : isTextO Go.Proofs.Tryz.prog 211 = some () := by kernel_rfl
attribute [go_sem] tx_211
theorem fn_212 : nth Go.Proofs.Tryz.prog.funcs.toList 212 = some Go.Proofs.Tryz.f212 := by kernel_rfl
attribute [go_sem] fn_212
theorem tx_212 : isTextO Go.Proofs.Tryz.prog 212 = some () := by kernel_rfl
attribute [go_sem] tx_212
theorem fn_244 : nth Go.Proofs.Tryz.prog.funcs.toList 244 = some Go.Proofs.Tryz.f244 := by kernel_rfl
attribute [go_sem] fn_244
theorem tx_244 : isTextO Go.Proofs.Tryz.prog 244 = some () := by kernel_rfl
attribute [go_sem] tx_244
theorem fn_246 : nth Go.Proofs.Tryz.prog.funcs.toList 246 = some Go.Proofs.Tryz.f246 := by kernel_rfl
attribute [go_sem] fn_246
theorem tx_246 : isTextO Go.Proofs.Tryz.prog 246 = some () := by kernel_rfl
attribute [go_sem] tx_246
theorem fn_247 : nth Go.Proofs.Tryz.prog.funcs.toList 247 = some Go.Proofs.Tryz.f247 := by kernel_rfl
attribute [go_sem] fn_247
theorem tx_247 : isTextO Go.Proofs.Tryz.prog 247 = some () := by kernel_rfl
attribute [go_sem] tx_247
theorem fn_248 : nth Go.Proofs.Tryz.prog.funcs.toList 248 = some Go.Proofs.Tryz.f248 := by kernel_rfl
attribute [go_sem] fn_248
theorem tx_248 : isTextO Go.Proofs.Tryz.prog 248 = some () := by kernel_rfl
attribute [go_sem] tx_248
theorem fn_249 : nth Go.Proofs.Tryz.prog.funcs.toList 249 = some Go.Proofs.Tryz.f249 := by kernel_rfl
attribute [go_sem] fn_249
theorem tx_249 : isTextO Go.Proofs.Tryz.prog 249 = some () := by kernel_rfl
attribute [go_sem] tx_249
theorem fn_269 : nth Go.Proofs.Tryz.prog.funcs.toList 269 = some Go.Proofs.Tryz.f269 := by kernel_rfl
attribute [go_sem] fn_269
theorem tx_269 : isTextO Go.Proofs.Tryz.prog 269 = some () := by kernel_rfl
attribute [go_sem] tx_269
end Go.Cl.Sh
