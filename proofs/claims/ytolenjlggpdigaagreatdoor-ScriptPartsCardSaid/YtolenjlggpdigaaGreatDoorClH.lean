/- Facts of the program's tables, each read off by the kernel. -/
import Derived.Attr
import Derived.KernelRfl
import Derived.Test.YtolenjlggpdigaaGreatDoorProg
import Derived.Test.YtolenjlggpdigaaGreatDoorClG
set_option linter.all false
namespace Go.Cl.Sh
open Go Go.Cl
theorem sz_0 : szOf Go.Proofs.Tryz.prog 0 = some 1 := by kernel_rfl
attribute [go_sem] sz_0
theorem ld_0 (h : H) (id off : Nat) : loadT Go.Proofs.Tryz.prog h 0 id off = @thn _ _ (h.blk id) ⟨fun b => b.get off⟩ := by kernel_rfl
attribute [go_sem] ld_0
theorem st_0 (h : H) (id off : Nat) (v : CV) : storeT Go.Proofs.Tryz.prog h 0 id off v = @thn _ _ (h.blk id) ⟨fun b => cond (Nat.beq v.cells.length 1 && !b.ro) ((b.storeA off v.cells).map fun b' => h.put id (.cells b')) none⟩ := by kernel_rfl
attribute [go_sem] st_0
theorem part_0 (cs : List CV) (off : Nat) : partT Go.Proofs.Tryz.prog 0 cs off = nth cs off := by kernel_rfl
attribute [go_sem] part_0
theorem sz_1 : szOf Go.Proofs.Tryz.prog 1 = some 1 := by kernel_rfl
attribute [go_sem] sz_1
theorem ld_1 (h : H) (id off : Nat) : loadT Go.Proofs.Tryz.prog h 1 id off = @thn _ _ (h.blk id) ⟨fun b => b.get off⟩ := by kernel_rfl
attribute [go_sem] ld_1
theorem st_1 (h : H) (id off : Nat) (v : CV) : storeT Go.Proofs.Tryz.prog h 1 id off v = @thn _ _ (h.blk id) ⟨fun b => cond (Nat.beq v.cells.length 1 && !b.ro) ((b.storeA off v.cells).map fun b' => h.put id (.cells b')) none⟩ := by kernel_rfl
attribute [go_sem] st_1
theorem part_1 (cs : List CV) (off : Nat) : partT Go.Proofs.Tryz.prog 1 cs off = nth cs off := by kernel_rfl
attribute [go_sem] part_1
theorem ze_1 : zeroT Go.Proofs.Tryz.prog 1 = some (.nilf) := by kernel_rfl
attribute [go_sem] ze_1
theorem eq_1 (xo yo : Operand) (f : Fn) (a b : List CV) : binT Go.Proofs.Tryz.prog .eql 1 xo yo (.fn f a b) .nilf = some (.bool false) := by kernel_rfl
attribute [go_sem] eq_1
theorem eq_1_n (xo yo : Operand) : binT Go.Proofs.Tryz.prog .eql 1 xo yo .nilf .nilf = some (.bool true) := by kernel_rfl
attribute [go_sem] eq_1_n
theorem ne_1 (xo yo : Operand) (f : Fn) (a b : List CV) : binT Go.Proofs.Tryz.prog .neq 1 xo yo (.fn f a b) .nilf = some (.bool true) := by kernel_rfl
attribute [go_sem] ne_1
theorem ne_1_n (xo yo : Operand) : binT Go.Proofs.Tryz.prog .neq 1 xo yo .nilf .nilf = some (.bool false) := by kernel_rfl
attribute [go_sem] ne_1_n
theorem sz_2 : szOf Go.Proofs.Tryz.prog 2 = some 1 := by kernel_rfl
attribute [go_sem] sz_2
theorem ld_2 (h : H) (id off : Nat) : loadT Go.Proofs.Tryz.prog h 2 id off = @thn _ _ (h.blk id) ⟨fun b => b.get off⟩ := by kernel_rfl
attribute [go_sem] ld_2
theorem st_2 (h : H) (id off : Nat) (v : CV) : storeT Go.Proofs.Tryz.prog h 2 id off v = @thn _ _ (h.blk id) ⟨fun b => cond (Nat.beq v.cells.length 1 && !b.ro) ((b.storeA off v.cells).map fun b' => h.put id (.cells b')) none⟩ := by kernel_rfl
attribute [go_sem] st_2
theorem part_2 (cs : List CV) (off : Nat) : partT Go.Proofs.Tryz.prog 2 cs off = nth cs off := by kernel_rfl
attribute [go_sem] part_2
theorem ze_2 : zeroT Go.Proofs.Tryz.prog 2 = some (.int .i64 0) := by kernel_rfl
attribute [go_sem] ze_2
theorem sz_3 : szOf Go.Proofs.Tryz.prog 3 = some 1 := by kernel_rfl
attribute [go_sem] sz_3
theorem ld_3 (h : H) (id off : Nat) : loadT Go.Proofs.Tryz.prog h 3 id off = @thn _ _ (h.blk id) ⟨fun b => b.get off⟩ := by kernel_rfl
attribute [go_sem] ld_3
theorem st_3 (h : H) (id off : Nat) (v : CV) : storeT Go.Proofs.Tryz.prog h 3 id off v = @thn _ _ (h.blk id) ⟨fun b => cond (Nat.beq v.cells.length 1 && !b.ro) ((b.storeA off v.cells).map fun b' => h.put id (.cells b')) none⟩ := by kernel_rfl
attribute [go_sem] st_3
theorem part_3 (cs : List CV) (off : Nat) : partT Go.Proofs.Tryz.prog 3 cs off = nth cs off := by kernel_rfl
attribute [go_sem] part_3
theorem ze_3 : zeroT Go.Proofs.Tryz.prog 3 = some (.int .i64 0) := by kernel_rfl
attribute [go_sem] ze_3
theorem sz_4 : szOf Go.Proofs.Tryz.prog 4 = some 1 := by kernel_rfl
attribute [go_sem] sz_4
theorem ld_4 (h : H) (id off : Nat) : loadT Go.Proofs.Tryz.prog h 4 id off = @thn _ _ (h.blk id) ⟨fun b => b.get off⟩ := by kernel_rfl
attribute [go_sem] ld_4
theorem st_4 (h : H) (id off : Nat) (v : CV) : storeT Go.Proofs.Tryz.prog h 4 id off v = @thn _ _ (h.blk id) ⟨fun b => cond (Nat.beq v.cells.length 1 && !b.ro) ((b.storeA off v.cells).map fun b' => h.put id (.cells b')) none⟩ := by kernel_rfl
attribute [go_sem] st_4
theorem part_4 (cs : List CV) (off : Nat) : partT Go.Proofs.Tryz.prog 4 cs off = nth cs off := by kernel_rfl
attribute [go_sem] part_4
theorem ze_4 : zeroT Go.Proofs.Tryz.prog 4 = some (.bool false) := by kernel_rfl
attribute [go_sem] ze_4
theorem eq_4 (xo yo : Operand) (a b : Bool) : binT Go.Proofs.Tryz.prog .eql 4 xo yo (.bool a) (.bool b) = some (.bool (a == b)) := by kernel_rfl
attribute [go_sem] eq_4
theorem ne_4 (xo yo : Operand) (a b : Bool) : binT Go.Proofs.Tryz.prog .neq 4 xo yo (.bool a) (.bool b) = some (.bool (!(a == b))) := by kernel_rfl
attribute [go_sem] ne_4
theorem sz_5 : szOf Go.Proofs.Tryz.prog 5 = some 1 := by kernel_rfl
attribute [go_sem] sz_5
theorem ld_5 (h : H) (id off : Nat) : loadT Go.Proofs.Tryz.prog h 5 id off = @thn _ _ (h.blk id) ⟨fun b => b.get off⟩ := by kernel_rfl
attribute [go_sem] ld_5
theorem st_5 (h : H) (id off : Nat) (v : CV) : storeT Go.Proofs.Tryz.prog h 5 id off v = @thn _ _ (h.blk id) ⟨fun b => cond (Nat.beq v.cells.length 1 && !b.ro) ((b.storeA off v.cells).map fun b' => h.put id (.cells b')) none⟩ := by kernel_rfl
attribute [go_sem] st_5
theorem part_5 (cs : List CV) (off : Nat) : partT Go.Proofs.Tryz.prog 5 cs off = nth cs off := by kernel_rfl
attribute [go_sem] part_5
theorem ze_5 : zeroT Go.Proofs.Tryz.prog 5 = some (.int .u8 0) := by kernel_rfl
attribute [go_sem] ze_5
theorem sz_6 : szOf Go.Proofs.Tryz.prog 6 = some 1 := by kernel_rfl
attribute [go_sem] sz_6
theorem ld_6 (h : H) (id off : Nat) : loadT Go.Proofs.Tryz.prog h 6 id off = @thn _ _ (h.blk id) ⟨fun b => b.get off⟩ := by kernel_rfl
attribute [go_sem] ld_6
theorem st_6 (h : H) (id off : Nat) (v : CV) : storeT Go.Proofs.Tryz.prog h 6 id off v = @thn _ _ (h.blk id) ⟨fun b => cond (Nat.beq v.cells.length 1 && !b.ro) ((b.storeA off v.cells).map fun b' => h.put id (.cells b')) none⟩ := by kernel_rfl
attribute [go_sem] st_6
theorem part_6 (cs : List CV) (off : Nat) : partT Go.Proofs.Tryz.prog 6 cs off = nth cs off := by kernel_rfl
attribute [go_sem] part_6
theorem ze_6 : zeroT Go.Proofs.Tryz.prog 6 = some (.int .u8 0) := by kernel_rfl
attribute [go_sem] ze_6
theorem sz_7 : szOf Go.Proofs.Tryz.prog 7 = some 4 := by kernel_rfl
attribute [go_sem] sz_7
theorem ld_7 (h : H) (id off : Nat) : loadT Go.Proofs.Tryz.prog h 7 id off = @thn _ _ (h.blk id) ⟨fun b => (b.loadN off 4).map .agg⟩ := by kernel_rfl
attribute [go_sem] ld_7
theorem st_7 (h : H) (id off : Nat) (v : CV) : storeT Go.Proofs.Tryz.prog h 7 id off v = @thn _ _ (h.blk id) ⟨fun b => cond (Nat.beq v.cells.length 4 && !b.ro) ((b.storeA off v.cells).map fun b' => h.put id (.cells b')) none⟩ := by kernel_rfl
attribute [go_sem] st_7
theorem part_7 (cs : List CV) (off : Nat) : partT Go.Proofs.Tryz.prog 7 cs off = some (.agg ((cs.drop off).take 4)) := by kernel_rfl
attribute [go_sem] part_7
theorem ze_7 : zeroT Go.Proofs.Tryz.prog 7 = some (.agg [.int .i64 0, .int .i64 0, .bool false, .int .u8 0]) := by kernel_rfl
attribute [go_sem] ze_7
theorem bt_7 (parts : List (Nat × CV)) : buildT Go.Proofs.Tryz.prog 7 parts = finB (CV.cells (.agg [.int .i64 0, .int .i64 0, .bool false, .int .u8 0])) (nth [(0, 1), (1, 1), (2, 1), (3, 1)]) parts := by kernel_rfl
attribute [go_sem] bt_7
theorem fa_7_0 (id off : Nat) : fieldAddrT Go.Proofs.Tryz.prog 7 (.ptr id off) 0 = some (.ptr id (off)) := by kernel_rfl
attribute [go_sem] fa_7_0
theorem fd_7_0 (cs : List CV) : fieldT Go.Proofs.Tryz.prog 7 (.agg cs) 0 = partT Go.Proofs.Tryz.prog 2 cs 0 := by kernel_rfl
attribute [go_sem] fd_7_0
theorem fa_7_1 (id off : Nat) : fieldAddrT Go.Proofs.Tryz.prog 7 (.ptr id off) 1 = some (.ptr id (off + 1)) := by kernel_rfl
attribute [go_sem] fa_7_1
theorem fd_7_1 (cs : List CV) : fieldT Go.Proofs.Tryz.prog 7 (.agg cs) 1 = partT Go.Proofs.Tryz.prog 3 cs 1 := by kernel_rfl
attribute [go_sem] fd_7_1
theorem fa_7_2 (id off : Nat) : fieldAddrT Go.Proofs.Tryz.prog 7 (.ptr id off) 2 = some (.ptr id (off + 2)) := by kernel_rfl
attribute [go_sem] fa_7_2
theorem fd_7_2 (cs : List CV) : fieldT Go.Proofs.Tryz.prog 7 (.agg cs) 2 = partT Go.Proofs.Tryz.prog 4 cs 2 := by kernel_rfl
attribute [go_sem] fd_7_2
theorem fa_7_3 (id off : Nat) : fieldAddrT Go.Proofs.Tryz.prog 7 (.ptr id off) 3 = some (.ptr id (off + 3)) := by kernel_rfl
attribute [go_sem] fa_7_3
theorem fd_7_3 (cs : List CV) : fieldT Go.Proofs.Tryz.prog 7 (.agg cs) 3 = partT Go.Proofs.Tryz.prog 6 cs 3 := by kernel_rfl
attribute [go_sem] fd_7_3
theorem sz_8 : szOf Go.Proofs.Tryz.prog 8 = some 4 := by kernel_rfl
attribute [go_sem] sz_8
theorem ld_8 (h : H) (id off : Nat) : loadT Go.Proofs.Tryz.prog h 8 id off = @thn _ _ (h.blk id) ⟨fun b => (b.loadN off 4).map .agg⟩ := by kernel_rfl
attribute [go_sem] ld_8
theorem st_8 (h : H) (id off : Nat) (v : CV) : storeT Go.Proofs.Tryz.prog h 8 id off v = @thn _ _ (h.blk id) ⟨fun b => cond (Nat.beq v.cells.length 4 && !b.ro) ((b.storeA off v.cells).map fun b' => h.put id (.cells b')) none⟩ := by kernel_rfl
attribute [go_sem] st_8
theorem part_8 (cs : List CV) (off : Nat) : partT Go.Proofs.Tryz.prog 8 cs off = some (.agg ((cs.drop off).take 4)) := by kernel_rfl
attribute [go_sem] part_8
theorem ze_8 : zeroT Go.Proofs.Tryz.prog 8 = some (.agg [.int .i64 0, .int .i64 0, .bool false, .int .u8 0]) := by kernel_rfl
attribute [go_sem] ze_8
theorem bt_8 (parts : List (Nat × CV)) : buildT Go.Proofs.Tryz.prog 8 parts = finB (CV.cells (.agg [.int .i64 0, .int .i64 0, .bool false, .int .u8 0])) (nth [(0, 1), (1, 1), (2, 1), (3, 1)]) parts := by kernel_rfl
attribute [go_sem] bt_8
theorem fa_8_0 (id off : Nat) : fieldAddrT Go.Proofs.Tryz.prog 8 (.ptr id off) 0 = some (.ptr id (off)) := by kernel_rfl
attribute [go_sem] fa_8_0
theorem fd_8_0 (cs : List CV) : fieldT Go.Proofs.Tryz.prog 8 (.agg cs) 0 = partT Go.Proofs.Tryz.prog 2 cs 0 := by kernel_rfl
attribute [go_sem] fd_8_0
theorem fa_8_1 (id off : Nat) : fieldAddrT Go.Proofs.Tryz.prog 8 (.ptr id off) 1 = some (.ptr id (off + 1)) := by kernel_rfl
attribute [go_sem] fa_8_1
theorem fd_8_1 (cs : List CV) : fieldT Go.Proofs.Tryz.prog 8 (.agg cs) 1 = partT Go.Proofs.Tryz.prog 3 cs 1 := by kernel_rfl
attribute [go_sem] fd_8_1
theorem fa_8_2 (id off : Nat) : fieldAddrT Go.Proofs.Tryz.prog 8 (.ptr id off) 2 = some (.ptr id (off + 2)) := by kernel_rfl
attribute [go_sem] fa_8_2
theorem fd_8_2 (cs : List CV) : fieldT Go.Proofs.Tryz.prog 8 (.agg cs) 2 = partT Go.Proofs.Tryz.prog 4 cs 2 := by kernel_rfl
attribute [go_sem] fd_8_2
theorem fa_8_3 (id off : Nat) : fieldAddrT Go.Proofs.Tryz.prog 8 (.ptr id off) 3 = some (.ptr id (off + 3)) := by kernel_rfl
attribute [go_sem] fa_8_3
theorem fd_8_3 (cs : List CV) : fieldT Go.Proofs.Tryz.prog 8 (.agg cs) 3 = partT Go.Proofs.Tryz.prog 6 cs 3 := by kernel_rfl
attribute [go_sem] fd_8_3
theorem sz_9 : szOf Go.Proofs.Tryz.prog 9 = some 1 := by kernel_rfl
attribute [go_sem] sz_9
theorem ld_9 (h : H) (id off : Nat) : loadT Go.Proofs.Tryz.prog h 9 id off = @thn _ _ (h.blk id) ⟨fun b => b.get off⟩ := by kernel_rfl
attribute [go_sem] ld_9
theorem st_9 (h : H) (id off : Nat) (v : CV) : storeT Go.Proofs.Tryz.prog h 9 id off v = @thn _ _ (h.blk id) ⟨fun b => cond (Nat.beq v.cells.length 1 && !b.ro) ((b.storeA off v.cells).map fun b' => h.put id (.cells b')) none⟩ := by kernel_rfl
attribute [go_sem] st_9
theorem part_9 (cs : List CV) (off : Nat) : partT Go.Proofs.Tryz.prog 9 cs off = nth cs off := by kernel_rfl
attribute [go_sem] part_9
theorem ze_9 : zeroT Go.Proofs.Tryz.prog 9 = some (.str []) := by kernel_rfl
attribute [go_sem] ze_9
theorem ix_9 (s : List Nat) (k : Nat) (kd : IntKind) : indexT Go.Proofs.Tryz.prog 9 (.str s) (.int kd (Int.ofNat k)) = (nth s k).map fun b => .int .u8 (Int.ofNat b) := by kernel_rfl
attribute [go_sem] ix_9
theorem len_9 (h : H) (ts : List TypeId) (az : List CV) (s : List Nat) : builtinT Go.Proofs.Tryz.prog h .len (9 :: ts) (.str s :: az) = some (.val (.int .i64 (Int.ofNat s.length))) := by kernel_rfl
attribute [go_sem] len_9
theorem sz_10 : szOf Go.Proofs.Tryz.prog 10 = some 1 := by kernel_rfl
attribute [go_sem] sz_10
theorem ld_10 (h : H) (id off : Nat) : loadT Go.Proofs.Tryz.prog h 10 id off = @thn _ _ (h.blk id) ⟨fun b => b.get off⟩ := by kernel_rfl
attribute [go_sem] ld_10
theorem st_10 (h : H) (id off : Nat) (v : CV) : storeT Go.Proofs.Tryz.prog h 10 id off v = @thn _ _ (h.blk id) ⟨fun b => cond (Nat.beq v.cells.length 1 && !b.ro) ((b.storeA off v.cells).map fun b' => h.put id (.cells b')) none⟩ := by kernel_rfl
attribute [go_sem] st_10
theorem part_10 (cs : List CV) (off : Nat) : partT Go.Proofs.Tryz.prog 10 cs off = nth cs off := by kernel_rfl
attribute [go_sem] part_10
theorem ze_10 : zeroT Go.Proofs.Tryz.prog 10 = some (.str []) := by kernel_rfl
attribute [go_sem] ze_10
theorem ix_10 (s : List Nat) (k : Nat) (kd : IntKind) : indexT Go.Proofs.Tryz.prog 10 (.str s) (.int kd (Int.ofNat k)) = (nth s k).map fun b => .int .u8 (Int.ofNat b) := by kernel_rfl
attribute [go_sem] ix_10
theorem len_10 (h : H) (ts : List TypeId) (az : List CV) (s : List Nat) : builtinT Go.Proofs.Tryz.prog h .len (10 :: ts) (.str s :: az) = some (.val (.int .i64 (Int.ofNat s.length))) := by kernel_rfl
attribute [go_sem] len_10
theorem sz_11 : szOf Go.Proofs.Tryz.prog 11 = some 1 := by kernel_rfl
attribute [go_sem] sz_11
theorem ld_11 (h : H) (id off : Nat) : loadT Go.Proofs.Tryz.prog h 11 id off = @thn _ _ (h.blk id) ⟨fun b => b.get off⟩ := by kernel_rfl
attribute [go_sem] ld_11
theorem st_11 (h : H) (id off : Nat) (v : CV) : storeT Go.Proofs.Tryz.prog h 11 id off v = @thn _ _ (h.blk id) ⟨fun b => cond (Nat.beq v.cells.length 1 && !b.ro) ((b.storeA off v.cells).map fun b' => h.put id (.cells b')) none⟩ := by kernel_rfl
attribute [go_sem] st_11
theorem part_11 (cs : List CV) (off : Nat) : partT Go.Proofs.Tryz.prog 11 cs off = nth cs off := by kernel_rfl
attribute [go_sem] part_11
theorem ze_11 : zeroT Go.Proofs.Tryz.prog 11 = some (.str []) := by kernel_rfl
attribute [go_sem] ze_11
theorem ix_11 (s : List Nat) (k : Nat) (kd : IntKind) : indexT Go.Proofs.Tryz.prog 11 (.str s) (.int kd (Int.ofNat k)) = (nth s k).map fun b => .int .u8 (Int.ofNat b) := by kernel_rfl
attribute [go_sem] ix_11
theorem len_11 (h : H) (ts : List TypeId) (az : List CV) (s : List Nat) : builtinT Go.Proofs.Tryz.prog h .len (11 :: ts) (.str s :: az) = some (.val (.int .i64 (Int.ofNat s.length))) := by kernel_rfl
attribute [go_sem] len_11
theorem sz_12 : szOf Go.Proofs.Tryz.prog 12 = some 1 := by kernel_rfl
attribute [go_sem] sz_12
theorem ld_12 (h : H) (id off : Nat) : loadT Go.Proofs.Tryz.prog h 12 id off = @thn _ _ (h.blk id) ⟨fun b => b.get off⟩ := by kernel_rfl
attribute [go_sem] ld_12
theorem st_12 (h : H) (id off : Nat) (v : CV) : storeT Go.Proofs.Tryz.prog h 12 id off v = @thn _ _ (h.blk id) ⟨fun b => cond (Nat.beq v.cells.length 1 && !b.ro) ((b.storeA off v.cells).map fun b' => h.put id (.cells b')) none⟩ := by kernel_rfl
attribute [go_sem] st_12
theorem part_12 (cs : List CV) (off : Nat) : partT Go.Proofs.Tryz.prog 12 cs off = nth cs off := by kernel_rfl
attribute [go_sem] part_12
theorem ze_12 : zeroT Go.Proofs.Tryz.prog 12 = some (.int .u64 0) := by kernel_rfl
attribute [go_sem] ze_12
theorem sz_13 : szOf Go.Proofs.Tryz.prog 13 = some 2 := by kernel_rfl
attribute [go_sem] sz_13
theorem ld_13 (h : H) (id off : Nat) : loadT Go.Proofs.Tryz.prog h 13 id off = @thn _ _ (h.blk id) ⟨fun b => (b.loadN off 2).map .agg⟩ := by kernel_rfl
attribute [go_sem] ld_13
theorem st_13 (h : H) (id off : Nat) (v : CV) : storeT Go.Proofs.Tryz.prog h 13 id off v = @thn _ _ (h.blk id) ⟨fun b => cond (Nat.beq v.cells.length 2 && !b.ro) ((b.storeA off v.cells).map fun b' => h.put id (.cells b')) none⟩ := by kernel_rfl
attribute [go_sem] st_13
theorem part_13 (cs : List CV) (off : Nat) : partT Go.Proofs.Tryz.prog 13 cs off = some (.agg ((cs.drop off).take 2)) := by kernel_rfl
attribute [go_sem] part_13
theorem ze_13 : zeroT Go.Proofs.Tryz.prog 13 = some (.agg [.str [], .int .u64 0]) := by kernel_rfl
attribute [go_sem] ze_13
theorem bt_13 (parts : List (Nat × CV)) : buildT Go.Proofs.Tryz.prog 13 parts = finB (CV.cells (.agg [.str [], .int .u64 0])) (nth [(0, 1), (1, 1)]) parts := by kernel_rfl
attribute [go_sem] bt_13
theorem fa_13_0 (id off : Nat) : fieldAddrT Go.Proofs.Tryz.prog 13 (.ptr id off) 0 = some (.ptr id (off)) := by kernel_rfl
attribute [go_sem] fa_13_0
theorem fd_13_0 (cs : List CV) : fieldT Go.Proofs.Tryz.prog 13 (.agg cs) 0 = partT Go.Proofs.Tryz.prog 9 cs 0 := by kernel_rfl
attribute [go_sem] fd_13_0
theorem fa_13_1 (id off : Nat) : fieldAddrT Go.Proofs.Tryz.prog 13 (.ptr id off) 1 = some (.ptr id (off + 1)) := by kernel_rfl
attribute [go_sem] fa_13_1
theorem fd_13_1 (cs : List CV) : fieldT Go.Proofs.Tryz.prog 13 (.agg cs) 1 = partT Go.Proofs.Tryz.prog 12 cs 1 := by kernel_rfl
attribute [go_sem] fd_13_1
theorem sz_15 : szOf Go.Proofs.Tryz.prog 15 = some 1 := by kernel_rfl
attribute [go_sem] sz_15
theorem ld_15 (h : H) (id off : Nat) : loadT Go.Proofs.Tryz.prog h 15 id off = @thn _ _ (h.blk id) ⟨fun b => b.get off⟩ := by kernel_rfl
attribute [go_sem] ld_15
theorem st_15 (h : H) (id off : Nat) (v : CV) : storeT Go.Proofs.Tryz.prog h 15 id off v = @thn _ _ (h.blk id) ⟨fun b => cond (Nat.beq v.cells.length 1 && !b.ro) ((b.storeA off v.cells).map fun b' => h.put id (.cells b')) none⟩ := by kernel_rfl
attribute [go_sem] st_15
theorem part_15 (cs : List CV) (off : Nat) : partT Go.Proofs.Tryz.prog 15 cs off = nth cs off := by kernel_rfl
attribute [go_sem] part_15
theorem ze_15 : zeroT Go.Proofs.Tryz.prog 15 = some (.nilp) := by kernel_rfl
attribute [go_sem] ze_15
theorem eq_15 (xo yo : Operand) (a b : Nat) : binT Go.Proofs.Tryz.prog .eql 15 xo yo (.ptr a b) .nilp = some (.bool false) := by kernel_rfl
attribute [go_sem] eq_15
theorem eq_15_n (xo yo : Operand) : binT Go.Proofs.Tryz.prog .eql 15 xo yo .nilp .nilp = some (.bool true) := by kernel_rfl
attribute [go_sem] eq_15_n
theorem ne_15 (xo yo : Operand) (a b : Nat) : binT Go.Proofs.Tryz.prog .neq 15 xo yo (.ptr a b) .nilp = some (.bool true) := by kernel_rfl
attribute [go_sem] ne_15
theorem ne_15_n (xo yo : Operand) : binT Go.Proofs.Tryz.prog .neq 15 xo yo .nilp .nilp = some (.bool false) := by kernel_rfl
attribute [go_sem] ne_15_n
theorem sz_16 : szOf Go.Proofs.Tryz.prog 16 = some 1 := by kernel_rfl
attribute [go_sem] sz_16
theorem ld_16 (h : H) (id off : Nat) : loadT Go.Proofs.Tryz.prog h 16 id off = @thn _ _ (h.blk id) ⟨fun b => b.get off⟩ := by kernel_rfl
attribute [go_sem] ld_16
theorem st_16 (h : H) (id off : Nat) (v : CV) : storeT Go.Proofs.Tryz.prog h 16 id off v = @thn _ _ (h.blk id) ⟨fun b => cond (Nat.beq v.cells.length 1 && !b.ro) ((b.storeA off v.cells).map fun b' => h.put id (.cells b')) none⟩ := by kernel_rfl
attribute [go_sem] st_16
theorem part_16 (cs : List CV) (off : Nat) : partT Go.Proofs.Tryz.prog 16 cs off = nth cs off := by kernel_rfl
attribute [go_sem] part_16
theorem ze_16 : zeroT Go.Proofs.Tryz.prog 16 = some (.nilp) := by kernel_rfl
attribute [go_sem] ze_16
theorem eq_16 (xo yo : Operand) (a b : Nat) : binT Go.Proofs.Tryz.prog .eql 16 xo yo (.ptr a b) .nilp = some (.bool false) := by kernel_rfl
attribute [go_sem] eq_16
theorem eq_16_n (xo yo : Operand) : binT Go.Proofs.Tryz.prog .eql 16 xo yo .nilp .nilp = some (.bool true) := by kernel_rfl
attribute [go_sem] eq_16_n
theorem ne_16 (xo yo : Operand) (a b : Nat) : binT Go.Proofs.Tryz.prog .neq 16 xo yo (.ptr a b) .nilp = some (.bool true) := by kernel_rfl
attribute [go_sem] ne_16
theorem ne_16_n (xo yo : Operand) : binT Go.Proofs.Tryz.prog .neq 16 xo yo .nilp .nilp = some (.bool false) := by kernel_rfl
attribute [go_sem] ne_16_n
theorem sz_17 : szOf Go.Proofs.Tryz.prog 17 = some 1 := by kernel_rfl
attribute [go_sem] sz_17
theorem ld_17 (h : H) (id off : Nat) : loadT Go.Proofs.Tryz.prog h 17 id off = @thn _ _ (h.blk id) ⟨fun b => b.get off⟩ := by kernel_rfl
attribute [go_sem] ld_17
theorem st_17 (h : H) (id off : Nat) (v : CV) : storeT Go.Proofs.Tryz.prog h 17 id off v = @thn _ _ (h.blk id) ⟨fun b => cond (Nat.beq v.cells.length 1 && !b.ro) ((b.storeA off v.cells).map fun b' => h.put id (.cells b')) none⟩ := by kernel_rfl
attribute [go_sem] st_17
theorem part_17 (cs : List CV) (off : Nat) : partT Go.Proofs.Tryz.prog 17 cs off = nth cs off := by kernel_rfl
attribute [go_sem] part_17
theorem ze_17 : zeroT Go.Proofs.Tryz.prog 17 = some (.nilp) := by kernel_rfl
attribute [go_sem] ze_17
theorem eq_17 (xo yo : Operand) (a b : Nat) : binT Go.Proofs.Tryz.prog .eql 17 xo yo (.ptr a b) .nilp = some (.bool false) := by kernel_rfl
attribute [go_sem] eq_17
theorem eq_17_n (xo yo : Operand) : binT Go.Proofs.Tryz.prog .eql 17 xo yo .nilp .nilp = some (.bool true) := by kernel_rfl
attribute [go_sem] eq_17_n
theorem ne_17 (xo yo : Operand) (a b : Nat) : binT Go.Proofs.Tryz.prog .neq 17 xo yo (.ptr a b) .nilp = some (.bool true) := by kernel_rfl
attribute [go_sem] ne_17
theorem ne_17_n (xo yo : Operand) : binT Go.Proofs.Tryz.prog .neq 17 xo yo .nilp .nilp = some (.bool false) := by kernel_rfl
attribute [go_sem] ne_17_n
theorem sz_18 : szOf Go.Proofs.Tryz.prog 18 = some 1 := by kernel_rfl
attribute [go_sem] sz_18
theorem ld_18 (h : H) (id off : Nat) : loadT Go.Proofs.Tryz.prog h 18 id off = @thn _ _ (h.blk id) ⟨fun b => (b.loadN off 1).map .agg⟩ := by kernel_rfl
attribute [go_sem] ld_18
theorem st_18 (h : H) (id off : Nat) (v : CV) : storeT Go.Proofs.Tryz.prog h 18 id off v = @thn _ _ (h.blk id) ⟨fun b => cond (Nat.beq v.cells.length 1 && !b.ro) ((b.storeA off v.cells).map fun b' => h.put id (.cells b')) none⟩ := by kernel_rfl
attribute [go_sem] st_18
theorem part_18 (cs : List CV) (off : Nat) : partT Go.Proofs.Tryz.prog 18 cs off = some (.agg ((cs.drop off).take 1)) := by kernel_rfl
attribute [go_sem] part_18
theorem ze_18 : zeroT Go.Proofs.Tryz.prog 18 = some (.agg [.nilp]) := by kernel_rfl
attribute [go_sem] ze_18
theorem bt_18 (parts : List (Nat × CV)) : buildT Go.Proofs.Tryz.prog 18 parts = finB (CV.cells (.agg [.nilp])) (nth [(0, 1)]) parts := by kernel_rfl
attribute [go_sem] bt_18
theorem fa_18_0 (id off : Nat) : fieldAddrT Go.Proofs.Tryz.prog 18 (.ptr id off) 0 = some (.ptr id (off)) := by kernel_rfl
attribute [go_sem] fa_18_0
theorem fd_18_0 (cs : List CV) : fieldT Go.Proofs.Tryz.prog 18 (.agg cs) 0 = partT Go.Proofs.Tryz.prog 17 cs 0 := by kernel_rfl
attribute [go_sem] fd_18_0
theorem sz_20 : szOf Go.Proofs.Tryz.prog 20 = some 1 := by kernel_rfl
attribute [go_sem] sz_20
theorem ld_20 (h : H) (id off : Nat) : loadT Go.Proofs.Tryz.prog h 20 id off = @thn _ _ (h.blk id) ⟨fun b => b.get off⟩ := by kernel_rfl
attribute [go_sem] ld_20
theorem st_20 (h : H) (id off : Nat) (v : CV) : storeT Go.Proofs.Tryz.prog h 20 id off v = @thn _ _ (h.blk id) ⟨fun b => cond (Nat.beq v.cells.length 1 && !b.ro) ((b.storeA off v.cells).map fun b' => h.put id (.cells b')) none⟩ := by kernel_rfl
attribute [go_sem] st_20
theorem part_20 (cs : List CV) (off : Nat) : partT Go.Proofs.Tryz.prog 20 cs off = nth cs off := by kernel_rfl
attribute [go_sem] part_20
theorem ze_20 : zeroT Go.Proofs.Tryz.prog 20 = some (.nili) := by kernel_rfl
attribute [go_sem] ze_20
theorem sz_21 : szOf Go.Proofs.Tryz.prog 21 = some 1 := by kernel_rfl
attribute [go_sem] sz_21
theorem ld_21 (h : H) (id off : Nat) : loadT Go.Proofs.Tryz.prog h 21 id off = @thn _ _ (h.blk id) ⟨fun b => b.get off⟩ := by kernel_rfl
attribute [go_sem] ld_21
theorem st_21 (h : H) (id off : Nat) (v : CV) : storeT Go.Proofs.Tryz.prog h 21 id off v = @thn _ _ (h.blk id) ⟨fun b => cond (Nat.beq v.cells.length 1 && !b.ro) ((b.storeA off v.cells).map fun b' => h.put id (.cells b')) none⟩ := by kernel_rfl
attribute [go_sem] st_21
theorem part_21 (cs : List CV) (off : Nat) : partT Go.Proofs.Tryz.prog 21 cs off = nth cs off := by kernel_rfl
attribute [go_sem] part_21
theorem ze_21 : zeroT Go.Proofs.Tryz.prog 21 = some (.int .i32 0) := by kernel_rfl
attribute [go_sem] ze_21
theorem sz_22 : szOf Go.Proofs.Tryz.prog 22 = some 1 := by kernel_rfl
attribute [go_sem] sz_22
theorem ld_22 (h : H) (id off : Nat) : loadT Go.Proofs.Tryz.prog h 22 id off = @thn _ _ (h.blk id) ⟨fun b => b.get off⟩ := by kernel_rfl
attribute [go_sem] ld_22
theorem st_22 (h : H) (id off : Nat) (v : CV) : storeT Go.Proofs.Tryz.prog h 22 id off v = @thn _ _ (h.blk id) ⟨fun b => cond (Nat.beq v.cells.length 1 && !b.ro) ((b.storeA off v.cells).map fun b' => h.put id (.cells b')) none⟩ := by kernel_rfl
attribute [go_sem] st_22
theorem part_22 (cs : List CV) (off : Nat) : partT Go.Proofs.Tryz.prog 22 cs off = nth cs off := by kernel_rfl
attribute [go_sem] part_22
theorem ze_22 : zeroT Go.Proofs.Tryz.prog 22 = some (.int .u64 0) := by kernel_rfl
attribute [go_sem] ze_22
theorem sz_23 : szOf Go.Proofs.Tryz.prog 23 = some 1 := by kernel_rfl
attribute [go_sem] sz_23
theorem ld_23 (h : H) (id off : Nat) : loadT Go.Proofs.Tryz.prog h 23 id off = @thn _ _ (h.blk id) ⟨fun b => b.get off⟩ := by kernel_rfl
attribute [go_sem] ld_23
theorem st_23 (h : H) (id off : Nat) (v : CV) : storeT Go.Proofs.Tryz.prog h 23 id off v = @thn _ _ (h.blk id) ⟨fun b => cond (Nat.beq v.cells.length 1 && !b.ro) ((b.storeA off v.cells).map fun b' => h.put id (.cells b')) none⟩ := by kernel_rfl
attribute [go_sem] st_23
theorem part_23 (cs : List CV) (off : Nat) : partT Go.Proofs.Tryz.prog 23 cs off = nth cs off := by kernel_rfl
attribute [go_sem] part_23
theorem ze_23 : zeroT Go.Proofs.Tryz.prog 23 = some (.int .i64 0) := by kernel_rfl
attribute [go_sem] ze_23
theorem sz_25 : szOf Go.Proofs.Tryz.prog 25 = some 256 := by kernel_rfl
attribute [go_sem] sz_25
theorem ld_25 (h : H) (id off : Nat) : loadT Go.Proofs.Tryz.prog h 25 id off = @thn _ _ (h.blk id) ⟨fun b => (b.loadN off 256).map .agg⟩ := by kernel_rfl
attribute [go_sem] ld_25
theorem st_25 (h : H) (id off : Nat) (v : CV) : storeT Go.Proofs.Tryz.prog h 25 id off v = @thn _ _ (h.blk id) ⟨fun b => cond (Nat.beq v.cells.length 256 && !b.ro) ((b.storeA off v.cells).map fun b' => h.put id (.cells b')) none⟩ := by kernel_rfl
attribute [go_sem] st_25
theorem part_25 (cs : List CV) (off : Nat) : partT Go.Proofs.Tryz.prog 25 cs off = some (.agg ((cs.drop off).take 256)) := by kernel_rfl
attribute [go_sem] part_25
theorem ia_25 (id off k : Nat) (kd : IntKind) : indexAddrT Go.Proofs.Tryz.prog 25 (.ptr id off) (.int kd (Int.ofNat k)) = cond (Nat.blt k 256) (some (.ptr id (off + k * 1))) none := by kernel_rfl
attribute [go_sem] ia_25
theorem ix_25 (cs : List CV) (k : Nat) (kd : IntKind) : indexT Go.Proofs.Tryz.prog 25 (.agg cs) (.int kd (Int.ofNat k)) = cond (Nat.blt k 256) (partT Go.Proofs.Tryz.prog 5 cs (k * 1)) none := by kernel_rfl
attribute [go_sem] ix_25
theorem len_25 (h : H) (ts : List TypeId) (az : List CV) (a : CV) : builtinT Go.Proofs.Tryz.prog h .len (25 :: ts) (a :: az) = some (.val (.int .i64 256)) := by kernel_rfl
attribute [go_sem] len_25
theorem sz_26 : szOf Go.Proofs.Tryz.prog 26 = some 1 := by kernel_rfl
attribute [go_sem] sz_26
theorem ld_26 (h : H) (id off : Nat) : loadT Go.Proofs.Tryz.prog h 26 id off = @thn _ _ (h.blk id) ⟨fun b => b.get off⟩ := by kernel_rfl
attribute [go_sem] ld_26
theorem st_26 (h : H) (id off : Nat) (v : CV) : storeT Go.Proofs.Tryz.prog h 26 id off v = @thn _ _ (h.blk id) ⟨fun b => cond (Nat.beq v.cells.length 1 && !b.ro) ((b.storeA off v.cells).map fun b' => h.put id (.cells b')) none⟩ := by kernel_rfl
attribute [go_sem] st_26
theorem part_26 (cs : List CV) (off : Nat) : partT Go.Proofs.Tryz.prog 26 cs off = nth cs off := by kernel_rfl
attribute [go_sem] part_26
theorem ze_26 : zeroT Go.Proofs.Tryz.prog 26 = some (.int .i64 0) := by kernel_rfl
attribute [go_sem] ze_26
theorem sz_27 : szOf Go.Proofs.Tryz.prog 27 = some 1 := by kernel_rfl
attribute [go_sem] sz_27
theorem ld_27 (h : H) (id off : Nat) : loadT Go.Proofs.Tryz.prog h 27 id off = @thn _ _ (h.blk id) ⟨fun b => b.get off⟩ := by kernel_rfl
attribute [go_sem] ld_27
theorem st_27 (h : H) (id off : Nat) (v : CV) : storeT Go.Proofs.Tryz.prog h 27 id off v = @thn _ _ (h.blk id) ⟨fun b => cond (Nat.beq v.cells.length 1 && !b.ro) ((b.storeA off v.cells).map fun b' => h.put id (.cells b')) none⟩ := by kernel_rfl
attribute [go_sem] st_27
theorem part_27 (cs : List CV) (off : Nat) : partT Go.Proofs.Tryz.prog 27 cs off = nth cs off := by kernel_rfl
attribute [go_sem] part_27
theorem ze_27 : zeroT Go.Proofs.Tryz.prog 27 = some (.int .i64 0) := by kernel_rfl
attribute [go_sem] ze_27
theorem sz_28 : szOf Go.Proofs.Tryz.prog 28 = some 5 := by kernel_rfl
attribute [go_sem] sz_28
theorem ld_28 (h : H) (id off : Nat) : loadT Go.Proofs.Tryz.prog h 28 id off = @thn _ _ (h.blk id) ⟨fun b => (b.loadN off 5).map .agg⟩ := by kernel_rfl
attribute [go_sem] ld_28
theorem st_28 (h : H) (id off : Nat) (v : CV) : storeT Go.Proofs.Tryz.prog h 28 id off v = @thn _ _ (h.blk id) ⟨fun b => cond (Nat.beq v.cells.length 5 && !b.ro) ((b.storeA off v.cells).map fun b' => h.put id (.cells b')) none⟩ := by kernel_rfl
attribute [go_sem] st_28
theorem part_28 (cs : List CV) (off : Nat) : partT Go.Proofs.Tryz.prog 28 cs off = some (.agg ((cs.drop off).take 5)) := by kernel_rfl
attribute [go_sem] part_28
theorem ze_28 : zeroT Go.Proofs.Tryz.prog 28 = some (.agg [.int .i64 0, .int .i64 0, .int .u64 0, .int .u64 0, .int .i64 0]) := by kernel_rfl
attribute [go_sem] ze_28
theorem bt_28 (parts : List (Nat × CV)) : buildT Go.Proofs.Tryz.prog 28 parts = finB (CV.cells (.agg [.int .i64 0, .int .i64 0, .int .u64 0, .int .u64 0, .int .i64 0])) (nth [(0, 1), (1, 1), (2, 1), (3, 1), (4, 1)]) parts := by kernel_rfl
attribute [go_sem] bt_28
theorem fa_28_0 (id off : Nat) : fieldAddrT Go.Proofs.Tryz.prog 28 (.ptr id off) 0 = some (.ptr id (off)) := by kernel_rfl
attribute [go_sem] fa_28_0
theorem fd_28_0 (cs : List CV) : fieldT Go.Proofs.Tryz.prog 28 (.agg cs) 0 = partT Go.Proofs.Tryz.prog 26 cs 0 := by kernel_rfl
attribute [go_sem] fd_28_0
theorem fa_28_1 (id off : Nat) : fieldAddrT Go.Proofs.Tryz.prog 28 (.ptr id off) 1 = some (.ptr id (off + 1)) := by kernel_rfl
attribute [go_sem] fa_28_1
theorem fd_28_1 (cs : List CV) : fieldT Go.Proofs.Tryz.prog 28 (.agg cs) 1 = partT Go.Proofs.Tryz.prog 3 cs 1 := by kernel_rfl
attribute [go_sem] fd_28_1
theorem fa_28_2 (id off : Nat) : fieldAddrT Go.Proofs.Tryz.prog 28 (.ptr id off) 2 = some (.ptr id (off + 2)) := by kernel_rfl
attribute [go_sem] fa_28_2
theorem fd_28_2 (cs : List CV) : fieldT Go.Proofs.Tryz.prog 28 (.agg cs) 2 = partT Go.Proofs.Tryz.prog 22 cs 2 := by kernel_rfl
attribute [go_sem] fd_28_2
theorem fa_28_3 (id off : Nat) : fieldAddrT Go.Proofs.Tryz.prog 28 (.ptr id off) 3 = some (.ptr id (off + 3)) := by kernel_rfl
attribute [go_sem] fa_28_3
theorem fd_28_3 (cs : List CV) : fieldT Go.Proofs.Tryz.prog 28 (.agg cs) 3 = partT Go.Proofs.Tryz.prog 22 cs 3 := by kernel_rfl
attribute [go_sem] fd_28_3
theorem fa_28_4 (id off : Nat) : fieldAddrT Go.Proofs.Tryz.prog 28 (.ptr id off) 4 = some (.ptr id (off + 4)) := by kernel_rfl
attribute [go_sem] fa_28_4
theorem fd_28_4 (cs : List CV) : fieldT Go.Proofs.Tryz.prog 28 (.agg cs) 4 = partT Go.Proofs.Tryz.prog 27 cs 4 := by kernel_rfl
attribute [go_sem] fd_28_4
theorem sz_29 : szOf Go.Proofs.Tryz.prog 29 = some 5 := by kernel_rfl
attribute [go_sem] sz_29
theorem ld_29 (h : H) (id off : Nat) : loadT Go.Proofs.Tryz.prog h 29 id off = @thn _ _ (h.blk id) ⟨fun b => (b.loadN off 5).map .agg⟩ := by kernel_rfl
attribute [go_sem] ld_29
theorem st_29 (h : H) (id off : Nat) (v : CV) : storeT Go.Proofs.Tryz.prog h 29 id off v = @thn _ _ (h.blk id) ⟨fun b => cond (Nat.beq v.cells.length 5 && !b.ro) ((b.storeA off v.cells).map fun b' => h.put id (.cells b')) none⟩ := by kernel_rfl
attribute [go_sem] st_29
theorem part_29 (cs : List CV) (off : Nat) : partT Go.Proofs.Tryz.prog 29 cs off = some (.agg ((cs.drop off).take 5)) := by kernel_rfl
attribute [go_sem] part_29
theorem ze_29 : zeroT Go.Proofs.Tryz.prog 29 = some (.agg [.int .i64 0, .int .i64 0, .int .u64 0, .int .u64 0, .int .i64 0]) := by kernel_rfl
attribute [go_sem] ze_29
theorem bt_29 (parts : List (Nat × CV)) : buildT Go.Proofs.Tryz.prog 29 parts = finB (CV.cells (.agg [.int .i64 0, .int .i64 0, .int .u64 0, .int .u64 0, .int .i64 0])) (nth [(0, 1), (1, 1), (2, 1), (3, 1), (4, 1)]) parts := by kernel_rfl
attribute [go_sem] bt_29
theorem fa_29_0 (id off : Nat) : fieldAddrT Go.Proofs.Tryz.prog 29 (.ptr id off) 0 = some (.ptr id (off)) := by kernel_rfl
attribute [go_sem] fa_29_0
theorem fd_29_0 (cs : List CV) : fieldT Go.Proofs.Tryz.prog 29 (.agg cs) 0 = partT Go.Proofs.Tryz.prog 26 cs 0 := by kernel_rfl
attribute [go_sem] fd_29_0
theorem fa_29_1 (id off : Nat) : fieldAddrT Go.Proofs.Tryz.prog 29 (.ptr id off) 1 = some (.ptr id (off + 1)) := by kernel_rfl
attribute [go_sem] fa_29_1
theorem fd_29_1 (cs : List CV) : fieldT Go.Proofs.Tryz.prog 29 (.agg cs) 1 = partT Go.Proofs.Tryz.prog 3 cs 1 := by kernel_rfl
attribute [go_sem] fd_29_1
theorem fa_29_2 (id off : Nat) : fieldAddrT Go.Proofs.Tryz.prog 29 (.ptr id off) 2 = some (.ptr id (off + 2)) := by kernel_rfl
attribute [go_sem] fa_29_2
theorem fd_29_2 (cs : List CV) : fieldT Go.Proofs.Tryz.prog 29 (.agg cs) 2 = partT Go.Proofs.Tryz.prog 22 cs 2 := by kernel_rfl
attribute [go_sem] fd_29_2
theorem fa_29_3 (id off : Nat) : fieldAddrT Go.Proofs.Tryz.prog 29 (.ptr id off) 3 = some (.ptr id (off + 3)) := by kernel_rfl
attribute [go_sem] fa_29_3
theorem fd_29_3 (cs : List CV) : fieldT Go.Proofs.Tryz.prog 29 (.agg cs) 3 = partT Go.Proofs.Tryz.prog 22 cs 3 := by kernel_rfl
attribute [go_sem] fd_29_3
theorem fa_29_4 (id off : Nat) : fieldAddrT Go.Proofs.Tryz.prog 29 (.ptr id off) 4 = some (.ptr id (off + 4)) := by kernel_rfl
attribute [go_sem] fa_29_4
theorem fd_29_4 (cs : List CV) : fieldT Go.Proofs.Tryz.prog 29 (.agg cs) 4 = partT Go.Proofs.Tryz.prog 27 cs 4 := by kernel_rfl
attribute [go_sem] fd_29_4
theorem sz_31 : szOf Go.Proofs.Tryz.prog 31 = some 265 := by kernel_rfl
attribute [go_sem] sz_31
theorem ld_31 (h : H) (id off : Nat) : loadT Go.Proofs.Tryz.prog h 31 id off = @thn _ _ (h.blk id) ⟨fun b => (b.loadN off 265).map .agg⟩ := by kernel_rfl
attribute [go_sem] ld_31
theorem st_31 (h : H) (id off : Nat) (v : CV) : storeT Go.Proofs.Tryz.prog h 31 id off v = @thn _ _ (h.blk id) ⟨fun b => cond (Nat.beq v.cells.length 265 && !b.ro) ((b.storeA off v.cells).map fun b' => h.put id (.cells b')) none⟩ := by kernel_rfl
attribute [go_sem] st_31
theorem part_31 (cs : List CV) (off : Nat) : partT Go.Proofs.Tryz.prog 31 cs off = some (.agg ((cs.drop off).take 265)) := by kernel_rfl
attribute [go_sem] part_31
theorem fa_31_0 (id off : Nat) : fieldAddrT Go.Proofs.Tryz.prog 31 (.ptr id off) 0 = some (.ptr id (off)) := by kernel_rfl
attribute [go_sem] fa_31_0
theorem fd_31_0 (cs : List CV) : fieldT Go.Proofs.Tryz.prog 31 (.agg cs) 0 = partT Go.Proofs.Tryz.prog 22 cs 0 := by kernel_rfl
attribute [go_sem] fd_31_0
theorem fa_31_1 (id off : Nat) : fieldAddrT Go.Proofs.Tryz.prog 31 (.ptr id off) 1 = some (.ptr id (off + 1)) := by kernel_rfl
attribute [go_sem] fa_31_1
theorem fd_31_1 (cs : List CV) : fieldT Go.Proofs.Tryz.prog 31 (.agg cs) 1 = partT Go.Proofs.Tryz.prog 3 cs 1 := by kernel_rfl
attribute [go_sem] fd_31_1
theorem fa_31_2 (id off : Nat) : fieldAddrT Go.Proofs.Tryz.prog 31 (.ptr id off) 2 = some (.ptr id (off + 2)) := by kernel_rfl
attribute [go_sem] fa_31_2
theorem fd_31_2 (cs : List CV) : fieldT Go.Proofs.Tryz.prog 31 (.agg cs) 2 = partT Go.Proofs.Tryz.prog 23 cs 2 := by kernel_rfl
attribute [go_sem] fd_31_2
theorem fa_31_3 (id off : Nat) : fieldAddrT Go.Proofs.Tryz.prog 31 (.ptr id off) 3 = some (.ptr id (off + 3)) := by kernel_rfl
attribute [go_sem] fa_31_3
theorem fd_31_3 (cs : List CV) : fieldT Go.Proofs.Tryz.prog 31 (.agg cs) 3 = partT Go.Proofs.Tryz.prog 3 cs 3 := by kernel_rfl
attribute [go_sem] fd_31_3
theorem fa_31_4 (id off : Nat) : fieldAddrT Go.Proofs.Tryz.prog 31 (.ptr id off) 4 = some (.ptr id (off + 4)) := by kernel_rfl
attribute [go_sem] fa_31_4
theorem fd_31_4 (cs : List CV) : fieldT Go.Proofs.Tryz.prog 31 (.agg cs) 4 = partT Go.Proofs.Tryz.prog 25 cs 4 := by kernel_rfl
attribute [go_sem] fd_31_4
theorem fa_31_5 (id off : Nat) : fieldAddrT Go.Proofs.Tryz.prog 31 (.ptr id off) 5 = some (.ptr id (off + 260)) := by kernel_rfl
attribute [go_sem] fa_31_5
theorem fd_31_5 (cs : List CV) : fieldT Go.Proofs.Tryz.prog 31 (.agg cs) 5 = partT Go.Proofs.Tryz.prog 29 cs 260 := by kernel_rfl
attribute [go_sem] fd_31_5
theorem sz_32 : szOf Go.Proofs.Tryz.prog 32 = some 1 := by kernel_rfl
attribute [go_sem] sz_32
theorem ld_32 (h : H) (id off : Nat) : loadT Go.Proofs.Tryz.prog h 32 id off = @thn _ _ (h.blk id) ⟨fun b => b.get off⟩ := by kernel_rfl
attribute [go_sem] ld_32
theorem st_32 (h : H) (id off : Nat) (v : CV) : storeT Go.Proofs.Tryz.prog h 32 id off v = @thn _ _ (h.blk id) ⟨fun b => cond (Nat.beq v.cells.length 1 && !b.ro) ((b.storeA off v.cells).map fun b' => h.put id (.cells b')) none⟩ := by kernel_rfl
attribute [go_sem] st_32
theorem part_32 (cs : List CV) (off : Nat) : partT Go.Proofs.Tryz.prog 32 cs off = nth cs off := by kernel_rfl
attribute [go_sem] part_32
theorem ze_32 : zeroT Go.Proofs.Tryz.prog 32 = some (.int .i64 0) := by kernel_rfl
attribute [go_sem] ze_32
theorem sz_33 : szOf Go.Proofs.Tryz.prog 33 = some 1 := by kernel_rfl
attribute [go_sem] sz_33
theorem ld_33 (h : H) (id off : Nat) : loadT Go.Proofs.Tryz.prog h 33 id off = @thn _ _ (h.blk id) ⟨fun b => b.get off⟩ := by kernel_rfl
attribute [go_sem] ld_33
theorem st_33 (h : H) (id off : Nat) (v : CV) : storeT Go.Proofs.Tryz.prog h 33 id off v = @thn _ _ (h.blk id) ⟨fun b => cond (Nat.beq v.cells.length 1 && !b.ro) ((b.storeA off v.cells).map fun b' => h.put id (.cells b')) none⟩ := by kernel_rfl
attribute [go_sem] st_33
theorem part_33 (cs : List CV) (off : Nat) : partT Go.Proofs.Tryz.prog 33 cs off = nth cs off := by kernel_rfl
attribute [go_sem] part_33
theorem sz_34 : szOf Go.Proofs.Tryz.prog 34 = some 1 := by kernel_rfl
attribute [go_sem] sz_34
theorem ld_34 (h : H) (id off : Nat) : loadT Go.Proofs.Tryz.prog h 34 id off = @thn _ _ (h.blk id) ⟨fun b => b.get off⟩ := by kernel_rfl
attribute [go_sem] ld_34
theorem st_34 (h : H) (id off : Nat) (v : CV) : storeT Go.Proofs.Tryz.prog h 34 id off v = @thn _ _ (h.blk id) ⟨fun b => cond (Nat.beq v.cells.length 1 && !b.ro) ((b.storeA off v.cells).map fun b' => h.put id (.cells b')) none⟩ := by kernel_rfl
attribute [go_sem] st_34
theorem part_34 (cs : List CV) (off : Nat) : partT Go.Proofs.Tryz.prog 34 cs off = nth cs off := by kernel_rfl
attribute [go_sem] part_34
theorem ze_34 : zeroT Go.Proofs.Tryz.prog 34 = some (.nilf) := by kernel_rfl
attribute [go_sem] ze_34
theorem eq_34 (xo yo : Operand) (f : Fn) (a b : List CV) : binT Go.Proofs.Tryz.prog .eql 34 xo yo (.fn f a b) .nilf = some (.bool false) := by kernel_rfl
attribute [go_sem] eq_34
theorem eq_34_n (xo yo : Operand) : binT Go.Proofs.Tryz.prog .eql 34 xo yo .nilf .nilf = some (.bool true) := by kernel_rfl
attribute [go_sem] eq_34_n
theorem ne_34 (xo yo : Operand) (f : Fn) (a b : List CV) : binT Go.Proofs.Tryz.prog .neq 34 xo yo (.fn f a b) .nilf = some (.bool true) := by kernel_rfl
attribute [go_sem] ne_34
theorem ne_34_n (xo yo : Operand) : binT Go.Proofs.Tryz.prog .neq 34 xo yo .nilf .nilf = some (.bool false) := by kernel_rfl
attribute [go_sem] ne_34_n
theorem sz_36 : szOf Go.Proofs.Tryz.prog 36 = some 1 := by kernel_rfl
attribute [go_sem] sz_36
theorem ld_36 (h : H) (id off : Nat) : loadT Go.Proofs.Tryz.prog h 36 id off = @thn _ _ (h.blk id) ⟨fun b => b.get off⟩ := by kernel_rfl
attribute [go_sem] ld_36
theorem st_36 (h : H) (id off : Nat) (v : CV) : storeT Go.Proofs.Tryz.prog h 36 id off v = @thn _ _ (h.blk id) ⟨fun b => cond (Nat.beq v.cells.length 1 && !b.ro) ((b.storeA off v.cells).map fun b' => h.put id (.cells b')) none⟩ := by kernel_rfl
attribute [go_sem] st_36
theorem part_36 (cs : List CV) (off : Nat) : partT Go.Proofs.Tryz.prog 36 cs off = nth cs off := by kernel_rfl
attribute [go_sem] part_36
theorem ze_36 : zeroT Go.Proofs.Tryz.prog 36 = some (.nilf) := by kernel_rfl
attribute [go_sem] ze_36
theorem eq_36 (xo yo : Operand) (f : Fn) (a b : List CV) : binT Go.Proofs.Tryz.prog .eql 36 xo yo (.fn f a b) .nilf = some (.bool false) := by kernel_rfl
attribute [go_sem] eq_36
theorem eq_36_n (xo yo : Operand) : binT Go.Proofs.Tryz.prog .eql 36 xo yo .nilf .nilf = some (.bool true) := by kernel_rfl
attribute [go_sem] eq_36_n
theorem ne_36 (xo yo : Operand) (f : Fn) (a b : List CV) : binT Go.Proofs.Tryz.prog .neq 36 xo yo (.fn f a b) .nilf = some (.bool true) := by kernel_rfl
attribute [go_sem] ne_36
theorem ne_36_n (xo yo : Operand) : binT Go.Proofs.Tryz.prog .neq 36 xo yo .nilf .nilf = some (.bool false) := by kernel_rfl
attribute [go_sem] ne_36_n
theorem sz_45 : szOf Go.Proofs.Tryz.prog 45 = some 3 := by kernel_rfl
attribute [go_sem] sz_45
theorem ld_45 (h : H) (id off : Nat) : loadT Go.Proofs.Tryz.prog h 45 id off = @thn _ _ (h.blk id) ⟨fun b => (b.loadN off 3).map .agg⟩ := by kernel_rfl
attribute [go_sem] ld_45
theorem st_45 (h : H) (id off : Nat) (v : CV) : storeT Go.Proofs.Tryz.prog h 45 id off v = @thn _ _ (h.blk id) ⟨fun b => cond (Nat.beq v.cells.length 3 && !b.ro) ((b.storeA off v.cells).map fun b' => h.put id (.cells b')) none⟩ := by kernel_rfl
attribute [go_sem] st_45
theorem part_45 (cs : List CV) (off : Nat) : partT Go.Proofs.Tryz.prog 45 cs off = some (.agg ((cs.drop off).take 3)) := by kernel_rfl
attribute [go_sem] part_45
theorem ze_45 : zeroT Go.Proofs.Tryz.prog 45 = some (.agg [.int .i64 0, .int .i64 0, .int .i64 0]) := by kernel_rfl
attribute [go_sem] ze_45
theorem bt_45 (parts : List (Nat × CV)) : buildT Go.Proofs.Tryz.prog 45 parts = finB (CV.cells (.agg [.int .i64 0, .int .i64 0, .int .i64 0])) (nth [(0, 1), (1, 1), (2, 1)]) parts := by kernel_rfl
attribute [go_sem] bt_45
theorem fa_45_0 (id off : Nat) : fieldAddrT Go.Proofs.Tryz.prog 45 (.ptr id off) 0 = some (.ptr id (off)) := by kernel_rfl
attribute [go_sem] fa_45_0
theorem fd_45_0 (cs : List CV) : fieldT Go.Proofs.Tryz.prog 45 (.agg cs) 0 = partT Go.Proofs.Tryz.prog 44 cs 0 := by kernel_rfl
attribute [go_sem] fd_45_0
theorem fa_45_1 (id off : Nat) : fieldAddrT Go.Proofs.Tryz.prog 45 (.ptr id off) 1 = some (.ptr id (off + 1)) := by kernel_rfl
attribute [go_sem] fa_45_1
theorem fd_45_1 (cs : List CV) : fieldT Go.Proofs.Tryz.prog 45 (.agg cs) 1 = partT Go.Proofs.Tryz.prog 44 cs 1 := by kernel_rfl
attribute [go_sem] fd_45_1
theorem fa_45_2 (id off : Nat) : fieldAddrT Go.Proofs.Tryz.prog 45 (.ptr id off) 2 = some (.ptr id (off + 2)) := by kernel_rfl
attribute [go_sem] fa_45_2
theorem fd_45_2 (cs : List CV) : fieldT Go.Proofs.Tryz.prog 45 (.agg cs) 2 = partT Go.Proofs.Tryz.prog 44 cs 2 := by kernel_rfl
attribute [go_sem] fd_45_2
theorem sz_48 : szOf Go.Proofs.Tryz.prog 48 = some 10 := by kernel_rfl
attribute [go_sem] sz_48
theorem ld_48 (h : H) (id off : Nat) : loadT Go.Proofs.Tryz.prog h 48 id off = @thn _ _ (h.blk id) ⟨fun b => (b.loadN off 10).map .agg⟩ := by kernel_rfl
attribute [go_sem] ld_48
theorem st_48 (h : H) (id off : Nat) (v : CV) : storeT Go.Proofs.Tryz.prog h 48 id off v = @thn _ _ (h.blk id) ⟨fun b => cond (Nat.beq v.cells.length 10 && !b.ro) ((b.storeA off v.cells).map fun b' => h.put id (.cells b')) none⟩ := by kernel_rfl
attribute [go_sem] st_48
theorem part_48 (cs : List CV) (off : Nat) : partT Go.Proofs.Tryz.prog 48 cs off = some (.agg ((cs.drop off).take 10)) := by kernel_rfl
attribute [go_sem] part_48
theorem ze_48 : zeroT Go.Proofs.Tryz.prog 48 = some (.agg [.int .i64 0, .int .i64 0, .int .i64 0, .int .i64 0, .bool false, .int .i64 0, .int .i64 0, .int .i64 0, .int .i64 0, .int .i64 0]) := by kernel_rfl
attribute [go_sem] ze_48
theorem bt_48 (parts : List (Nat × CV)) : buildT Go.Proofs.Tryz.prog 48 parts = finB (CV.cells (.agg [.int .i64 0, .int .i64 0, .int .i64 0, .int .i64 0, .bool false, .int .i64 0, .int .i64 0, .int .i64 0, .int .i64 0, .int .i64 0])) (nth [(0, 1), (1, 1), (2, 1), (3, 1), (4, 1), (5, 1), (6, 1), (7, 3)]) parts := by kernel_rfl
attribute [go_sem] bt_48
theorem fa_48_0 (id off : Nat) : fieldAddrT Go.Proofs.Tryz.prog 48 (.ptr id off) 0 = some (.ptr id (off)) := by kernel_rfl
attribute [go_sem] fa_48_0
theorem fd_48_0 (cs : List CV) : fieldT Go.Proofs.Tryz.prog 48 (.agg cs) 0 = partT Go.Proofs.Tryz.prog 3 cs 0 := by kernel_rfl
attribute [go_sem] fd_48_0
theorem fa_48_1 (id off : Nat) : fieldAddrT Go.Proofs.Tryz.prog 48 (.ptr id off) 1 = some (.ptr id (off + 1)) := by kernel_rfl
attribute [go_sem] fa_48_1
theorem fd_48_1 (cs : List CV) : fieldT Go.Proofs.Tryz.prog 48 (.agg cs) 1 = partT Go.Proofs.Tryz.prog 3 cs 1 := by kernel_rfl
attribute [go_sem] fd_48_1
theorem fa_48_2 (id off : Nat) : fieldAddrT Go.Proofs.Tryz.prog 48 (.ptr id off) 2 = some (.ptr id (off + 2)) := by kernel_rfl
attribute [go_sem] fa_48_2
theorem fd_48_2 (cs : List CV) : fieldT Go.Proofs.Tryz.prog 48 (.agg cs) 2 = partT Go.Proofs.Tryz.prog 3 cs 2 := by kernel_rfl
attribute [go_sem] fd_48_2
theorem fa_48_3 (id off : Nat) : fieldAddrT Go.Proofs.Tryz.prog 48 (.ptr id off) 3 = some (.ptr id (off + 3)) := by kernel_rfl
attribute [go_sem] fa_48_3
theorem fd_48_3 (cs : List CV) : fieldT Go.Proofs.Tryz.prog 48 (.agg cs) 3 = partT Go.Proofs.Tryz.prog 3 cs 3 := by kernel_rfl
attribute [go_sem] fd_48_3
theorem fa_48_4 (id off : Nat) : fieldAddrT Go.Proofs.Tryz.prog 48 (.ptr id off) 4 = some (.ptr id (off + 4)) := by kernel_rfl
attribute [go_sem] fa_48_4
theorem fd_48_4 (cs : List CV) : fieldT Go.Proofs.Tryz.prog 48 (.agg cs) 4 = partT Go.Proofs.Tryz.prog 4 cs 4 := by kernel_rfl
attribute [go_sem] fd_48_4
theorem fa_48_5 (id off : Nat) : fieldAddrT Go.Proofs.Tryz.prog 48 (.ptr id off) 5 = some (.ptr id (off + 5)) := by kernel_rfl
attribute [go_sem] fa_48_5
theorem fd_48_5 (cs : List CV) : fieldT Go.Proofs.Tryz.prog 48 (.agg cs) 5 = partT Go.Proofs.Tryz.prog 42 cs 5 := by kernel_rfl
attribute [go_sem] fd_48_5
theorem fa_48_6 (id off : Nat) : fieldAddrT Go.Proofs.Tryz.prog 48 (.ptr id off) 6 = some (.ptr id (off + 6)) := by kernel_rfl
attribute [go_sem] fa_48_6
theorem fd_48_6 (cs : List CV) : fieldT Go.Proofs.Tryz.prog 48 (.agg cs) 6 = partT Go.Proofs.Tryz.prog 43 cs 6 := by kernel_rfl
attribute [go_sem] fd_48_6
theorem fa_48_7 (id off : Nat) : fieldAddrT Go.Proofs.Tryz.prog 48 (.ptr id off) 7 = some (.ptr id (off + 7)) := by kernel_rfl
attribute [go_sem] fa_48_7
theorem fd_48_7 (cs : List CV) : fieldT Go.Proofs.Tryz.prog 48 (.agg cs) 7 = partT Go.Proofs.Tryz.prog 46 cs 7 := by kernel_rfl
attribute [go_sem] fd_48_7
theorem sz_53 : szOf Go.Proofs.Tryz.prog 53 = some 1 := by kernel_rfl
attribute [go_sem] sz_53
theorem ld_53 (h : H) (id off : Nat) : loadT Go.Proofs.Tryz.prog h 53 id off = @thn _ _ (h.blk id) ⟨fun b => b.get off⟩ := by kernel_rfl
attribute [go_sem] ld_53
theorem st_53 (h : H) (id off : Nat) (v : CV) : storeT Go.Proofs.Tryz.prog h 53 id off v = @thn _ _ (h.blk id) ⟨fun b => cond (Nat.beq v.cells.length 1 && !b.ro) ((b.storeA off v.cells).map fun b' => h.put id (.cells b')) none⟩ := by kernel_rfl
attribute [go_sem] st_53
theorem part_53 (cs : List CV) (off : Nat) : partT Go.Proofs.Tryz.prog 53 cs off = nth cs off := by kernel_rfl
attribute [go_sem] part_53
theorem sz_54 : szOf Go.Proofs.Tryz.prog 54 = some 1 := by kernel_rfl
attribute [go_sem] sz_54
theorem ld_54 (h : H) (id off : Nat) : loadT Go.Proofs.Tryz.prog h 54 id off = @thn _ _ (h.blk id) ⟨fun b => b.get off⟩ := by kernel_rfl
attribute [go_sem] ld_54
theorem st_54 (h : H) (id off : Nat) (v : CV) : storeT Go.Proofs.Tryz.prog h 54 id off v = @thn _ _ (h.blk id) ⟨fun b => cond (Nat.beq v.cells.length 1 && !b.ro) ((b.storeA off v.cells).map fun b' => h.put id (.cells b')) none⟩ := by kernel_rfl
attribute [go_sem] st_54
theorem part_54 (cs : List CV) (off : Nat) : partT Go.Proofs.Tryz.prog 54 cs off = nth cs off := by kernel_rfl
attribute [go_sem] part_54
theorem ze_54 : zeroT Go.Proofs.Tryz.prog 54 = some (.nilf) := by kernel_rfl
attribute [go_sem] ze_54
theorem eq_54 (xo yo : Operand) (f : Fn) (a b : List CV) : binT Go.Proofs.Tryz.prog .eql 54 xo yo (.fn f a b) .nilf = some (.bool false) := by kernel_rfl
attribute [go_sem] eq_54
theorem eq_54_n (xo yo : Operand) : binT Go.Proofs.Tryz.prog .eql 54 xo yo .nilf .nilf = some (.bool true) := by kernel_rfl
attribute [go_sem] eq_54_n
theorem ne_54 (xo yo : Operand) (f : Fn) (a b : List CV) : binT Go.Proofs.Tryz.prog .neq 54 xo yo (.fn f a b) .nilf = some (.bool true) := by kernel_rfl
attribute [go_sem] ne_54
theorem ne_54_n (xo yo : Operand) : binT Go.Proofs.Tryz.prog .neq 54 xo yo .nilf .nilf = some (.bool false) := by kernel_rfl
attribute [go_sem] ne_54_n
theorem sz_59 : szOf Go.Proofs.Tryz.prog 59 = some 1 := by kernel_rfl
attribute [go_sem] sz_59
theorem ld_59 (h : H) (id off : Nat) : loadT Go.Proofs.Tryz.prog h 59 id off = @thn _ _ (h.blk id) ⟨fun b => b.get off⟩ := by kernel_rfl
attribute [go_sem] ld_59
theorem st_59 (h : H) (id off : Nat) (v : CV) : storeT Go.Proofs.Tryz.prog h 59 id off v = @thn _ _ (h.blk id) ⟨fun b => cond (Nat.beq v.cells.length 1 && !b.ro) ((b.storeA off v.cells).map fun b' => h.put id (.cells b')) none⟩ := by kernel_rfl
attribute [go_sem] st_59
theorem part_59 (cs : List CV) (off : Nat) : partT Go.Proofs.Tryz.prog 59 cs off = nth cs off := by kernel_rfl
attribute [go_sem] part_59
theorem ze_59 : zeroT Go.Proofs.Tryz.prog 59 = some (.nilf) := by kernel_rfl
attribute [go_sem] ze_59
theorem eq_59 (xo yo : Operand) (f : Fn) (a b : List CV) : binT Go.Proofs.Tryz.prog .eql 59 xo yo (.fn f a b) .nilf = some (.bool false) := by kernel_rfl
attribute [go_sem] eq_59
theorem eq_59_n (xo yo : Operand) : binT Go.Proofs.Tryz.prog .eql 59 xo yo .nilf .nilf = some (.bool true) := by kernel_rfl
attribute [go_sem] eq_59_n
theorem ne_59 (xo yo : Operand) (f : Fn) (a b : List CV) : binT Go.Proofs.Tryz.prog .neq 59 xo yo (.fn f a b) .nilf = some (.bool true) := by kernel_rfl
attribute [go_sem] ne_59
theorem ne_59_n (xo yo : Operand) : binT Go.Proofs.Tryz.prog .neq 59 xo yo .nilf .nilf = some (.bool false) := by kernel_rfl
attribute [go_sem] ne_59_n
theorem sz_62 : szOf Go.Proofs.Tryz.prog 62 = some 1 := by kernel_rfl
attribute [go_sem] sz_62
theorem ld_62 (h : H) (id off : Nat) : loadT Go.Proofs.Tryz.prog h 62 id off = @thn _ _ (h.blk id) ⟨fun b => b.get off⟩ := by kernel_rfl
attribute [go_sem] ld_62
theorem st_62 (h : H) (id off : Nat) (v : CV) : storeT Go.Proofs.Tryz.prog h 62 id off v = @thn _ _ (h.blk id) ⟨fun b => cond (Nat.beq v.cells.length 1 && !b.ro) ((b.storeA off v.cells).map fun b' => h.put id (.cells b')) none⟩ := by kernel_rfl
attribute [go_sem] st_62
theorem part_62 (cs : List CV) (off : Nat) : partT Go.Proofs.Tryz.prog 62 cs off = nth cs off := by kernel_rfl
attribute [go_sem] part_62
theorem ze_62 : zeroT Go.Proofs.Tryz.prog 62 = some (.int .i64 0) := by kernel_rfl
attribute [go_sem] ze_62
theorem sz_63 : szOf Go.Proofs.Tryz.prog 63 = some 1 := by kernel_rfl
attribute [go_sem] sz_63
theorem ld_63 (h : H) (id off : Nat) : loadT Go.Proofs.Tryz.prog h 63 id off = @thn _ _ (h.blk id) ⟨fun b => b.get off⟩ := by kernel_rfl
attribute [go_sem] ld_63
theorem st_63 (h : H) (id off : Nat) (v : CV) : storeT Go.Proofs.Tryz.prog h 63 id off v = @thn _ _ (h.blk id) ⟨fun b => cond (Nat.beq v.cells.length 1 && !b.ro) ((b.storeA off v.cells).map fun b' => h.put id (.cells b')) none⟩ := by kernel_rfl
attribute [go_sem] st_63
theorem part_63 (cs : List CV) (off : Nat) : partT Go.Proofs.Tryz.prog 63 cs off = nth cs off := by kernel_rfl
attribute [go_sem] part_63
theorem ze_63 : zeroT Go.Proofs.Tryz.prog 63 = some (.nils) := by kernel_rfl
attribute [go_sem] ze_63
theorem ia_63 (id off len k : Nat) (c : Cap) (kd : IntKind) : indexAddrT Go.Proofs.Tryz.prog 63 (.sl id off len c) (.int kd (Int.ofNat k)) = cond (Nat.blt k len) (some (.ptr id (off + k * 1))) none := by kernel_rfl
attribute [go_sem] ia_63
theorem len_63 (h : H) (id off len : Nat) (c : Cap) (ts : List TypeId) (az : List CV) : builtinT Go.Proofs.Tryz.prog h .len (63 :: ts) (.sl id off len c :: az) = some (.val (.int .i64 (Int.ofNat len))) := by kernel_rfl
attribute [go_sem] len_63
theorem len_63_n (h : H) (ts : List TypeId) (az : List CV) : builtinT Go.Proofs.Tryz.prog h .len (63 :: ts) (.nils :: az) = some (.val (.int .i64 0)) := by kernel_rfl
attribute [go_sem] len_63_n
theorem app_63 (h : H) (s : CV) (id off len : Nat) (c : Cap) (ts : List TypeId) (az : List CV) : builtinT Go.Proofs.Tryz.prog h .append (63 :: 63 :: ts) (s :: .sl id off len c :: az) = uv (appendT Go.Proofs.Tryz.prog h 63 s (.sl id off len c)) := by kernel_rfl
attribute [go_sem] app_63
theorem app_63_n (h : H) (s : CV) (ts : List TypeId) (az : List CV) : builtinT Go.Proofs.Tryz.prog h .append (63 :: 63 :: ts) (s :: .nils :: az) = uv (appendT Go.Proofs.Tryz.prog h 63 s .nils) := by kernel_rfl
attribute [go_sem] app_63_n
theorem ap_63 (h : H) (s : CV) (id off len : Nat) (c : Cap) : appendT Go.Proofs.Tryz.prog h 63 s (.sl id off len c) = appS h 1 8 1 s len (firstC h 1 len (.sl id off len c)) := by kernel_rfl
attribute [go_sem] ap_63
theorem ap_63_n (h : H) (s : CV) : appendT Go.Proofs.Tryz.prog h 63 s .nils = appS h 1 8 1 s 0 (some []) := by kernel_rfl
attribute [go_sem] ap_63_n
theorem ap_63_z (h : H) (s : CV) (a b c d : Nat) : appendT Go.Proofs.Tryz.prog h 63 s (.sl0 a b c d) = appS h 1 8 1 s 0 (some []) := by kernel_rfl
attribute [go_sem] ap_63_z
theorem bs_63 (h : H) (n : Nat) (parts : List (Nat × CV)) : buildSliceT Go.Proofs.Tryz.prog h 63 n parts = bslS h 1 (CV.cells (.int .i64 0)) n parts := by kernel_rfl
attribute [go_sem] bs_63
theorem ms_63 (h : H) (l c : Nat) (k k' : IntKind) : makeSliceT Go.Proofs.Tryz.prog h 63 (.int k (Int.ofNat l)) (.int k' (Int.ofNat c)) = mkS h 1 8 (zeroT Go.Proofs.Tryz.prog 3) l c := by kernel_rfl
attribute [go_sem] ms_63
theorem eq_63 (xo yo : Operand) (a b c : Nat) (d : Cap) : binT Go.Proofs.Tryz.prog .eql 63 xo yo (.sl a b c d) .nils = some (.bool false) := by kernel_rfl
attribute [go_sem] eq_63
theorem eq_63_n (xo yo : Operand) : binT Go.Proofs.Tryz.prog .eql 63 xo yo .nils .nils = some (.bool true) := by kernel_rfl
attribute [go_sem] eq_63_n
theorem eq_63_z (xo yo : Operand) (a b c d : Nat) : binT Go.Proofs.Tryz.prog .eql 63 xo yo (.sl0 a b c d) .nils = some (.bool false) := by kernel_rfl
attribute [go_sem] eq_63_z
theorem ne_63 (xo yo : Operand) (a b c : Nat) (d : Cap) : binT Go.Proofs.Tryz.prog .neq 63 xo yo (.sl a b c d) .nils = some (.bool true) := by kernel_rfl
attribute [go_sem] ne_63
theorem ne_63_n (xo yo : Operand) : binT Go.Proofs.Tryz.prog .neq 63 xo yo .nils .nils = some (.bool false) := by kernel_rfl
attribute [go_sem] ne_63_n
theorem ne_63_z (xo yo : Operand) (a b c d : Nat) : binT Go.Proofs.Tryz.prog .neq 63 xo yo (.sl0 a b c d) .nils = some (.bool true) := by kernel_rfl
attribute [go_sem] ne_63_z
theorem len_63_z (h : H) (a b c d : Nat) (ts : List TypeId) (az : List CV) : builtinT Go.Proofs.Tryz.prog h .len (63 :: ts) (.sl0 a b c d :: az) = some (.val (.int .i64 0)) := by kernel_rfl
attribute [go_sem] len_63_z
theorem app_63_z (h : H) (s : CV) (a b c d : Nat) (ts : List TypeId) (az : List CV) : builtinT Go.Proofs.Tryz.prog h .append (63 :: 63 :: ts) (s :: .sl0 a b c d :: az) = uv (appendT Go.Proofs.Tryz.prog h 63 s (.sl0 a b c d)) := by kernel_rfl
attribute [go_sem] app_63_z
theorem sz_64 : szOf Go.Proofs.Tryz.prog 64 = some 270 := by kernel_rfl
attribute [go_sem] sz_64
theorem ld_64 (h : H) (id off : Nat) : loadT Go.Proofs.Tryz.prog h 64 id off = @thn _ _ (h.blk id) ⟨fun b => (b.loadN off 270).map .agg⟩ := by kernel_rfl
attribute [go_sem] ld_64
theorem st_64 (h : H) (id off : Nat) (v : CV) : storeT Go.Proofs.Tryz.prog h 64 id off v = @thn _ _ (h.blk id) ⟨fun b => cond (Nat.beq v.cells.length 270 && !b.ro) ((b.storeA off v.cells).map fun b' => h.put id (.cells b')) none⟩ := by kernel_rfl
attribute [go_sem] st_64
theorem part_64 (cs : List CV) (off : Nat) : partT Go.Proofs.Tryz.prog 64 cs off = some (.agg ((cs.drop off).take 270)) := by kernel_rfl
attribute [go_sem] part_64
theorem fa_64_0 (id off : Nat) : fieldAddrT Go.Proofs.Tryz.prog 64 (.ptr id off) 0 = some (.ptr id (off)) := by kernel_rfl
attribute [go_sem] fa_64_0
theorem fd_64_0 (cs : List CV) : fieldT Go.Proofs.Tryz.prog 64 (.agg cs) 0 = partT Go.Proofs.Tryz.prog 61 cs 0 := by kernel_rfl
attribute [go_sem] fd_64_0
theorem fa_64_1 (id off : Nat) : fieldAddrT Go.Proofs.Tryz.prog 64 (.ptr id off) 1 = some (.ptr id (off + 1)) := by kernel_rfl
attribute [go_sem] fa_64_1
theorem fd_64_1 (cs : List CV) : fieldT Go.Proofs.Tryz.prog 64 (.agg cs) 1 = partT Go.Proofs.Tryz.prog 3 cs 1 := by kernel_rfl
attribute [go_sem] fd_64_1
theorem fa_64_2 (id off : Nat) : fieldAddrT Go.Proofs.Tryz.prog 64 (.ptr id off) 2 = some (.ptr id (off + 2)) := by kernel_rfl
attribute [go_sem] fa_64_2
theorem fd_64_2 (cs : List CV) : fieldT Go.Proofs.Tryz.prog 64 (.agg cs) 2 = partT Go.Proofs.Tryz.prog 3 cs 2 := by kernel_rfl
attribute [go_sem] fd_64_2
theorem fa_64_3 (id off : Nat) : fieldAddrT Go.Proofs.Tryz.prog 64 (.ptr id off) 3 = some (.ptr id (off + 3)) := by kernel_rfl
attribute [go_sem] fa_64_3
theorem fd_64_3 (cs : List CV) : fieldT Go.Proofs.Tryz.prog 64 (.agg cs) 3 = partT Go.Proofs.Tryz.prog 31 cs 3 := by kernel_rfl
attribute [go_sem] fd_64_3
theorem fa_64_4 (id off : Nat) : fieldAddrT Go.Proofs.Tryz.prog 64 (.ptr id off) 4 = some (.ptr id (off + 268)) := by kernel_rfl
attribute [go_sem] fa_64_4
theorem fd_64_4 (cs : List CV) : fieldT Go.Proofs.Tryz.prog 64 (.agg cs) 4 = partT Go.Proofs.Tryz.prog 62 cs 268 := by kernel_rfl
attribute [go_sem] fd_64_4
theorem fa_64_5 (id off : Nat) : fieldAddrT Go.Proofs.Tryz.prog 64 (.ptr id off) 5 = some (.ptr id (off + 269)) := by kernel_rfl
attribute [go_sem] fa_64_5
theorem fd_64_5 (cs : List CV) : fieldT Go.Proofs.Tryz.prog 64 (.agg cs) 5 = partT Go.Proofs.Tryz.prog 63 cs 269 := by kernel_rfl
attribute [go_sem] fd_64_5
theorem sz_65 : szOf Go.Proofs.Tryz.prog 65 = some 270 := by kernel_rfl
attribute [go_sem] sz_65
theorem ld_65 (h : H) (id off : Nat) : loadT Go.Proofs.Tryz.prog h 65 id off = @thn _ _ (h.blk id) ⟨fun b => (b.loadN off 270).map .agg⟩ := by kernel_rfl
attribute [go_sem] ld_65
theorem st_65 (h : H) (id off : Nat) (v : CV) : storeT Go.Proofs.Tryz.prog h 65 id off v = @thn _ _ (h.blk id) ⟨fun b => cond (Nat.beq v.cells.length 270 && !b.ro) ((b.storeA off v.cells).map fun b' => h.put id (.cells b')) none⟩ := by kernel_rfl
attribute [go_sem] st_65
theorem part_65 (cs : List CV) (off : Nat) : partT Go.Proofs.Tryz.prog 65 cs off = some (.agg ((cs.drop off).take 270)) := by kernel_rfl
attribute [go_sem] part_65
theorem fa_65_0 (id off : Nat) : fieldAddrT Go.Proofs.Tryz.prog 65 (.ptr id off) 0 = some (.ptr id (off)) := by kernel_rfl
attribute [go_sem] fa_65_0
theorem fd_65_0 (cs : List CV) : fieldT Go.Proofs.Tryz.prog 65 (.agg cs) 0 = partT Go.Proofs.Tryz.prog 61 cs 0 := by kernel_rfl
attribute [go_sem] fd_65_0
theorem fa_65_1 (id off : Nat) : fieldAddrT Go.Proofs.Tryz.prog 65 (.ptr id off) 1 = some (.ptr id (off + 1)) := by kernel_rfl
attribute [go_sem] fa_65_1
theorem fd_65_1 (cs : List CV) : fieldT Go.Proofs.Tryz.prog 65 (.agg cs) 1 = partT Go.Proofs.Tryz.prog 3 cs 1 := by kernel_rfl
attribute [go_sem] fd_65_1
theorem fa_65_2 (id off : Nat) : fieldAddrT Go.Proofs.Tryz.prog 65 (.ptr id off) 2 = some (.ptr id (off + 2)) := by kernel_rfl
attribute [go_sem] fa_65_2
theorem fd_65_2 (cs : List CV) : fieldT Go.Proofs.Tryz.prog 65 (.agg cs) 2 = partT Go.Proofs.Tryz.prog 3 cs 2 := by kernel_rfl
attribute [go_sem] fd_65_2
theorem fa_65_3 (id off : Nat) : fieldAddrT Go.Proofs.Tryz.prog 65 (.ptr id off) 3 = some (.ptr id (off + 3)) := by kernel_rfl
attribute [go_sem] fa_65_3
theorem fd_65_3 (cs : List CV) : fieldT Go.Proofs.Tryz.prog 65 (.agg cs) 3 = partT Go.Proofs.Tryz.prog 31 cs 3 := by kernel_rfl
attribute [go_sem] fd_65_3
theorem fa_65_4 (id off : Nat) : fieldAddrT Go.Proofs.Tryz.prog 65 (.ptr id off) 4 = some (.ptr id (off + 268)) := by kernel_rfl
attribute [go_sem] fa_65_4
theorem fd_65_4 (cs : List CV) : fieldT Go.Proofs.Tryz.prog 65 (.agg cs) 4 = partT Go.Proofs.Tryz.prog 62 cs 268 := by kernel_rfl
attribute [go_sem] fd_65_4
theorem fa_65_5 (id off : Nat) : fieldAddrT Go.Proofs.Tryz.prog 65 (.ptr id off) 5 = some (.ptr id (off + 269)) := by kernel_rfl
attribute [go_sem] fa_65_5
theorem fd_65_5 (cs : List CV) : fieldT Go.Proofs.Tryz.prog 65 (.agg cs) 5 = partT Go.Proofs.Tryz.prog 63 cs 269 := by kernel_rfl
attribute [go_sem] fd_65_5
theorem sz_67 : szOf Go.Proofs.Tryz.prog 67 = some 1 := by kernel_rfl
attribute [go_sem] sz_67
theorem ld_67 (h : H) (id off : Nat) : loadT Go.Proofs.Tryz.prog h 67 id off = @thn _ _ (h.blk id) ⟨fun b => b.get off⟩ := by kernel_rfl
attribute [go_sem] ld_67
theorem st_67 (h : H) (id off : Nat) (v : CV) : storeT Go.Proofs.Tryz.prog h 67 id off v = @thn _ _ (h.blk id) ⟨fun b => cond (Nat.beq v.cells.length 1 && !b.ro) ((b.storeA off v.cells).map fun b' => h.put id (.cells b')) none⟩ := by kernel_rfl
attribute [go_sem] st_67
theorem part_67 (cs : List CV) (off : Nat) : partT Go.Proofs.Tryz.prog 67 cs off = nth cs off := by kernel_rfl
attribute [go_sem] part_67
theorem ze_67 : zeroT Go.Proofs.Tryz.prog 67 = some (.nilf) := by kernel_rfl
attribute [go_sem] ze_67
theorem eq_67 (xo yo : Operand) (f : Fn) (a b : List CV) : binT Go.Proofs.Tryz.prog .eql 67 xo yo (.fn f a b) .nilf = some (.bool false) := by kernel_rfl
attribute [go_sem] eq_67
theorem eq_67_n (xo yo : Operand) : binT Go.Proofs.Tryz.prog .eql 67 xo yo .nilf .nilf = some (.bool true) := by kernel_rfl
attribute [go_sem] eq_67_n
theorem ne_67 (xo yo : Operand) (f : Fn) (a b : List CV) : binT Go.Proofs.Tryz.prog .neq 67 xo yo (.fn f a b) .nilf = some (.bool true) := by kernel_rfl
attribute [go_sem] ne_67
theorem ne_67_n (xo yo : Operand) : binT Go.Proofs.Tryz.prog .neq 67 xo yo .nilf .nilf = some (.bool false) := by kernel_rfl
attribute [go_sem] ne_67_n
theorem sz_75 : szOf Go.Proofs.Tryz.prog 75 = some 1 := by kernel_rfl
attribute [go_sem] sz_75
theorem ld_75 (h : H) (id off : Nat) : loadT Go.Proofs.Tryz.prog h 75 id off = @thn _ _ (h.blk id) ⟨fun b => b.get off⟩ := by kernel_rfl
attribute [go_sem] ld_75
theorem st_75 (h : H) (id off : Nat) (v : CV) : storeT Go.Proofs.Tryz.prog h 75 id off v = @thn _ _ (h.blk id) ⟨fun b => cond (Nat.beq v.cells.length 1 && !b.ro) ((b.storeA off v.cells).map fun b' => h.put id (.cells b')) none⟩ := by kernel_rfl
attribute [go_sem] st_75
theorem part_75 (cs : List CV) (off : Nat) : partT Go.Proofs.Tryz.prog 75 cs off = nth cs off := by kernel_rfl
attribute [go_sem] part_75
theorem ze_75 : zeroT Go.Proofs.Tryz.prog 75 = some (.nilf) := by kernel_rfl
attribute [go_sem] ze_75
theorem eq_75 (xo yo : Operand) (f : Fn) (a b : List CV) : binT Go.Proofs.Tryz.prog .eql 75 xo yo (.fn f a b) .nilf = some (.bool false) := by kernel_rfl
attribute [go_sem] eq_75
theorem eq_75_n (xo yo : Operand) : binT Go.Proofs.Tryz.prog .eql 75 xo yo .nilf .nilf = some (.bool true) := by kernel_rfl
attribute [go_sem] eq_75_n
theorem ne_75 (xo yo : Operand) (f : Fn) (a b : List CV) : binT Go.Proofs.Tryz.prog .neq 75 xo yo (.fn f a b) .nilf = some (.bool true) := by kernel_rfl
attribute [go_sem] ne_75
theorem ne_75_n (xo yo : Operand) : binT Go.Proofs.Tryz.prog .neq 75 xo yo .nilf .nilf = some (.bool false) := by kernel_rfl
attribute [go_sem] ne_75_n
theorem sz_83 : szOf Go.Proofs.Tryz.prog 83 = some 1 := by kernel_rfl
attribute [go_sem] sz_83
theorem ld_83 (h : H) (id off : Nat) : loadT Go.Proofs.Tryz.prog h 83 id off = @thn _ _ (h.blk id) ⟨fun b => b.get off⟩ := by kernel_rfl
attribute [go_sem] ld_83
theorem st_83 (h : H) (id off : Nat) (v : CV) : storeT Go.Proofs.Tryz.prog h 83 id off v = @thn _ _ (h.blk id) ⟨fun b => cond (Nat.beq v.cells.length 1 && !b.ro) ((b.storeA off v.cells).map fun b' => h.put id (.cells b')) none⟩ := by kernel_rfl
attribute [go_sem] st_83
theorem part_83 (cs : List CV) (off : Nat) : partT Go.Proofs.Tryz.prog 83 cs off = nth cs off := by kernel_rfl
attribute [go_sem] part_83
theorem ze_83 : zeroT Go.Proofs.Tryz.prog 83 = some (.nils) := by kernel_rfl
attribute [go_sem] ze_83
theorem ia_83 (id off len k : Nat) (c : Cap) (kd : IntKind) : indexAddrT Go.Proofs.Tryz.prog 83 (.sl id off len c) (.int kd (Int.ofNat k)) = cond (Nat.blt k len) (some (.ptr id (off + k * 1))) none := by kernel_rfl
attribute [go_sem] ia_83
theorem len_83 (h : H) (id off len : Nat) (c : Cap) (ts : List TypeId) (az : List CV) : builtinT Go.Proofs.Tryz.prog h .len (83 :: ts) (.sl id off len c :: az) = some (.val (.int .i64 (Int.ofNat len))) := by kernel_rfl
attribute [go_sem] len_83
theorem len_83_n (h : H) (ts : List TypeId) (az : List CV) : builtinT Go.Proofs.Tryz.prog h .len (83 :: ts) (.nils :: az) = some (.val (.int .i64 0)) := by kernel_rfl
attribute [go_sem] len_83_n
theorem app_83 (h : H) (s : CV) (id off len : Nat) (c : Cap) (ts : List TypeId) (az : List CV) : builtinT Go.Proofs.Tryz.prog h .append (83 :: 83 :: ts) (s :: .sl id off len c :: az) = uv (appendT Go.Proofs.Tryz.prog h 83 s (.sl id off len c)) := by kernel_rfl
attribute [go_sem] app_83
theorem app_83_n (h : H) (s : CV) (ts : List TypeId) (az : List CV) : builtinT Go.Proofs.Tryz.prog h .append (83 :: 83 :: ts) (s :: .nils :: az) = uv (appendT Go.Proofs.Tryz.prog h 83 s .nils) := by kernel_rfl
attribute [go_sem] app_83_n
theorem ap_83 (h : H) (s : CV) (id off len : Nat) (c : Cap) : appendT Go.Proofs.Tryz.prog h 83 s (.sl id off len c) = appSb 5 h 1 1 1 s len (firstC h 1 len (.sl id off len c)) := by kernel_rfl
attribute [go_sem] ap_83
theorem ap_83_n (h : H) (s : CV) : appendT Go.Proofs.Tryz.prog h 83 s .nils = appSb 5 h 1 1 1 s 0 (some []) := by kernel_rfl
attribute [go_sem] ap_83_n
theorem ap_83_z (h : H) (s : CV) (a b c d : Nat) : appendT Go.Proofs.Tryz.prog h 83 s (.sl0 a b c d) = appSb 5 h 1 1 1 s 0 (some []) := by kernel_rfl
attribute [go_sem] ap_83_z
theorem bs_83 (h : H) (n : Nat) (parts : List (Nat × CV)) : buildSliceT Go.Proofs.Tryz.prog h 83 n parts = bslS h 1 (CV.cells (.int .u8 0)) n parts := by kernel_rfl
attribute [go_sem] bs_83
theorem ms_83 (h : H) (l c : Nat) (k k' : IntKind) : makeSliceT Go.Proofs.Tryz.prog h 83 (.int k (Int.ofNat l)) (.int k' (Int.ofNat c)) = mkS h 1 1 (zeroT Go.Proofs.Tryz.prog 5) l c := by kernel_rfl
attribute [go_sem] ms_83
theorem eq_83 (xo yo : Operand) (a b c : Nat) (d : Cap) : binT Go.Proofs.Tryz.prog .eql 83 xo yo (.sl a b c d) .nils = some (.bool false) := by kernel_rfl
attribute [go_sem] eq_83
theorem eq_83_n (xo yo : Operand) : binT Go.Proofs.Tryz.prog .eql 83 xo yo .nils .nils = some (.bool true) := by kernel_rfl
attribute [go_sem] eq_83_n
theorem eq_83_z (xo yo : Operand) (a b c d : Nat) : binT Go.Proofs.Tryz.prog .eql 83 xo yo (.sl0 a b c d) .nils = some (.bool false) := by kernel_rfl
attribute [go_sem] eq_83_z
theorem ne_83 (xo yo : Operand) (a b c : Nat) (d : Cap) : binT Go.Proofs.Tryz.prog .neq 83 xo yo (.sl a b c d) .nils = some (.bool true) := by kernel_rfl
attribute [go_sem] ne_83
theorem ne_83_n (xo yo : Operand) : binT Go.Proofs.Tryz.prog .neq 83 xo yo .nils .nils = some (.bool false) := by kernel_rfl
attribute [go_sem] ne_83_n
theorem ne_83_z (xo yo : Operand) (a b c d : Nat) : binT Go.Proofs.Tryz.prog .neq 83 xo yo (.sl0 a b c d) .nils = some (.bool true) := by kernel_rfl
attribute [go_sem] ne_83_z
theorem len_83_z (h : H) (a b c d : Nat) (ts : List TypeId) (az : List CV) : builtinT Go.Proofs.Tryz.prog h .len (83 :: ts) (.sl0 a b c d :: az) = some (.val (.int .i64 0)) := by kernel_rfl
attribute [go_sem] len_83_z
theorem app_83_z (h : H) (s : CV) (a b c d : Nat) (ts : List TypeId) (az : List CV) : builtinT Go.Proofs.Tryz.prog h .append (83 :: 83 :: ts) (s :: .sl0 a b c d :: az) = uv (appendT Go.Proofs.Tryz.prog h 83 s (.sl0 a b c d)) := by kernel_rfl
attribute [go_sem] app_83_z
theorem sz_85 : szOf Go.Proofs.Tryz.prog 85 = some 1 := by kernel_rfl
attribute [go_sem] sz_85
theorem ld_85 (h : H) (id off : Nat) : loadT Go.Proofs.Tryz.prog h 85 id off = @thn _ _ (h.blk id) ⟨fun b => b.get off⟩ := by kernel_rfl
attribute [go_sem] ld_85
theorem st_85 (h : H) (id off : Nat) (v : CV) : storeT Go.Proofs.Tryz.prog h 85 id off v = @thn _ _ (h.blk id) ⟨fun b => cond (Nat.beq v.cells.length 1 && !b.ro) ((b.storeA off v.cells).map fun b' => h.put id (.cells b')) none⟩ := by kernel_rfl
attribute [go_sem] st_85
theorem part_85 (cs : List CV) (off : Nat) : partT Go.Proofs.Tryz.prog 85 cs off = nth cs off := by kernel_rfl
attribute [go_sem] part_85
theorem ze_85 : zeroT Go.Proofs.Tryz.prog 85 = some (.nilf) := by kernel_rfl
attribute [go_sem] ze_85
theorem eq_85 (xo yo : Operand) (f : Fn) (a b : List CV) : binT Go.Proofs.Tryz.prog .eql 85 xo yo (.fn f a b) .nilf = some (.bool false) := by kernel_rfl
attribute [go_sem] eq_85
theorem eq_85_n (xo yo : Operand) : binT Go.Proofs.Tryz.prog .eql 85 xo yo .nilf .nilf = some (.bool true) := by kernel_rfl
attribute [go_sem] eq_85_n
theorem ne_85 (xo yo : Operand) (f : Fn) (a b : List CV) : binT Go.Proofs.Tryz.prog .neq 85 xo yo (.fn f a b) .nilf = some (.bool true) := by kernel_rfl
attribute [go_sem] ne_85
theorem ne_85_n (xo yo : Operand) : binT Go.Proofs.Tryz.prog .neq 85 xo yo .nilf .nilf = some (.bool false) := by kernel_rfl
attribute [go_sem] ne_85_n
theorem sz_87 : szOf Go.Proofs.Tryz.prog 87 = some 1 := by kernel_rfl
attribute [go_sem] sz_87
theorem ld_87 (h : H) (id off : Nat) : loadT Go.Proofs.Tryz.prog h 87 id off = @thn _ _ (h.blk id) ⟨fun b => b.get off⟩ := by kernel_rfl
attribute [go_sem] ld_87
theorem st_87 (h : H) (id off : Nat) (v : CV) : storeT Go.Proofs.Tryz.prog h 87 id off v = @thn _ _ (h.blk id) ⟨fun b => cond (Nat.beq v.cells.length 1 && !b.ro) ((b.storeA off v.cells).map fun b' => h.put id (.cells b')) none⟩ := by kernel_rfl
attribute [go_sem] st_87
theorem part_87 (cs : List CV) (off : Nat) : partT Go.Proofs.Tryz.prog 87 cs off = nth cs off := by kernel_rfl
attribute [go_sem] part_87
theorem ze_87 : zeroT Go.Proofs.Tryz.prog 87 = some (.nils) := by kernel_rfl
attribute [go_sem] ze_87
theorem ia_87 (id off len k : Nat) (c : Cap) (kd : IntKind) : indexAddrT Go.Proofs.Tryz.prog 87 (.sl id off len c) (.int kd (Int.ofNat k)) = cond (Nat.blt k len) (some (.ptr id (off + k * 1))) none := by kernel_rfl
attribute [go_sem] ia_87
theorem len_87 (h : H) (id off len : Nat) (c : Cap) (ts : List TypeId) (az : List CV) : builtinT Go.Proofs.Tryz.prog h .len (87 :: ts) (.sl id off len c :: az) = some (.val (.int .i64 (Int.ofNat len))) := by kernel_rfl
attribute [go_sem] len_87
theorem len_87_n (h : H) (ts : List TypeId) (az : List CV) : builtinT Go.Proofs.Tryz.prog h .len (87 :: ts) (.nils :: az) = some (.val (.int .i64 0)) := by kernel_rfl
attribute [go_sem] len_87_n
theorem app_87 (h : H) (s : CV) (id off len : Nat) (c : Cap) (ts : List TypeId) (az : List CV) : builtinT Go.Proofs.Tryz.prog h .append (87 :: 87 :: ts) (s :: .sl id off len c :: az) = uv (appendT Go.Proofs.Tryz.prog h 87 s (.sl id off len c)) := by kernel_rfl
attribute [go_sem] app_87
theorem app_87_n (h : H) (s : CV) (ts : List TypeId) (az : List CV) : builtinT Go.Proofs.Tryz.prog h .append (87 :: 87 :: ts) (s :: .nils :: az) = uv (appendT Go.Proofs.Tryz.prog h 87 s .nils) := by kernel_rfl
attribute [go_sem] app_87_n
theorem ap_87 (h : H) (s : CV) (id off len : Nat) (c : Cap) : appendT Go.Proofs.Tryz.prog h 87 s (.sl id off len c) = appS h 1 16 1 s len (firstC h 1 len (.sl id off len c)) := by kernel_rfl
attribute [go_sem] ap_87
theorem ap_87_n (h : H) (s : CV) : appendT Go.Proofs.Tryz.prog h 87 s .nils = appS h 1 16 1 s 0 (some []) := by kernel_rfl
attribute [go_sem] ap_87_n
theorem ap_87_z (h : H) (s : CV) (a b c d : Nat) : appendT Go.Proofs.Tryz.prog h 87 s (.sl0 a b c d) = appS h 1 16 1 s 0 (some []) := by kernel_rfl
attribute [go_sem] ap_87_z
theorem bs_87 (h : H) (n : Nat) (parts : List (Nat × CV)) : buildSliceT Go.Proofs.Tryz.prog h 87 n parts = bslS h 1 (CV.cells (.str [])) n parts := by kernel_rfl
attribute [go_sem] bs_87
theorem ms_87 (h : H) (l c : Nat) (k k' : IntKind) : makeSliceT Go.Proofs.Tryz.prog h 87 (.int k (Int.ofNat l)) (.int k' (Int.ofNat c)) = mkS h 1 16 (zeroT Go.Proofs.Tryz.prog 9) l c := by kernel_rfl
attribute [go_sem] ms_87
theorem eq_87 (xo yo : Operand) (a b c : Nat) (d : Cap) : binT Go.Proofs.Tryz.prog .eql 87 xo yo (.sl a b c d) .nils = some (.bool false) := by kernel_rfl
attribute [go_sem] eq_87
theorem eq_87_n (xo yo : Operand) : binT Go.Proofs.Tryz.prog .eql 87 xo yo .nils .nils = some (.bool true) := by kernel_rfl
attribute [go_sem] eq_87_n
theorem eq_87_z (xo yo : Operand) (a b c d : Nat) : binT Go.Proofs.Tryz.prog .eql 87 xo yo (.sl0 a b c d) .nils = some (.bool false) := by kernel_rfl
attribute [go_sem] eq_87_z
theorem ne_87 (xo yo : Operand) (a b c : Nat) (d : Cap) : binT Go.Proofs.Tryz.prog .neq 87 xo yo (.sl a b c d) .nils = some (.bool true) := by kernel_rfl
attribute [go_sem] ne_87
theorem ne_87_n (xo yo : Operand) : binT Go.Proofs.Tryz.prog .neq 87 xo yo .nils .nils = some (.bool false) := by kernel_rfl
attribute [go_sem] ne_87_n
theorem ne_87_z (xo yo : Operand) (a b c d : Nat) : binT Go.Proofs.Tryz.prog .neq 87 xo yo (.sl0 a b c d) .nils = some (.bool true) := by kernel_rfl
attribute [go_sem] ne_87_z
theorem len_87_z (h : H) (a b c d : Nat) (ts : List TypeId) (az : List CV) : builtinT Go.Proofs.Tryz.prog h .len (87 :: ts) (.sl0 a b c d :: az) = some (.val (.int .i64 0)) := by kernel_rfl
attribute [go_sem] len_87_z
theorem app_87_z (h : H) (s : CV) (a b c d : Nat) (ts : List TypeId) (az : List CV) : builtinT Go.Proofs.Tryz.prog h .append (87 :: 87 :: ts) (s :: .sl0 a b c d :: az) = uv (appendT Go.Proofs.Tryz.prog h 87 s (.sl0 a b c d)) := by kernel_rfl
attribute [go_sem] app_87_z
theorem sz_90 : szOf Go.Proofs.Tryz.prog 90 = some 1 := by kernel_rfl
attribute [go_sem] sz_90
theorem ld_90 (h : H) (id off : Nat) : loadT Go.Proofs.Tryz.prog h 90 id off = @thn _ _ (h.blk id) ⟨fun b => b.get off⟩ := by kernel_rfl
attribute [go_sem] ld_90
theorem st_90 (h : H) (id off : Nat) (v : CV) : storeT Go.Proofs.Tryz.prog h 90 id off v = @thn _ _ (h.blk id) ⟨fun b => cond (Nat.beq v.cells.length 1 && !b.ro) ((b.storeA off v.cells).map fun b' => h.put id (.cells b')) none⟩ := by kernel_rfl
attribute [go_sem] st_90
theorem part_90 (cs : List CV) (off : Nat) : partT Go.Proofs.Tryz.prog 90 cs off = nth cs off := by kernel_rfl
attribute [go_sem] part_90
theorem ze_90 : zeroT Go.Proofs.Tryz.prog 90 = some (.nilf) := by kernel_rfl
attribute [go_sem] ze_90
theorem eq_90 (xo yo : Operand) (f : Fn) (a b : List CV) : binT Go.Proofs.Tryz.prog .eql 90 xo yo (.fn f a b) .nilf = some (.bool false) := by kernel_rfl
attribute [go_sem] eq_90
theorem eq_90_n (xo yo : Operand) : binT Go.Proofs.Tryz.prog .eql 90 xo yo .nilf .nilf = some (.bool true) := by kernel_rfl
attribute [go_sem] eq_90_n
theorem ne_90 (xo yo : Operand) (f : Fn) (a b : List CV) : binT Go.Proofs.Tryz.prog .neq 90 xo yo (.fn f a b) .nilf = some (.bool true) := by kernel_rfl
attribute [go_sem] ne_90
theorem ne_90_n (xo yo : Operand) : binT Go.Proofs.Tryz.prog .neq 90 xo yo .nilf .nilf = some (.bool false) := by kernel_rfl
attribute [go_sem] ne_90_n
theorem sz_98 : szOf Go.Proofs.Tryz.prog 98 = some 1 := by kernel_rfl
attribute [go_sem] sz_98
theorem ld_98 (h : H) (id off : Nat) : loadT Go.Proofs.Tryz.prog h 98 id off = @thn _ _ (h.blk id) ⟨fun b => b.get off⟩ := by kernel_rfl
attribute [go_sem] ld_98
theorem st_98 (h : H) (id off : Nat) (v : CV) : storeT Go.Proofs.Tryz.prog h 98 id off v = @thn _ _ (h.blk id) ⟨fun b => cond (Nat.beq v.cells.length 1 && !b.ro) ((b.storeA off v.cells).map fun b' => h.put id (.cells b')) none⟩ := by kernel_rfl
attribute [go_sem] st_98
theorem part_98 (cs : List CV) (off : Nat) : partT Go.Proofs.Tryz.prog 98 cs off = nth cs off := by kernel_rfl
attribute [go_sem] part_98
theorem sz_100 : szOf Go.Proofs.Tryz.prog 100 = some 1 := by kernel_rfl
attribute [go_sem] sz_100
theorem ld_100 (h : H) (id off : Nat) : loadT Go.Proofs.Tryz.prog h 100 id off = @thn _ _ (h.blk id) ⟨fun b => b.get off⟩ := by kernel_rfl
attribute [go_sem] ld_100
theorem st_100 (h : H) (id off : Nat) (v : CV) : storeT Go.Proofs.Tryz.prog h 100 id off v = @thn _ _ (h.blk id) ⟨fun b => cond (Nat.beq v.cells.length 1 && !b.ro) ((b.storeA off v.cells).map fun b' => h.put id (.cells b')) none⟩ := by kernel_rfl
attribute [go_sem] st_100
theorem part_100 (cs : List CV) (off : Nat) : partT Go.Proofs.Tryz.prog 100 cs off = nth cs off := by kernel_rfl
attribute [go_sem] part_100
theorem ze_100 : zeroT Go.Proofs.Tryz.prog 100 = some (.nilp) := by kernel_rfl
attribute [go_sem] ze_100
theorem eq_100 (xo yo : Operand) (a b : Nat) : binT Go.Proofs.Tryz.prog .eql 100 xo yo (.ptr a b) .nilp = some (.bool false) := by kernel_rfl
attribute [go_sem] eq_100
theorem eq_100_n (xo yo : Operand) : binT Go.Proofs.Tryz.prog .eql 100 xo yo .nilp .nilp = some (.bool true) := by kernel_rfl
attribute [go_sem] eq_100_n
theorem ne_100 (xo yo : Operand) (a b : Nat) : binT Go.Proofs.Tryz.prog .neq 100 xo yo (.ptr a b) .nilp = some (.bool true) := by kernel_rfl
attribute [go_sem] ne_100
theorem ne_100_n (xo yo : Operand) : binT Go.Proofs.Tryz.prog .neq 100 xo yo .nilp .nilp = some (.bool false) := by kernel_rfl
attribute [go_sem] ne_100_n
theorem sz_112 : szOf Go.Proofs.Tryz.prog 112 = some 2 := by kernel_rfl
attribute [go_sem] sz_112
theorem ld_112 (h : H) (id off : Nat) : loadT Go.Proofs.Tryz.prog h 112 id off = @thn _ _ (h.blk id) ⟨fun b => (b.loadN off 2).map .agg⟩ := by kernel_rfl
attribute [go_sem] ld_112
theorem st_112 (h : H) (id off : Nat) (v : CV) : storeT Go.Proofs.Tryz.prog h 112 id off v = @thn _ _ (h.blk id) ⟨fun b => cond (Nat.beq v.cells.length 2 && !b.ro) ((b.storeA off v.cells).map fun b' => h.put id (.cells b')) none⟩ := by kernel_rfl
attribute [go_sem] st_112
theorem part_112 (cs : List CV) (off : Nat) : partT Go.Proofs.Tryz.prog 112 cs off = some (.agg ((cs.drop off).take 2)) := by kernel_rfl
attribute [go_sem] part_112
theorem ze_112 : zeroT Go.Proofs.Tryz.prog 112 = some (.agg [.nilp, .nils]) := by kernel_rfl
attribute [go_sem] ze_112
theorem bt_112 (parts : List (Nat × CV)) : buildT Go.Proofs.Tryz.prog 112 parts = finB (CV.cells (.agg [.nilp, .nils])) (nth [(0, 1), (1, 1)]) parts := by kernel_rfl
attribute [go_sem] bt_112
theorem fa_112_0 (id off : Nat) : fieldAddrT Go.Proofs.Tryz.prog 112 (.ptr id off) 0 = some (.ptr id (off)) := by kernel_rfl
attribute [go_sem] fa_112_0
theorem fd_112_0 (cs : List CV) : fieldT Go.Proofs.Tryz.prog 112 (.agg cs) 0 = partT Go.Proofs.Tryz.prog 110 cs 0 := by kernel_rfl
attribute [go_sem] fd_112_0
theorem fa_112_1 (id off : Nat) : fieldAddrT Go.Proofs.Tryz.prog 112 (.ptr id off) 1 = some (.ptr id (off + 1)) := by kernel_rfl
attribute [go_sem] fa_112_1
theorem fd_112_1 (cs : List CV) : fieldT Go.Proofs.Tryz.prog 112 (.agg cs) 1 = partT Go.Proofs.Tryz.prog 83 cs 1 := by kernel_rfl
attribute [go_sem] fd_112_1
theorem sz_115 : szOf Go.Proofs.Tryz.prog 115 = some 1 := by kernel_rfl
attribute [go_sem] sz_115
theorem ld_115 (h : H) (id off : Nat) : loadT Go.Proofs.Tryz.prog h 115 id off = @thn _ _ (h.blk id) ⟨fun b => b.get off⟩ := by kernel_rfl
attribute [go_sem] ld_115
theorem st_115 (h : H) (id off : Nat) (v : CV) : storeT Go.Proofs.Tryz.prog h 115 id off v = @thn _ _ (h.blk id) ⟨fun b => cond (Nat.beq v.cells.length 1 && !b.ro) ((b.storeA off v.cells).map fun b' => h.put id (.cells b')) none⟩ := by kernel_rfl
attribute [go_sem] st_115
theorem part_115 (cs : List CV) (off : Nat) : partT Go.Proofs.Tryz.prog 115 cs off = nth cs off := by kernel_rfl
attribute [go_sem] part_115
theorem sz_120 : szOf Go.Proofs.Tryz.prog 120 = some 1 := by kernel_rfl
attribute [go_sem] sz_120
theorem ld_120 (h : H) (id off : Nat) : loadT Go.Proofs.Tryz.prog h 120 id off = @thn _ _ (h.blk id) ⟨fun b => b.get off⟩ := by kernel_rfl
attribute [go_sem] ld_120
theorem st_120 (h : H) (id off : Nat) (v : CV) : storeT Go.Proofs.Tryz.prog h 120 id off v = @thn _ _ (h.blk id) ⟨fun b => cond (Nat.beq v.cells.length 1 && !b.ro) ((b.storeA off v.cells).map fun b' => h.put id (.cells b')) none⟩ := by kernel_rfl
attribute [go_sem] st_120
theorem part_120 (cs : List CV) (off : Nat) : partT Go.Proofs.Tryz.prog 120 cs off = nth cs off := by kernel_rfl
attribute [go_sem] part_120
theorem sz_135 : szOf Go.Proofs.Tryz.prog 135 = some 1 := by kernel_rfl
attribute [go_sem] sz_135
theorem ld_135 (h : H) (id off : Nat) : loadT Go.Proofs.Tryz.prog h 135 id off = @thn _ _ (h.blk id) ⟨fun b => b.get off⟩ := by kernel_rfl
attribute [go_sem] ld_135
theorem st_135 (h : H) (id off : Nat) (v : CV) : storeT Go.Proofs.Tryz.prog h 135 id off v = @thn _ _ (h.blk id) ⟨fun b => cond (Nat.beq v.cells.length 1 && !b.ro) ((b.storeA off v.cells).map fun b' => h.put id (.cells b')) none⟩ := by kernel_rfl
attribute [go_sem] st_135
theorem part_135 (cs : List CV) (off : Nat) : partT Go.Proofs.Tryz.prog 135 cs off = nth cs off := by kernel_rfl
attribute [go_sem] part_135
theorem sz_138 : szOf Go.Proofs.Tryz.prog 138 = some 1 := by kernel_rfl
attribute [go_sem] sz_138
theorem ld_138 (h : H) (id off : Nat) : loadT Go.Proofs.Tryz.prog h 138 id off = @thn _ _ (h.blk id) ⟨fun b => b.get off⟩ := by kernel_rfl
attribute [go_sem] ld_138
theorem st_138 (h : H) (id off : Nat) (v : CV) : storeT Go.Proofs.Tryz.prog h 138 id off v = @thn _ _ (h.blk id) ⟨fun b => cond (Nat.beq v.cells.length 1 && !b.ro) ((b.storeA off v.cells).map fun b' => h.put id (.cells b')) none⟩ := by kernel_rfl
attribute [go_sem] st_138
theorem part_138 (cs : List CV) (off : Nat) : partT Go.Proofs.Tryz.prog 138 cs off = nth cs off := by kernel_rfl
attribute [go_sem] part_138
theorem ze_138 : zeroT Go.Proofs.Tryz.prog 138 = some (.int .u64 0) := by kernel_rfl
attribute [go_sem] ze_138
theorem sz_139 : szOf Go.Proofs.Tryz.prog 139 = some 1 := by kernel_rfl
attribute [go_sem] sz_139
theorem ld_139 (h : H) (id off : Nat) : loadT Go.Proofs.Tryz.prog h 139 id off = @thn _ _ (h.blk id) ⟨fun b => b.get off⟩ := by kernel_rfl
attribute [go_sem] ld_139
theorem st_139 (h : H) (id off : Nat) (v : CV) : storeT Go.Proofs.Tryz.prog h 139 id off v = @thn _ _ (h.blk id) ⟨fun b => cond (Nat.beq v.cells.length 1 && !b.ro) ((b.storeA off v.cells).map fun b' => h.put id (.cells b')) none⟩ := by kernel_rfl
attribute [go_sem] st_139
theorem part_139 (cs : List CV) (off : Nat) : partT Go.Proofs.Tryz.prog 139 cs off = nth cs off := by kernel_rfl
attribute [go_sem] part_139
theorem ze_139 : zeroT Go.Proofs.Tryz.prog 139 = some (.nilf) := by kernel_rfl
attribute [go_sem] ze_139
theorem eq_139 (xo yo : Operand) (f : Fn) (a b : List CV) : binT Go.Proofs.Tryz.prog .eql 139 xo yo (.fn f a b) .nilf = some (.bool false) := by kernel_rfl
attribute [go_sem] eq_139
theorem eq_139_n (xo yo : Operand) : binT Go.Proofs.Tryz.prog .eql 139 xo yo .nilf .nilf = some (.bool true) := by kernel_rfl
attribute [go_sem] eq_139_n
theorem ne_139 (xo yo : Operand) (f : Fn) (a b : List CV) : binT Go.Proofs.Tryz.prog .neq 139 xo yo (.fn f a b) .nilf = some (.bool true) := by kernel_rfl
attribute [go_sem] ne_139
theorem ne_139_n (xo yo : Operand) : binT Go.Proofs.Tryz.prog .neq 139 xo yo .nilf .nilf = some (.bool false) := by kernel_rfl
attribute [go_sem] ne_139_n
theorem sz_157 : szOf Go.Proofs.Tryz.prog 157 = some 24 := by kernel_rfl
attribute [go_sem] sz_157
theorem ld_157 (h : H) (id off : Nat) : loadT Go.Proofs.Tryz.prog h 157 id off = @thn _ _ (h.blk id) ⟨fun b => (b.loadN off 24).map .agg⟩ := by kernel_rfl
attribute [go_sem] ld_157
theorem st_157 (h : H) (id off : Nat) (v : CV) : storeT Go.Proofs.Tryz.prog h 157 id off v = @thn _ _ (h.blk id) ⟨fun b => cond (Nat.beq v.cells.length 24 && !b.ro) ((b.storeA off v.cells).map fun b' => h.put id (.cells b')) none⟩ := by kernel_rfl
attribute [go_sem] st_157
theorem part_157 (cs : List CV) (off : Nat) : partT Go.Proofs.Tryz.prog 157 cs off = some (.agg ((cs.drop off).take 24)) := by kernel_rfl
attribute [go_sem] part_157
theorem ze_157 : zeroT Go.Proofs.Tryz.prog 157 = some (.agg [.int .u8 0, .int .u8 0, .int .u8 0, .int .u8 0, .int .u8 0, .int .u8 0, .int .u8 0, .int .u8 0, .int .u8 0, .int .u8 0, .int .u8 0, .int .u8 0, .int .u8 0, .int .u8 0, .int .u8 0, .int .u8 0, .int .u8 0, .int .u8 0, .int .u8 0, .int .u8 0, .int .u8 0, .int .u8 0, .int .u8 0, .int .u8 0]) := by kernel_rfl
attribute [go_sem] ze_157
theorem ia_157 (id off k : Nat) (kd : IntKind) : indexAddrT Go.Proofs.Tryz.prog 157 (.ptr id off) (.int kd (Int.ofNat k)) = cond (Nat.blt k 24) (some (.ptr id (off + k * 1))) none := by kernel_rfl
attribute [go_sem] ia_157
theorem ix_157 (cs : List CV) (k : Nat) (kd : IntKind) : indexT Go.Proofs.Tryz.prog 157 (.agg cs) (.int kd (Int.ofNat k)) = cond (Nat.blt k 24) (partT Go.Proofs.Tryz.prog 5 cs (k * 1)) none := by kernel_rfl
attribute [go_sem] ix_157
theorem len_157 (h : H) (ts : List TypeId) (az : List CV) (a : CV) : builtinT Go.Proofs.Tryz.prog h .len (157 :: ts) (a :: az) = some (.val (.int .i64 24)) := by kernel_rfl
attribute [go_sem] len_157
theorem bt_157 (parts : List (Nat × CV)) : buildT Go.Proofs.Tryz.prog 157 parts = finB (CV.cells (.agg [.int .u8 0, .int .u8 0, .int .u8 0, .int .u8 0, .int .u8 0, .int .u8 0, .int .u8 0, .int .u8 0, .int .u8 0, .int .u8 0, .int .u8 0, .int .u8 0, .int .u8 0, .int .u8 0, .int .u8 0, .int .u8 0, .int .u8 0, .int .u8 0, .int .u8 0, .int .u8 0, .int .u8 0, .int .u8 0, .int .u8 0, .int .u8 0])) (fun i => some (i * 1, 1)) parts := by kernel_rfl
attribute [go_sem] bt_157
theorem sz_160 : szOf Go.Proofs.Tryz.prog 160 = some 1 := by kernel_rfl
attribute [go_sem] sz_160
theorem ld_160 (h : H) (id off : Nat) : loadT Go.Proofs.Tryz.prog h 160 id off = @thn _ _ (h.blk id) ⟨fun b => b.get off⟩ := by kernel_rfl
attribute [go_sem] ld_160
theorem st_160 (h : H) (id off : Nat) (v : CV) : storeT Go.Proofs.Tryz.prog h 160 id off v = @thn _ _ (h.blk id) ⟨fun b => cond (Nat.beq v.cells.length 1 && !b.ro) ((b.storeA off v.cells).map fun b' => h.put id (.cells b')) none⟩ := by kernel_rfl
attribute [go_sem] st_160
theorem part_160 (cs : List CV) (off : Nat) : partT Go.Proofs.Tryz.prog 160 cs off = nth cs off := by kernel_rfl
attribute [go_sem] part_160
theorem sz_167 : szOf Go.Proofs.Tryz.prog 167 = some 1 := by kernel_rfl
attribute [go_sem] sz_167
theorem ld_167 (h : H) (id off : Nat) : loadT Go.Proofs.Tryz.prog h 167 id off = @thn _ _ (h.blk id) ⟨fun b => b.get off⟩ := by kernel_rfl
attribute [go_sem] ld_167
theorem st_167 (h : H) (id off : Nat) (v : CV) : storeT Go.Proofs.Tryz.prog h 167 id off v = @thn _ _ (h.blk id) ⟨fun b => cond (Nat.beq v.cells.length 1 && !b.ro) ((b.storeA off v.cells).map fun b' => h.put id (.cells b')) none⟩ := by kernel_rfl
attribute [go_sem] st_167
theorem part_167 (cs : List CV) (off : Nat) : partT Go.Proofs.Tryz.prog 167 cs off = nth cs off := by kernel_rfl
attribute [go_sem] part_167
theorem ze_167 : zeroT Go.Proofs.Tryz.prog 167 = some (.nilf) := by kernel_rfl
attribute [go_sem] ze_167
theorem eq_167 (xo yo : Operand) (f : Fn) (a b : List CV) : binT Go.Proofs.Tryz.prog .eql 167 xo yo (.fn f a b) .nilf = some (.bool false) := by kernel_rfl
attribute [go_sem] eq_167
theorem eq_167_n (xo yo : Operand) : binT Go.Proofs.Tryz.prog .eql 167 xo yo .nilf .nilf = some (.bool true) := by kernel_rfl
attribute [go_sem] eq_167_n
theorem ne_167 (xo yo : Operand) (f : Fn) (a b : List CV) : binT Go.Proofs.Tryz.prog .neq 167 xo yo (.fn f a b) .nilf = some (.bool true) := by kernel_rfl
attribute [go_sem] ne_167
theorem ne_167_n (xo yo : Operand) : binT Go.Proofs.Tryz.prog .neq 167 xo yo .nilf .nilf = some (.bool false) := by kernel_rfl
attribute [go_sem] ne_167_n
theorem sz_176 : szOf Go.Proofs.Tryz.prog 176 = some 20 := by kernel_rfl
attribute [go_sem] sz_176
theorem ld_176 (h : H) (id off : Nat) : loadT Go.Proofs.Tryz.prog h 176 id off = @thn _ _ (h.blk id) ⟨fun b => (b.loadN off 20).map .agg⟩ := by kernel_rfl
attribute [go_sem] ld_176
theorem st_176 (h : H) (id off : Nat) (v : CV) : storeT Go.Proofs.Tryz.prog h 176 id off v = @thn _ _ (h.blk id) ⟨fun b => cond (Nat.beq v.cells.length 20 && !b.ro) ((b.storeA off v.cells).map fun b' => h.put id (.cells b')) none⟩ := by kernel_rfl
attribute [go_sem] st_176
theorem part_176 (cs : List CV) (off : Nat) : partT Go.Proofs.Tryz.prog 176 cs off = some (.agg ((cs.drop off).take 20)) := by kernel_rfl
attribute [go_sem] part_176
theorem ze_176 : zeroT Go.Proofs.Tryz.prog 176 = some (.agg [.int .u64 0, .int .u64 0, .int .u64 0, .int .u64 0, .int .u64 0, .int .u64 0, .int .u64 0, .int .u64 0, .int .u64 0, .int .u64 0, .int .u64 0, .int .u64 0, .int .u64 0, .int .u64 0, .int .u64 0, .int .u64 0, .int .u64 0, .int .u64 0, .int .u64 0, .int .u64 0]) := by kernel_rfl
attribute [go_sem] ze_176
theorem ia_176 (id off k : Nat) (kd : IntKind) : indexAddrT Go.Proofs.Tryz.prog 176 (.ptr id off) (.int kd (Int.ofNat k)) = cond (Nat.blt k 20) (some (.ptr id (off + k * 1))) none := by kernel_rfl
attribute [go_sem] ia_176
theorem ix_176 (cs : List CV) (k : Nat) (kd : IntKind) : indexT Go.Proofs.Tryz.prog 176 (.agg cs) (.int kd (Int.ofNat k)) = cond (Nat.blt k 20) (partT Go.Proofs.Tryz.prog 22 cs (k * 1)) none := by kernel_rfl
attribute [go_sem] ix_176
theorem len_176 (h : H) (ts : List TypeId) (az : List CV) (a : CV) : builtinT Go.Proofs.Tryz.prog h .len (176 :: ts) (a :: az) = some (.val (.int .i64 20)) := by kernel_rfl
attribute [go_sem] len_176
theorem bt_176 (parts : List (Nat × CV)) : buildT Go.Proofs.Tryz.prog 176 parts = finB (CV.cells (.agg [.int .u64 0, .int .u64 0, .int .u64 0, .int .u64 0, .int .u64 0, .int .u64 0, .int .u64 0, .int .u64 0, .int .u64 0, .int .u64 0, .int .u64 0, .int .u64 0, .int .u64 0, .int .u64 0, .int .u64 0, .int .u64 0, .int .u64 0, .int .u64 0, .int .u64 0, .int .u64 0])) (fun i => some (i * 1, 1)) parts := by kernel_rfl
attribute [go_sem] bt_176
theorem sz_177 : szOf Go.Proofs.Tryz.prog 177 = some 1 := by kernel_rfl
attribute [go_sem] sz_177
theorem ld_177 (h : H) (id off : Nat) : loadT Go.Proofs.Tryz.prog h 177 id off = @thn _ _ (h.blk id) ⟨fun b => b.get off⟩ := by kernel_rfl
attribute [go_sem] ld_177
theorem st_177 (h : H) (id off : Nat) (v : CV) : storeT Go.Proofs.Tryz.prog h 177 id off v = @thn _ _ (h.blk id) ⟨fun b => cond (Nat.beq v.cells.length 1 && !b.ro) ((b.storeA off v.cells).map fun b' => h.put id (.cells b')) none⟩ := by kernel_rfl
attribute [go_sem] st_177
theorem part_177 (cs : List CV) (off : Nat) : partT Go.Proofs.Tryz.prog 177 cs off = nth cs off := by kernel_rfl
attribute [go_sem] part_177
theorem ze_177 : zeroT Go.Proofs.Tryz.prog 177 = some (.int .u32 0) := by kernel_rfl
attribute [go_sem] ze_177
theorem sz_200 : szOf Go.Proofs.Tryz.prog 200 = some 1 := by kernel_rfl
attribute [go_sem] sz_200
theorem ld_200 (h : H) (id off : Nat) : loadT Go.Proofs.Tryz.prog h 200 id off = @thn _ _ (h.blk id) ⟨fun b => b.get off⟩ := by kernel_rfl
attribute [go_sem] ld_200
theorem st_200 (h : H) (id off : Nat) (v : CV) : storeT Go.Proofs.Tryz.prog h 200 id off v = @thn _ _ (h.blk id) ⟨fun b => cond (Nat.beq v.cells.length 1 && !b.ro) ((b.storeA off v.cells).map fun b' => h.put id (.cells b')) none⟩ := by kernel_rfl
attribute [go_sem] st_200
theorem part_200 (cs : List CV) (off : Nat) : partT Go.Proofs.Tryz.prog 200 cs off = nth cs off := by kernel_rfl
attribute [go_sem] part_200
theorem ze_200 : zeroT Go.Proofs.Tryz.prog 200 = some (.int .u8 0) := by kernel_rfl
attribute [go_sem] ze_200
theorem mi_9 (a : CV) : ifT Go.Proofs.Tryz.prog 9 a = some (.val (.ifc 9 a)) := by kernel_rfl
attribute [go_sem] mi_9
theorem cv_22_3 (h : H) (k : IntKind) (x : Int) : convT Go.Proofs.Tryz.prog h 22 3 (.int k x) = some (.val (.int .i64 (IntKind.wrap .i64 x))) := by kernel_rfl
attribute [go_sem] cv_22_3
theorem cv_83_9 (h : H) (id off len : Nat) (c : Cap) : convT Go.Proofs.Tryz.prog h 83 9 (.sl id off len c) = @thn _ _ (h.blk id) ⟨fun b => (b.loadN off len).bind fun cs => (bytesOf cs).map fun l => .val (.str l)⟩ := by kernel_rfl
attribute [go_sem] cv_83_9
theorem cv_83_9_n (h : H) : convT Go.Proofs.Tryz.prog h 83 9 .nils = some (.val (.str [])) := by kernel_rfl
attribute [go_sem] cv_83_9_n
theorem cv_83_9_z (h : H) (x y z w : Nat) : convT Go.Proofs.Tryz.prog h 83 9 (.sl0 x y z w) = some (.val (.str [])) := by kernel_rfl
attribute [go_sem] cv_83_9_z
theorem cv_3_22 (h : H) (k : IntKind) (x : Int) : convT Go.Proofs.Tryz.prog h 3 22 (.int k x) = some (.val (.int .u64 (IntKind.wrap .u64 x))) := by kernel_rfl
attribute [go_sem] cv_3_22
theorem cv_22_5 (h : H) (k : IntKind) (x : Int) : convT Go.Proofs.Tryz.prog h 22 5 (.int k x) = some (.val (.int .u8 (IntKind.wrap .u8 x))) := by kernel_rfl
attribute [go_sem] cv_22_5
theorem cv_21_3 (h : H) (k : IntKind) (x : Int) : convT Go.Proofs.Tryz.prog h 21 3 (.int k x) = some (.val (.int .i64 (IntKind.wrap .i64 x))) := by kernel_rfl
attribute [go_sem] cv_21_3
theorem cv_2_22 (h : H) (k : IntKind) (x : Int) : convT Go.Proofs.Tryz.prog h 2 22 (.int k x) = some (.val (.int .u64 (IntKind.wrap .u64 x))) := by kernel_rfl
attribute [go_sem] cv_2_22
theorem cv_22_177 (h : H) (k : IntKind) (x : Int) : convT Go.Proofs.Tryz.prog h 22 177 (.int k x) = some (.val (.int .u32 (IntKind.wrap .u32 x))) := by kernel_rfl
attribute [go_sem] cv_22_177
theorem cv_177_5 (h : H) (k : IntKind) (x : Int) : convT Go.Proofs.Tryz.prog h 177 5 (.int k x) = some (.val (.int .u8 (IntKind.wrap .u8 x))) := by kernel_rfl
attribute [go_sem] cv_177_5
theorem cv_3_138 (h : H) (k : IntKind) (x : Int) : convT Go.Proofs.Tryz.prog h 3 138 (.int k x) = some (.val (.int .u64 (IntKind.wrap .u64 x))) := by kernel_rfl
attribute [go_sem] cv_3_138
theorem cv_5_22 (h : H) (k : IntKind) (x : Int) : convT Go.Proofs.Tryz.prog h 5 22 (.int k x) = some (.val (.int .u64 (IntKind.wrap .u64 x))) := by kernel_rfl
attribute [go_sem] cv_5_22
theorem cv_22_26 (h : H) (k : IntKind) (x : Int) : convT Go.Proofs.Tryz.prog h 22 26 (.int k x) = some (.val (.int .i64 (IntKind.wrap .i64 x))) := by kernel_rfl
attribute [go_sem] cv_22_26
theorem cv_22_27 (h : H) (k : IntKind) (x : Int) : convT Go.Proofs.Tryz.prog h 22 27 (.int k x) = some (.val (.int .i64 (IntKind.wrap .i64 x))) := by kernel_rfl
attribute [go_sem] cv_22_27
theorem cv_5_3 (h : H) (k : IntKind) (x : Int) : convT Go.Proofs.Tryz.prog h 5 3 (.int k x) = some (.val (.int .i64 (IntKind.wrap .i64 x))) := by kernel_rfl
attribute [go_sem] cv_5_3
theorem cv_138_177 (h : H) (k : IntKind) (x : Int) : convT Go.Proofs.Tryz.prog h 138 177 (.int k x) = some (.val (.int .u32 (IntKind.wrap .u32 x))) := by kernel_rfl
attribute [go_sem] cv_138_177
theorem cv_5_21 (h : H) (k : IntKind) (x : Int) : convT Go.Proofs.Tryz.prog h 5 21 (.int k x) = some (.val (.int .i32 (IntKind.wrap .i32 x))) := by kernel_rfl
attribute [go_sem] cv_5_21
theorem cv_5_177 (h : H) (k : IntKind) (x : Int) : convT Go.Proofs.Tryz.prog h 5 177 (.int k x) = some (.val (.int .u32 (IntKind.wrap .u32 x))) := by kernel_rfl
attribute [go_sem] cv_5_177
theorem cv_3_5 (h : H) (k : IntKind) (x : Int) : convT Go.Proofs.Tryz.prog h 3 5 (.int k x) = some (.val (.int .u8 (IntKind.wrap .u8 x))) := by kernel_rfl
attribute [go_sem] cv_3_5
theorem eq_20 (xo yo : Operand) (u : TypeId) (v : CV) : binT Go.Proofs.Tryz.prog .eql 20 xo yo (.ifc u v) .nili = some (.bool false) := by kernel_rfl
attribute [go_sem] eq_20
theorem eq_20_n (n : Nat) (v : Value) : binT Go.Proofs.Tryz.prog .eql 20 (.tmp n) (.const v) .nili .nili = some (.bool true) := by kernel_rfl
attribute [go_sem] eq_20_n
theorem ne_20 (xo yo : Operand) (u : TypeId) (v : CV) : binT Go.Proofs.Tryz.prog .neq 20 xo yo (.ifc u v) .nili = some (.bool true) := by kernel_rfl
attribute [go_sem] ne_20
theorem ne_20_n (n : Nat) (v : Value) : binT Go.Proofs.Tryz.prog .neq 20 (.tmp n) (.const v) .nili .nili = some (.bool false) := by kernel_rfl
attribute [go_sem] ne_20_n
theorem fn_3 : nth Go.Proofs.Tryz.prog.funcs.toList 3 = some Go.Proofs.Tryz.f3 := by kernel_rfl
attribute [go_sem] fn_3
theorem tx_3 : isTextO Go.Proofs.Tryz.prog 3 = some () := by kernel_rfl
attribute [go_sem] tx_3
theorem fn_8 : nth Go.Proofs.Tryz.prog.funcs.toList 8 = some Go.Proofs.Tryz.f8 := by kernel_rfl
attribute [go_sem] fn_8
theorem tx_8 : isTextO Go.Proofs.Tryz.prog 8 = some () := by kernel_rfl
attribute [go_sem] tx_8
theorem fn_9 : nth Go.Proofs.Tryz.prog.funcs.toList 9 = some Go.Proofs.Tryz.f9 := by kernel_rfl
attribute [go_sem] fn_9
theorem tx_9 : isTextO Go.Proofs.Tryz.prog 9 = some () := by kernel_rfl
attribute [go_sem] tx_9
theorem fn_10 : nth Go.Proofs.Tryz.prog.funcs.toList 10 = some Go.Proofs.Tryz.f10 := by kernel_rfl
attribute [go_sem] fn_10
theorem tx_10 : isTextO Go.Proofs.Tryz.prog 10 = some () := by kernel_rfl
attribute [go_sem] tx_10
theorem fn_11 : nth Go.Proofs.Tryz.prog.funcs.toList 11 = some Go.Proofs.Tryz.f11 := by kernel_rfl
attribute [go_sem] fn_11
theorem tx_11 : isTextO Go.Proofs.Tryz.prog 11 = some () := by kernel_rfl
attribute [go_sem] tx_11
theorem fn_12 : nth Go.Proofs.Tryz.prog.funcs.toList 12 = some Go.Proofs.Tryz.f12 := by kernel_rfl
attribute [go_sem] fn_12
theorem tx_12 : isTextO Go.Proofs.Tryz.prog 12 = some () := by kernel_rfl
attribute [go_sem] tx_12
theorem fn_13 : nth Go.Proofs.Tryz.prog.funcs.toList 13 = some Go.Proofs.Tryz.f13 := by kernel_rfl
attribute [go_sem] fn_13
theorem tx_13 : isTextO Go.Proofs.Tryz.prog 13 = some () := by kernel_rfl
attribute [go_sem] tx_13
theorem fn_14 : nth Go.Proofs.Tryz.prog.funcs.toList 14 = some Go.Proofs.Tryz.f14 := by kernel_rfl
attribute [go_sem] fn_14
theorem tx_14 : isTextO Go.Proofs.Tryz.prog 14 = some () := by kernel_rfl
attribute [go_sem] tx_14
theorem fn_15 : nth Go.Proofs.Tryz.prog.funcs.toList 15 = some Go.Proofs.Tryz.f15 := by kernel_rfl
attribute [go_sem] fn_15
theorem tx_15 : isTextO Go.Proofs.Tryz.prog 15 = some () := by kernel_rfl
attribute [go_sem] tx_15
theorem fn_35 : nth Go.Proofs.Tryz.prog.funcs.toList 35 = some Go.Proofs.Tryz.f35 := by kernel_rfl
attribute [go_sem] fn_35
theorem tx_35 : isTextO Go.Proofs.Tryz.prog 35 = some () := by kernel_rfl
attribute [go_sem] tx_35
theorem fn_36 : nth Go.Proofs.Tryz.prog.funcs.toList 36 = some Go.Proofs.Tryz.f36 := by kernel_rfl
attribute [go_sem] fn_36
theorem tx_36 : isTextO Go.Proofs.Tryz.prog 36 = some () := by kernel_rfl
attribute [go_sem] tx_36
theorem fn_37 : nth Go.Proofs.Tryz.prog.funcs.toList 37 = some Go.Proofs.Tryz.f37 := by kernel_rfl
attribute [go_sem] fn_37
theorem tx_37 : isTextO Go.Proofs.Tryz.prog 37 = some () := by kernel_rfl
attribute [go_sem] tx_37
theorem fn_38 : nth Go.Proofs.Tryz.prog.funcs.toList 38 = some Go.Proofs.Tryz.f38 := by kernel_rfl
attribute [go_sem] fn_38
theorem tx_38 : isTextO Go.Proofs.Tryz.prog 38 = some () := by kernel_rfl
attribute [go_sem] tx_38
theorem fn_39 : nth Go.Proofs.Tryz.prog.funcs.toList 39 = some Go.Proofs.Tryz.f39 := by kernel_rfl
attribute [go_sem] fn_39
theorem tx_39 : isTextO Go.Proofs.Tryz.prog 39 = some () := by kernel_rfl
attribute [go_sem] tx_39
theorem fn_40 : nth Go.Proofs.Tryz.prog.funcs.toList 40 = some Go.Proofs.Tryz.f40 := by kernel_rfl
attribute [go_sem] fn_40
theorem tx_40 : isTextO Go.Proofs.Tryz.prog 40 = some () := by kernel_rfl
attribute [go_sem] tx_40
theorem fn_41 : nth Go.Proofs.Tryz.prog.funcs.toList 41 = some Go.Proofs.Tryz.f41 := by kernel_rfl
attribute [go_sem] fn_41
theorem tx_41 : isTextO Go.Proofs.Tryz.prog 41 = some () := by kernel_rfl
attribute [go_sem] tx_41
theorem fn_42 : nth Go.Proofs.Tryz.prog.funcs.toList 42 = some Go.Proofs.Tryz.f42 := by kernel_rfl
attribute [go_sem] fn_42
theorem tx_42 : isTextO Go.Proofs.Tryz.prog 42 = some () := by kernel_rfl
attribute [go_sem] tx_42
theorem fn_43 : nth Go.Proofs.Tryz.prog.funcs.toList 43 = some Go.Proofs.Tryz.f43 := by kernel_rfl
attribute [go_sem] fn_43
theorem tx_43 : isTextO Go.Proofs.Tryz.prog 43 = some () := by kernel_rfl
attribute [go_sem] tx_43
theorem fn_44 : nth Go.Proofs.Tryz.prog.funcs.toList 44 = some Go.Proofs.Tryz.f44 := by kernel_rfl
attribute [go_sem] fn_44
theorem tx_44 : isTextO Go.Proofs.Tryz.prog 44 = some () := by kernel_rfl
attribute [go_sem] tx_44
theorem fn_45 : nth Go.Proofs.Tryz.prog.funcs.toList 45 = some Go.Proofs.Tryz.f45 := by kernel_rfl
attribute [go_sem] fn_45
theorem tx_45 : isTextO Go.Proofs.Tryz.prog 45 = some () := by kernel_rfl
attribute [go_sem] tx_45
theorem fn_50 : nth Go.Proofs.Tryz.prog.funcs.toList 50 = some Go.Proofs.Tryz.f50 := by kernel_rfl
attribute [go_sem] fn_50
theorem tx_50 : isTextO Go.Proofs.Tryz.prog 50 = some () := by kernel_rfl
attribute [go_sem] tx_50
theorem fn_51 : nth Go.Proofs.Tryz.prog.funcs.toList 51 = some Go.Proofs.Tryz.f51 := by kernel_rfl
attribute [go_sem] fn_51
theorem tx_51 : isTextO Go.Proofs.Tryz.prog 51 = some () := by kernel_rfl
attribute [go_sem] tx_51
theorem fn_53 : nth Go.Proofs.Tryz.prog.funcs.toList 53 = some Go.Proofs.Tryz.f53 := by kernel_rfl
attribute [go_sem] fn_53
theorem tx_53 : isTextO Go.Proofs.Tryz.prog 53 = some () := by kernel_rfl
attribute [go_sem] tx_53
theorem fn_69 : nth Go.Proofs.Tryz.prog.funcs.toList 69 = some Go.Proofs.Tryz.f69 := by kernel_rfl
attribute [go_sem] fn_69
theorem tx_69 : isTextO Go.Proofs.Tryz.prog 69 = some () := by kernel_rfl
attribute [go_sem] tx_69
theorem fn_76 : nth Go.Proofs.Tryz.prog.funcs.toList 76 = some Go.Proofs.Tryz.f76 := by kernel_rfl
attribute [go_sem] fn_76
theorem tx_76 : isTextO Go.Proofs.Tryz.prog 76 = some () := by kernel_rfl
attribute [go_sem] tx_76
theorem fn_77 : nth Go.Proofs.Tryz.prog.funcs.toList 77 = some Go.Proofs.Tryz.f77 := by kernel_rfl
attribute [go_sem] fn_77
theorem tx_77 : isTextO Go.Proofs.Tryz.prog 77 = some () := by kernel_rfl
attribute [go_sem] tx_77
theorem fn_78 : nth Go.Proofs.Tryz.prog.funcs.toList 78 = some Go.Proofs.Tryz.f78 := by kernel_rfl
attribute [go_sem] fn_78
theorem tx_78 : isTextO Go.Proofs.Tryz.prog 78 = some () := by kernel_rfl
attribute [go_sem] tx_78
theorem fn_79 : nth Go.Proofs.Tryz.prog.funcs.toList 79 = some Go.Proofs.Tryz.f79 := by kernel_rfl
attribute [go_sem] fn_79
theorem tx_79 : isTextO Go.Proofs.Tryz.prog 79 = some () := by kernel_rfl
attribute [go_sem] tx_79
theorem fn_80 : nth Go.Proofs.Tryz.prog.funcs.toList 80 = some Go.Proofs.Tryz.f80 := by kernel_rfl
attribute [go_sem] fn_80
theorem tx_80 : isTextO Go.Proofs.Tryz.prog 80 = some () := by kernel_rfl
attribute [go_sem] tx_80
theorem fn_81 : nth Go.Proofs.Tryz.prog.funcs.toList 81 = some Go.Proofs.Tryz.f81 := by kernel_rfl
attribute [go_sem] fn_81
theorem tx_81 : isTextO Go.Proofs.Tryz.prog 81 = some () := by kernel_rfl
attribute [go_sem] tx_81
theorem fn_82 : nth Go.Proofs.Tryz.prog.funcs.toList 82 = some Go.Proofs.Tryz.f82 := by kernel_rfl
attribute [go_sem] fn_82
theorem tx_82 : isTextO Go.Proofs.Tryz.prog 82 = some () := by kernel_rfl
attribute [go_sem] tx_82
theorem fn_83 : nth Go.Proofs.Tryz.prog.funcs.toList 83 = some Go.Proofs.Tryz.f83 := by kernel_rfl
attribute [go_sem] fn_83
theorem tx_83 : isTextO Go.Proofs.Tryz.prog 83 = some () := by kernel_rfl
attribute [go_sem] tx_83
theorem fn_84 : nth Go.Proofs.Tryz.prog.funcs.toList 84 = some Go.Proofs.Tryz.f84 := by kernel_rfl
attribute [go_sem] fn_84
theorem tx_84 : isTextO Go.Proofs.Tryz.prog 84 = some () := by kernel_rfl
attribute [go_sem] tx_84
theorem fn_88 : nth Go.Proofs.Tryz.prog.funcs.toList 88 = some Go.Proofs.Tryz.f88 := by kernel_rfl
attribute [go_sem] fn_88
theorem tx_88 : isTextO Go.Proofs.Tryz.prog 88 = some () := by kernel_rfl
attribute [go_sem] tx_88
theorem fn_119 : nth Go.Proofs.Tryz.prog.funcs.toList 119 = some Go.Proofs.Tryz.f119 := by kernel_rfl
attribute [go_sem] fn_119
theorem tx_119 : isTextO Go.Proofs.Tryz.prog 119 = some () := by kernel_rfl
attribute [go_sem] tx_119
theorem fn_120 : nth Go.Proofs.Tryz.prog.funcs.toList 120 = some Go.Proofs.Tryz.f120 := by kernel_rfl
attribute [go_sem] fn_120
theorem tx_120 : isTextO Go.Proofs.Tryz.prog 120 = some () := by kernel_rfl
attribute [go_sem] tx_120
theorem fn_121 : nth Go.Proofs.Tryz.prog.funcs.toList 121 = some Go.Proofs.Tryz.f121 := by kernel_rfl
attribute [go_sem] fn_121
theorem tx_121 : isTextO Go.Proofs.Tryz.prog 121 = some () := by kernel_rfl
attribute [go_sem] tx_121
theorem fn_122 : nth Go.Proofs.Tryz.prog.funcs.toList 122 = some Go.Proofs.Tryz.f122 := by kernel_rfl
attribute [go_sem] fn_122
theorem tx_122 : isTextO Go.Proofs.Tryz.prog 122 = some () := by kernel_rfl
attribute [go_sem] tx_122
theorem fn_135 : nth Go.Proofs.Tryz.prog.funcs.toList 135 = some Go.Proofs.Tryz.f135 := by kernel_rfl
attribute [go_sem] fn_135
theorem tx_135 : isTextO Go.Proofs.Tryz.prog 135 = some () := by kernel_rfl
attribute [go_sem] tx_135
theorem fn_136 : nth Go.Proofs.Tryz.prog.funcs.toList 136 = some Go.Proofs.Tryz.f136 := by kernel_rfl
attribute [go_sem] fn_136
theorem tx_136 : isTextO Go.Proofs.Tryz.prog 136 = some () := by kernel_rfl
attribute [go_sem] tx_136
theorem fn_137 : nth Go.Proofs.Tryz.prog.funcs.toList 137 = some Go.Proofs.Tryz.f137 := by kernel_rfl
attribute [go_sem] fn_137
theorem tx_137 : isTextO Go.Proofs.Tryz.prog 137 = some () := by kernel_rfl
attribute [go_sem] tx_137
end Go.Cl.Sh
