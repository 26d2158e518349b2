/- Facts of the program's tables, each read off by the kernel. -/
import Derived.Attr
import Derived.KernelRfl
import Derived.Test.YtifjdkohbhpmpaaGreatDoorProg
import Derived.Test.YtifjdkohbhpmpaaGreatDoorClG
set_option linter.all false
namespace Go.Cl.Sh
open Go Go.Cl
theorem sz_0 : szOf Go.Proofs.Tryz.prog 0 = some 1 := by kernel_rfl
attribute [go_sem] sz_0
theorem ld_0 (h : H) (id off : Nat) : loadT Go.Proofs.Tryz.prog h 0 id off = @thn _ _ (h.blk id) ⟨fun b => b.get off⟩ := by kernel_rfl
attribute [go_sem] ld_0
theorem st_0 (h : H) (id off : Nat) (v : CV) : storeT Go.Proofs.Tryz.prog h 0 id off v = @thn _ _ (h.blk id) ⟨fun b => cond (Nat.beq v.cells.length 1 && !b.ro) ((b.storeA off v.cells).map fun b' => h.put id (.cells b')) none⟩ := by kernel_rfl
attribute [go_sem] st_0
theorem part_0 (cs : List CV) (off : Nat) : partT Go.Proofs.Tryz.prog 0 cs off = nth cs off := by kernel_rfl
attribute [go_sem] part_0
theorem sz_1 : szOf Go.Proofs.Tryz.prog 1 = some 1 := by kernel_rfl
attribute [go_sem] sz_1
theorem ld_1 (h : H) (id off : Nat) : loadT Go.Proofs.Tryz.prog h 1 id off = @thn _ _ (h.blk id) ⟨fun b => b.get off⟩ := by kernel_rfl
attribute [go_sem] ld_1
theorem st_1 (h : H) (id off : Nat) (v : CV) : storeT Go.Proofs.Tryz.prog h 1 id off v = @thn _ _ (h.blk id) ⟨fun b => cond (Nat.beq v.cells.length 1 && !b.ro) ((b.storeA off v.cells).map fun b' => h.put id (.cells b')) none⟩ := by kernel_rfl
attribute [go_sem] st_1
theorem part_1 (cs : List CV) (off : Nat) : partT Go.Proofs.Tryz.prog 1 cs off = nth cs off := by kernel_rfl
attribute [go_sem] part_1
theorem ze_1 : zeroT Go.Proofs.Tryz.prog 1 = some (.nilf) := by kernel_rfl
attribute [go_sem] ze_1
theorem eq_1 (xo yo : Operand) (f : Fn) (a b : List CV) : binT Go.Proofs.Tryz.prog .eql 1 xo yo (.fn f a b) .nilf = some (.bool false) := by kernel_rfl
attribute [go_sem] eq_1
theorem eq_1_n (xo yo : Operand) : binT Go.Proofs.Tryz.prog .eql 1 xo yo .nilf .nilf = some (.bool true) := by kernel_rfl
attribute [go_sem] eq_1_n
theorem ne_1 (xo yo : Operand) (f : Fn) (a b : List CV) : binT Go.Proofs.Tryz.prog .neq 1 xo yo (.fn f a b) .nilf = some (.bool true) := by kernel_rfl
attribute [go_sem] ne_1
theorem ne_1_n (xo yo : Operand) : binT Go.Proofs.Tryz.prog .neq 1 xo yo .nilf .nilf = some (.bool false) := by kernel_rfl
attribute [go_sem] ne_1_n
theorem sz_2 : szOf Go.Proofs.Tryz.prog 2 = some 1 := by kernel_rfl
attribute [go_sem] sz_2
theorem ld_2 (h : H) (id off : Nat) : loadT Go.Proofs.Tryz.prog h 2 id off = @thn _ _ (h.blk id) ⟨fun b => b.get off⟩ := by kernel_rfl
attribute [go_sem] ld_2
theorem st_2 (h : H) (id off : Nat) (v : CV) : storeT Go.Proofs.Tryz.prog h 2 id off v = @thn _ _ (h.blk id) ⟨fun b => cond (Nat.beq v.cells.length 1 && !b.ro) ((b.storeA off v.cells).map fun b' => h.put id (.cells b')) none⟩ := by kernel_rfl
attribute [go_sem] st_2
theorem part_2 (cs : List CV) (off : Nat) : partT Go.Proofs.Tryz.prog 2 cs off = nth cs off := by kernel_rfl
attribute [go_sem] part_2
theorem ze_2 : zeroT Go.Proofs.Tryz.prog 2 = some (.int .i64 0) := by kernel_rfl
attribute [go_sem] ze_2
theorem sz_3 : szOf Go.Proofs.Tryz.prog 3 = some 1 := by kernel_rfl
attribute [go_sem] sz_3
theorem ld_3 (h : H) (id off : Nat) : loadT Go.Proofs.Tryz.prog h 3 id off = @thn _ _ (h.blk id) ⟨fun b => b.get off⟩ := by kernel_rfl
attribute [go_sem] ld_3
theorem st_3 (h : H) (id off : Nat) (v : CV) : storeT Go.Proofs.Tryz.prog h 3 id off v = @thn _ _ (h.blk id) ⟨fun b => cond (Nat.beq v.cells.length 1 && !b.ro) ((b.storeA off v.cells).map fun b' => h.put id (.cells b')) none⟩ := by kernel_rfl
attribute [go_sem] st_3
theorem part_3 (cs : List CV) (off : Nat) : partT Go.Proofs.Tryz.prog 3 cs off = nth cs off := by kernel_rfl
attribute [go_sem] part_3
theorem ze_3 : zeroT Go.Proofs.Tryz.prog 3 = some (.int .i64 0) := by kernel_rfl
attribute [go_sem] ze_3
theorem sz_4 : szOf Go.Proofs.Tryz.prog 4 = some 1 := by kernel_rfl
attribute [go_sem] sz_4
theorem ld_4 (h : H) (id off : Nat) : loadT Go.Proofs.Tryz.prog h 4 id off = @thn _ _ (h.blk id) ⟨fun b => b.get off⟩ := by kernel_rfl
attribute [go_sem] ld_4
theorem st_4 (h : H) (id off : Nat) (v : CV) : storeT Go.Proofs.Tryz.prog h 4 id off v = @thn _ _ (h.blk id) ⟨fun b => cond (Nat.beq v.cells.length 1 && !b.ro) ((b.storeA off v.cells).map fun b' => h.put id (.cells b')) none⟩ := by kernel_rfl
attribute [go_sem] st_4
theorem part_4 (cs : List CV) (off : Nat) : partT Go.Proofs.Tryz.prog 4 cs off = nth cs off := by kernel_rfl
attribute [go_sem] part_4
theorem ze_4 : zeroT Go.Proofs.Tryz.prog 4 = some (.bool false) := by kernel_rfl
attribute [go_sem] ze_4
theorem eq_4 (xo yo : Operand) (a b : Bool) : binT Go.Proofs.Tryz.prog .eql 4 xo yo (.bool a) (.bool b) = some (.bool (a == b)) := by kernel_rfl
attribute [go_sem] eq_4
theorem ne_4 (xo yo : Operand) (a b : Bool) : binT Go.Proofs.Tryz.prog .neq 4 xo yo (.bool a) (.bool b) = some (.bool (!(a == b))) := by kernel_rfl
attribute [go_sem] ne_4
theorem sz_5 : szOf Go.Proofs.Tryz.prog 5 = some 1 := by kernel_rfl
attribute [go_sem] sz_5
theorem ld_5 (h : H) (id off : Nat) : loadT Go.Proofs.Tryz.prog h 5 id off = @thn _ _ (h.blk id) ⟨fun b => b.get off⟩ := by kernel_rfl
attribute [go_sem] ld_5
theorem st_5 (h : H) (id off : Nat) (v : CV) : storeT Go.Proofs.Tryz.prog h 5 id off v = @thn _ _ (h.blk id) ⟨fun b => cond (Nat.beq v.cells.length 1 && !b.ro) ((b.storeA off v.cells).map fun b' => h.put id (.cells b')) none⟩ := by kernel_rfl
attribute [go_sem] st_5
theorem part_5 (cs : List CV) (off : Nat) : partT Go.Proofs.Tryz.prog 5 cs off = nth cs off := by kernel_rfl
attribute [go_sem] part_5
theorem ze_5 : zeroT Go.Proofs.Tryz.prog 5 = some (.int .u8 0) := by kernel_rfl
attribute [go_sem] ze_5
theorem sz_6 : szOf Go.Proofs.Tryz.prog 6 = some 1 := by kernel_rfl
attribute [go_sem] sz_6
theorem ld_6 (h : H) (id off : Nat) : loadT Go.Proofs.Tryz.prog h 6 id off = @thn _ _ (h.blk id) ⟨fun b => b.get off⟩ := by kernel_rfl
attribute [go_sem] ld_6
theorem st_6 (h : H) (id off : Nat) (v : CV) : storeT Go.Proofs.Tryz.prog h 6 id off v = @thn _ _ (h.blk id) ⟨fun b => cond (Nat.beq v.cells.length 1 && !b.ro) ((b.storeA off v.cells).map fun b' => h.put id (.cells b')) none⟩ := by kernel_rfl
attribute [go_sem] st_6
theorem part_6 (cs : List CV) (off : Nat) : partT Go.Proofs.Tryz.prog 6 cs off = nth cs off := by kernel_rfl
attribute [go_sem] part_6
theorem ze_6 : zeroT Go.Proofs.Tryz.prog 6 = some (.int .u8 0) := by kernel_rfl
attribute [go_sem] ze_6
theorem sz_7 : szOf Go.Proofs.Tryz.prog 7 = some 4 := by kernel_rfl
attribute [go_sem] sz_7
theorem ld_7 (h : H) (id off : Nat) : loadT Go.Proofs.Tryz.prog h 7 id off = @thn _ _ (h.blk id) ⟨fun b => (b.loadN off 4).map .agg⟩ := by kernel_rfl
attribute [go_sem] ld_7
theorem st_7 (h : H) (id off : Nat) (v : CV) : storeT Go.Proofs.Tryz.prog h 7 id off v = @thn _ _ (h.blk id) ⟨fun b => cond (Nat.beq v.cells.length 4 && !b.ro) ((b.storeA off v.cells).map fun b' => h.put id (.cells b')) none⟩ := by kernel_rfl
attribute [go_sem] st_7
theorem part_7 (cs : List CV) (off : Nat) : partT Go.Proofs.Tryz.prog 7 cs off = some (.agg ((cs.drop off).take 4)) := by kernel_rfl
attribute [go_sem] part_7
theorem ze_7 : zeroT Go.Proofs.Tryz.prog 7 = some (.agg [.int .i64 0, .int .i64 0, .bool false, .int .u8 0]) := by kernel_rfl
attribute [go_sem] ze_7
theorem bt_7 (parts : List (Nat × CV)) : buildT Go.Proofs.Tryz.prog 7 parts = finB (CV.cells (.agg [.int .i64 0, .int .i64 0, .bool false, .int .u8 0])) (nth [(0, 1), (1, 1), (2, 1), (3, 1)]) parts := by kernel_rfl
attribute [go_sem] bt_7
theorem fa_7_0 (id off : Nat) : fieldAddrT Go.Proofs.Tryz.prog 7 (.ptr id off) 0 = some (.ptr id (off)) := by kernel_rfl
attribute [go_sem] fa_7_0
theorem fd_7_0 (cs : List CV) : fieldT Go.Proofs.Tryz.prog 7 (.agg cs) 0 = partT Go.Proofs.Tryz.prog 2 cs 0 := by kernel_rfl
attribute [go_sem] fd_7_0
theorem fa_7_1 (id off : Nat) : fieldAddrT Go.Proofs.Tryz.prog 7 (.ptr id off) 1 = some (.ptr id (off + 1)) := by kernel_rfl
attribute [go_sem] fa_7_1
theorem fd_7_1 (cs : List CV) : fieldT Go.Proofs.Tryz.prog 7 (.agg cs) 1 = partT Go.Proofs.Tryz.prog 3 cs 1 := by kernel_rfl
attribute [go_sem] fd_7_1
theorem fa_7_2 (id off : Nat) : fieldAddrT Go.Proofs.Tryz.prog 7 (.ptr id off) 2 = some (.ptr id (off + 2)) := by kernel_rfl
attribute [go_sem] fa_7_2
theorem fd_7_2 (cs : List CV) : fieldT Go.Proofs.Tryz.prog 7 (.agg cs) 2 = partT Go.Proofs.Tryz.prog 4 cs 2 := by kernel_rfl
attribute [go_sem] fd_7_2
theorem fa_7_3 (id off : Nat) : fieldAddrT Go.Proofs.Tryz.prog 7 (.ptr id off) 3 = some (.ptr id (off + 3)) := by kernel_rfl
attribute [go_sem] fa_7_3
theorem fd_7_3 (cs : List CV) : fieldT Go.Proofs.Tryz.prog 7 (.agg cs) 3 = partT Go.Proofs.Tryz.prog 6 cs 3 := by kernel_rfl
attribute [go_sem] fd_7_3
theorem sz_8 : szOf Go.Proofs.Tryz.prog 8 = some 4 := by kernel_rfl
attribute [go_sem] sz_8
theorem ld_8 (h : H) (id off : Nat) : loadT Go.Proofs.Tryz.prog h 8 id off = @thn _ _ (h.blk id) ⟨fun b => (b.loadN off 4).map .agg⟩ := by kernel_rfl
attribute [go_sem] ld_8
theorem st_8 (h : H) (id off : Nat) (v : CV) : storeT Go.Proofs.Tryz.prog h 8 id off v = @thn _ _ (h.blk id) ⟨fun b => cond (Nat.beq v.cells.length 4 && !b.ro) ((b.storeA off v.cells).map fun b' => h.put id (.cells b')) none⟩ := by kernel_rfl
attribute [go_sem] st_8
theorem part_8 (cs : List CV) (off : Nat) : partT Go.Proofs.Tryz.prog 8 cs off = some (.agg ((cs.drop off).take 4)) := by kernel_rfl
attribute [go_sem] part_8
theorem ze_8 : zeroT Go.Proofs.Tryz.prog 8 = some (.agg [.int .i64 0, .int .i64 0, .bool false, .int .u8 0]) := by kernel_rfl
attribute [go_sem] ze_8
theorem bt_8 (parts : List (Nat × CV)) : buildT Go.Proofs.Tryz.prog 8 parts = finB (CV.cells (.agg [.int .i64 0, .int .i64 0, .bool false, .int .u8 0])) (nth [(0, 1), (1, 1), (2, 1), (3, 1)]) parts := by kernel_rfl
attribute [go_sem] bt_8
theorem fa_8_0 (id off : Nat) : fieldAddrT Go.Proofs.Tryz.prog 8 (.ptr id off) 0 = some (.ptr id (off)) := by kernel_rfl
attribute [go_sem] fa_8_0
theorem fd_8_0 (cs : List CV) : fieldT Go.Proofs.Tryz.prog 8 (.agg cs) 0 = partT Go.Proofs.Tryz.prog 2 cs 0 := by kernel_rfl
attribute [go_sem] fd_8_0
theorem fa_8_1 (id off : Nat) : fieldAddrT Go.Proofs.Tryz.prog 8 (.ptr id off) 1 = some (.ptr id (off + 1)) := by kernel_rfl
attribute [go_sem] fa_8_1
theorem fd_8_1 (cs : List CV) : fieldT Go.Proofs.Tryz.prog 8 (.agg cs) 1 = partT Go.Proofs.Tryz.prog 3 cs 1 := by kernel_rfl
attribute [go_sem] fd_8_1
theorem fa_8_2 (id off : Nat) : fieldAddrT Go.Proofs.Tryz.prog 8 (.ptr id off) 2 = some (.ptr id (off + 2)) := by kernel_rfl
attribute [go_sem] fa_8_2
theorem fd_8_2 (cs : List CV) : fieldT Go.Proofs.Tryz.prog 8 (.agg cs) 2 = partT Go.Proofs.Tryz.prog 4 cs 2 := by kernel_rfl
attribute [go_sem] fd_8_2
theorem fa_8_3 (id off : Nat) : fieldAddrT Go.Proofs.Tryz.prog 8 (.ptr id off) 3 = some (.ptr id (off + 3)) := by kernel_rfl
attribute [go_sem] fa_8_3
theorem fd_8_3 (cs : List CV) : fieldT Go.Proofs.Tryz.prog 8 (.agg cs) 3 = partT Go.Proofs.Tryz.prog 6 cs 3 := by kernel_rfl
attribute [go_sem] fd_8_3
theorem sz_9 : szOf Go.Proofs.Tryz.prog 9 = some 1 := by kernel_rfl
attribute [go_sem] sz_9
theorem ld_9 (h : H) (id off : Nat) : loadT Go.Proofs.Tryz.prog h 9 id off = @thn _ _ (h.blk id) ⟨fun b => b.get off⟩ := by kernel_rfl
attribute [go_sem] ld_9
theorem st_9 (h : H) (id off : Nat) (v : CV) : storeT Go.Proofs.Tryz.prog h 9 id off v = @thn _ _ (h.blk id) ⟨fun b => cond (Nat.beq v.cells.length 1 && !b.ro) ((b.storeA off v.cells).map fun b' => h.put id (.cells b')) none⟩ := by kernel_rfl
attribute [go_sem] st_9
theorem part_9 (cs : List CV) (off : Nat) : partT Go.Proofs.Tryz.prog 9 cs off = nth cs off := by kernel_rfl
attribute [go_sem] part_9
theorem ze_9 : zeroT Go.Proofs.Tryz.prog 9 = some (.str []) := by kernel_rfl
attribute [go_sem] ze_9
theorem ix_9 (s : List Nat) (k : Nat) (kd : IntKind) : indexT Go.Proofs.Tryz.prog 9 (.str s) (.int kd (Int.ofNat k)) = (nth s k).map fun b => .int .u8 (Int.ofNat b) := by kernel_rfl
attribute [go_sem] ix_9
theorem len_9 (h : H) (ts : List TypeId) (az : List CV) (s : List Nat) : builtinT Go.Proofs.Tryz.prog h .len (9 :: ts) (.str s :: az) = some (.val (.int .i64 (Int.ofNat s.length))) := by kernel_rfl
attribute [go_sem] len_9
theorem sz_10 : szOf Go.Proofs.Tryz.prog 10 = some 1 := by kernel_rfl
attribute [go_sem] sz_10
theorem ld_10 (h : H) (id off : Nat) : loadT Go.Proofs.Tryz.prog h 10 id off = @thn _ _ (h.blk id) ⟨fun b => b.get off⟩ := by kernel_rfl
attribute [go_sem] ld_10
theorem st_10 (h : H) (id off : Nat) (v : CV) : storeT Go.Proofs.Tryz.prog h 10 id off v = @thn _ _ (h.blk id) ⟨fun b => cond (Nat.beq v.cells.length 1 && !b.ro) ((b.storeA off v.cells).map fun b' => h.put id (.cells b')) none⟩ := by kernel_rfl
attribute [go_sem] st_10
theorem part_10 (cs : List CV) (off : Nat) : partT Go.Proofs.Tryz.prog 10 cs off = nth cs off := by kernel_rfl
attribute [go_sem] part_10
theorem ze_10 : zeroT Go.Proofs.Tryz.prog 10 = some (.str []) := by kernel_rfl
attribute [go_sem] ze_10
theorem ix_10 (s : List Nat) (k : Nat) (kd : IntKind) : indexT Go.Proofs.Tryz.prog 10 (.str s) (.int kd (Int.ofNat k)) = (nth s k).map fun b => .int .u8 (Int.ofNat b) := by kernel_rfl
attribute [go_sem] ix_10
theorem len_10 (h : H) (ts : List TypeId) (az : List CV) (s : List Nat) : builtinT Go.Proofs.Tryz.prog h .len (10 :: ts) (.str s :: az) = some (.val (.int .i64 (Int.ofNat s.length))) := by kernel_rfl
attribute [go_sem] len_10
theorem sz_11 : szOf Go.Proofs.Tryz.prog 11 = some 1 := by kernel_rfl
attribute [go_sem] sz_11
theorem ld_11 (h : H) (id off : Nat) : loadT Go.Proofs.Tryz.prog h 11 id off = @thn _ _ (h.blk id) ⟨fun b => b.get off⟩ := by kernel_rfl
attribute [go_sem] ld_11
theorem st_11 (h : H) (id off : Nat) (v : CV) : storeT Go.Proofs.Tryz.prog h 11 id off v = @thn _ _ (h.blk id) ⟨fun b => cond (Nat.beq v.cells.length 1 && !b.ro) ((b.storeA off v.cells).map fun b' => h.put id (.cells b')) none⟩ := by kernel_rfl
attribute [go_sem] st_11
theorem part_11 (cs : List CV) (off : Nat) : partT Go.Proofs.Tryz.prog 11 cs off = nth cs off := by kernel_rfl
attribute [go_sem] part_11
theorem ze_11 : zeroT Go.Proofs.Tryz.prog 11 = some (.str []) := by kernel_rfl
attribute [go_sem] ze_11
theorem ix_11 (s : List Nat) (k : Nat) (kd : IntKind) : indexT Go.Proofs.Tryz.prog 11 (.str s) (.int kd (Int.ofNat k)) = (nth s k).map fun b => .int .u8 (Int.ofNat b) := by kernel_rfl
attribute [go_sem] ix_11
theorem len_11 (h : H) (ts : List TypeId) (az : List CV) (s : List Nat) : builtinT Go.Proofs.Tryz.prog h .len (11 :: ts) (.str s :: az) = some (.val (.int .i64 (Int.ofNat s.length))) := by kernel_rfl
attribute [go_sem] len_11
theorem sz_12 : szOf Go.Proofs.Tryz.prog 12 = some 1 := by kernel_rfl
attribute [go_sem] sz_12
theorem ld_12 (h : H) (id off : Nat) : loadT Go.Proofs.Tryz.prog h 12 id off = @thn _ _ (h.blk id) ⟨fun b => b.get off⟩ := by kernel_rfl
attribute [go_sem] ld_12
theorem st_12 (h : H) (id off : Nat) (v : CV) : storeT Go.Proofs.Tryz.prog h 12 id off v = @thn _ _ (h.blk id) ⟨fun b => cond (Nat.beq v.cells.length 1 && !b.ro) ((b.storeA off v.cells).map fun b' => h.put id (.cells b')) none⟩ := by kernel_rfl
attribute [go_sem] st_12
theorem part_12 (cs : List CV) (off : Nat) : partT Go.Proofs.Tryz.prog 12 cs off = nth cs off := by kernel_rfl
attribute [go_sem] part_12
theorem ze_12 : zeroT Go.Proofs.Tryz.prog 12 = some (.int .u64 0) := by kernel_rfl
attribute [go_sem] ze_12
theorem sz_13 : szOf Go.Proofs.Tryz.prog 13 = some 2 := by kernel_rfl
attribute [go_sem] sz_13
theorem ld_13 (h : H) (id off : Nat) : loadT Go.Proofs.Tryz.prog h 13 id off = @thn _ _ (h.blk id) ⟨fun b => (b.loadN off 2).map .agg⟩ := by kernel_rfl
attribute [go_sem] ld_13
theorem st_13 (h : H) (id off : Nat) (v : CV) : storeT Go.Proofs.Tryz.prog h 13 id off v = @thn _ _ (h.blk id) ⟨fun b => cond (Nat.beq v.cells.length 2 && !b.ro) ((b.storeA off v.cells).map fun b' => h.put id (.cells b')) none⟩ := by kernel_rfl
attribute [go_sem] st_13
theorem part_13 (cs : List CV) (off : Nat) : partT Go.Proofs.Tryz.prog 13 cs off = some (.agg ((cs.drop off).take 2)) := by kernel_rfl
attribute [go_sem] part_13
theorem ze_13 : zeroT Go.Proofs.Tryz.prog 13 = some (.agg [.str [], .int .u64 0]) := by kernel_rfl
attribute [go_sem] ze_13
theorem bt_13 (parts : List (Nat × CV)) : buildT Go.Proofs.Tryz.prog 13 parts = finB (CV.cells (.agg [.str [], .int .u64 0])) (nth [(0, 1), (1, 1)]) parts := by kernel_rfl
attribute [go_sem] bt_13
theorem fa_13_0 (id off : Nat) : fieldAddrT Go.Proofs.Tryz.prog 13 (.ptr id off) 0 = some (.ptr id (off)) := by kernel_rfl
attribute [go_sem] fa_13_0
theorem fd_13_0 (cs : List CV) : fieldT Go.Proofs.Tryz.prog 13 (.agg cs) 0 = partT Go.Proofs.Tryz.prog 9 cs 0 := by kernel_rfl
attribute [go_sem] fd_13_0
theorem fa_13_1 (id off : Nat) : fieldAddrT Go.Proofs.Tryz.prog 13 (.ptr id off) 1 = some (.ptr id (off + 1)) := by kernel_rfl
attribute [go_sem] fa_13_1
theorem fd_13_1 (cs : List CV) : fieldT Go.Proofs.Tryz.prog 13 (.agg cs) 1 = partT Go.Proofs.Tryz.prog 12 cs 1 := by kernel_rfl
attribute [go_sem] fd_13_1
theorem sz_14 : szOf Go.Proofs.Tryz.prog 14 = some 2 := by kernel_rfl
attribute [go_sem] sz_14
theorem ld_14 (h : H) (id off : Nat) : loadT Go.Proofs.Tryz.prog h 14 id off = @thn _ _ (h.blk id) ⟨fun b => (b.loadN off 2).map .agg⟩ := by kernel_rfl
attribute [go_sem] ld_14
theorem st_14 (h : H) (id off : Nat) (v : CV) : storeT Go.Proofs.Tryz.prog h 14 id off v = @thn _ _ (h.blk id) ⟨fun b => cond (Nat.beq v.cells.length 2 && !b.ro) ((b.storeA off v.cells).map fun b' => h.put id (.cells b')) none⟩ := by kernel_rfl
attribute [go_sem] st_14
theorem part_14 (cs : List CV) (off : Nat) : partT Go.Proofs.Tryz.prog 14 cs off = some (.agg ((cs.drop off).take 2)) := by kernel_rfl
attribute [go_sem] part_14
theorem ze_14 : zeroT Go.Proofs.Tryz.prog 14 = some (.agg [.str [], .int .u64 0]) := by kernel_rfl
attribute [go_sem] ze_14
theorem bt_14 (parts : List (Nat × CV)) : buildT Go.Proofs.Tryz.prog 14 parts = finB (CV.cells (.agg [.str [], .int .u64 0])) (nth [(0, 1), (1, 1)]) parts := by kernel_rfl
attribute [go_sem] bt_14
theorem fa_14_0 (id off : Nat) : fieldAddrT Go.Proofs.Tryz.prog 14 (.ptr id off) 0 = some (.ptr id (off)) := by kernel_rfl
attribute [go_sem] fa_14_0
theorem fd_14_0 (cs : List CV) : fieldT Go.Proofs.Tryz.prog 14 (.agg cs) 0 = partT Go.Proofs.Tryz.prog 9 cs 0 := by kernel_rfl
attribute [go_sem] fd_14_0
theorem fa_14_1 (id off : Nat) : fieldAddrT Go.Proofs.Tryz.prog 14 (.ptr id off) 1 = some (.ptr id (off + 1)) := by kernel_rfl
attribute [go_sem] fa_14_1
theorem fd_14_1 (cs : List CV) : fieldT Go.Proofs.Tryz.prog 14 (.agg cs) 1 = partT Go.Proofs.Tryz.prog 12 cs 1 := by kernel_rfl
attribute [go_sem] fd_14_1
theorem sz_15 : szOf Go.Proofs.Tryz.prog 15 = some 1 := by kernel_rfl
attribute [go_sem] sz_15
theorem ld_15 (h : H) (id off : Nat) : loadT Go.Proofs.Tryz.prog h 15 id off = @thn _ _ (h.blk id) ⟨fun b => b.get off⟩ := by kernel_rfl
attribute [go_sem] ld_15
theorem st_15 (h : H) (id off : Nat) (v : CV) : storeT Go.Proofs.Tryz.prog h 15 id off v = @thn _ _ (h.blk id) ⟨fun b => cond (Nat.beq v.cells.length 1 && !b.ro) ((b.storeA off v.cells).map fun b' => h.put id (.cells b')) none⟩ := by kernel_rfl
attribute [go_sem] st_15
theorem part_15 (cs : List CV) (off : Nat) : partT Go.Proofs.Tryz.prog 15 cs off = nth cs off := by kernel_rfl
attribute [go_sem] part_15
theorem ze_15 : zeroT Go.Proofs.Tryz.prog 15 = some (.nilp) := by kernel_rfl
attribute [go_sem] ze_15
theorem eq_15 (xo yo : Operand) (a b : Nat) : binT Go.Proofs.Tryz.prog .eql 15 xo yo (.ptr a b) .nilp = some (.bool false) := by kernel_rfl
attribute [go_sem] eq_15
theorem eq_15_n (xo yo : Operand) : binT Go.Proofs.Tryz.prog .eql 15 xo yo .nilp .nilp = some (.bool true) := by kernel_rfl
attribute [go_sem] eq_15_n
theorem ne_15 (xo yo : Operand) (a b : Nat) : binT Go.Proofs.Tryz.prog .neq 15 xo yo (.ptr a b) .nilp = some (.bool true) := by kernel_rfl
attribute [go_sem] ne_15
theorem ne_15_n (xo yo : Operand) : binT Go.Proofs.Tryz.prog .neq 15 xo yo .nilp .nilp = some (.bool false) := by kernel_rfl
attribute [go_sem] ne_15_n
theorem sz_16 : szOf Go.Proofs.Tryz.prog 16 = some 1 := by kernel_rfl
attribute [go_sem] sz_16
theorem ld_16 (h : H) (id off : Nat) : loadT Go.Proofs.Tryz.prog h 16 id off = @thn _ _ (h.blk id) ⟨fun b => b.get off⟩ := by kernel_rfl
attribute [go_sem] ld_16
theorem st_16 (h : H) (id off : Nat) (v : CV) : storeT Go.Proofs.Tryz.prog h 16 id off v = @thn _ _ (h.blk id) ⟨fun b => cond (Nat.beq v.cells.length 1 && !b.ro) ((b.storeA off v.cells).map fun b' => h.put id (.cells b')) none⟩ := by kernel_rfl
attribute [go_sem] st_16
theorem part_16 (cs : List CV) (off : Nat) : partT Go.Proofs.Tryz.prog 16 cs off = nth cs off := by kernel_rfl
attribute [go_sem] part_16
theorem ze_16 : zeroT Go.Proofs.Tryz.prog 16 = some (.nilp) := by kernel_rfl
attribute [go_sem] ze_16
theorem eq_16 (xo yo : Operand) (a b : Nat) : binT Go.Proofs.Tryz.prog .eql 16 xo yo (.ptr a b) .nilp = some (.bool false) := by kernel_rfl
attribute [go_sem] eq_16
theorem eq_16_n (xo yo : Operand) : binT Go.Proofs.Tryz.prog .eql 16 xo yo .nilp .nilp = some (.bool true) := by kernel_rfl
attribute [go_sem] eq_16_n
theorem ne_16 (xo yo : Operand) (a b : Nat) : binT Go.Proofs.Tryz.prog .neq 16 xo yo (.ptr a b) .nilp = some (.bool true) := by kernel_rfl
attribute [go_sem] ne_16
theorem ne_16_n (xo yo : Operand) : binT Go.Proofs.Tryz.prog .neq 16 xo yo .nilp .nilp = some (.bool false) := by kernel_rfl
attribute [go_sem] ne_16_n
theorem sz_17 : szOf Go.Proofs.Tryz.prog 17 = some 1 := by kernel_rfl
attribute [go_sem] sz_17
theorem ld_17 (h : H) (id off : Nat) : loadT Go.Proofs.Tryz.prog h 17 id off = @thn _ _ (h.blk id) ⟨fun b => b.get off⟩ := by kernel_rfl
attribute [go_sem] ld_17
theorem st_17 (h : H) (id off : Nat) (v : CV) : storeT Go.Proofs.Tryz.prog h 17 id off v = @thn _ _ (h.blk id) ⟨fun b => cond (Nat.beq v.cells.length 1 && !b.ro) ((b.storeA off v.cells).map fun b' => h.put id (.cells b')) none⟩ := by kernel_rfl
attribute [go_sem] st_17
theorem part_17 (cs : List CV) (off : Nat) : partT Go.Proofs.Tryz.prog 17 cs off = nth cs off := by kernel_rfl
attribute [go_sem] part_17
theorem ze_17 : zeroT Go.Proofs.Tryz.prog 17 = some (.nilp) := by kernel_rfl
attribute [go_sem] ze_17
theorem eq_17 (xo yo : Operand) (a b : Nat) : binT Go.Proofs.Tryz.prog .eql 17 xo yo (.ptr a b) .nilp = some (.bool false) := by kernel_rfl
attribute [go_sem] eq_17
theorem eq_17_n (xo yo : Operand) : binT Go.Proofs.Tryz.prog .eql 17 xo yo .nilp .nilp = some (.bool true) := by kernel_rfl
attribute [go_sem] eq_17_n
theorem ne_17 (xo yo : Operand) (a b : Nat) : binT Go.Proofs.Tryz.prog .neq 17 xo yo (.ptr a b) .nilp = some (.bool true) := by kernel_rfl
attribute [go_sem] ne_17
theorem ne_17_n (xo yo : Operand) : binT Go.Proofs.Tryz.prog .neq 17 xo yo .nilp .nilp = some (.bool false) := by kernel_rfl
attribute [go_sem] ne_17_n
theorem sz_18 : szOf Go.Proofs.Tryz.prog 18 = some 1 := by kernel_rfl
attribute [go_sem] sz_18
theorem ld_18 (h : H) (id off : Nat) : loadT Go.Proofs.Tryz.prog h 18 id off = @thn _ _ (h.blk id) ⟨fun b => (b.loadN off 1).map .agg⟩ := by kernel_rfl
attribute [go_sem] ld_18
theorem st_18 (h : H) (id off : Nat) (v : CV) : storeT Go.Proofs.Tryz.prog h 18 id off v = @thn _ _ (h.blk id) ⟨fun b => cond (Nat.beq v.cells.length 1 && !b.ro) ((b.storeA off v.cells).map fun b' => h.put id (.cells b')) none⟩ := by kernel_rfl
attribute [go_sem] st_18
theorem part_18 (cs : List CV) (off : Nat) : partT Go.Proofs.Tryz.prog 18 cs off = some (.agg ((cs.drop off).take 1)) := by kernel_rfl
attribute [go_sem] part_18
theorem ze_18 : zeroT Go.Proofs.Tryz.prog 18 = some (.agg [.nilp]) := by kernel_rfl
attribute [go_sem] ze_18
theorem bt_18 (parts : List (Nat × CV)) : buildT Go.Proofs.Tryz.prog 18 parts = finB (CV.cells (.agg [.nilp])) (nth [(0, 1)]) parts := by kernel_rfl
attribute [go_sem] bt_18
theorem fa_18_0 (id off : Nat) : fieldAddrT Go.Proofs.Tryz.prog 18 (.ptr id off) 0 = some (.ptr id (off)) := by kernel_rfl
attribute [go_sem] fa_18_0
theorem fd_18_0 (cs : List CV) : fieldT Go.Proofs.Tryz.prog 18 (.agg cs) 0 = partT Go.Proofs.Tryz.prog 17 cs 0 := by kernel_rfl
attribute [go_sem] fd_18_0
theorem sz_19 : szOf Go.Proofs.Tryz.prog 19 = some 1 := by kernel_rfl
attribute [go_sem] sz_19
theorem ld_19 (h : H) (id off : Nat) : loadT Go.Proofs.Tryz.prog h 19 id off = @thn _ _ (h.blk id) ⟨fun b => (b.loadN off 1).map .agg⟩ := by kernel_rfl
attribute [go_sem] ld_19
theorem st_19 (h : H) (id off : Nat) (v : CV) : storeT Go.Proofs.Tryz.prog h 19 id off v = @thn _ _ (h.blk id) ⟨fun b => cond (Nat.beq v.cells.length 1 && !b.ro) ((b.storeA off v.cells).map fun b' => h.put id (.cells b')) none⟩ := by kernel_rfl
attribute [go_sem] st_19
theorem part_19 (cs : List CV) (off : Nat) : partT Go.Proofs.Tryz.prog 19 cs off = some (.agg ((cs.drop off).take 1)) := by kernel_rfl
attribute [go_sem] part_19
theorem ze_19 : zeroT Go.Proofs.Tryz.prog 19 = some (.agg [.nilp]) := by kernel_rfl
attribute [go_sem] ze_19
theorem bt_19 (parts : List (Nat × CV)) : buildT Go.Proofs.Tryz.prog 19 parts = finB (CV.cells (.agg [.nilp])) (nth [(0, 1)]) parts := by kernel_rfl
attribute [go_sem] bt_19
theorem fa_19_0 (id off : Nat) : fieldAddrT Go.Proofs.Tryz.prog 19 (.ptr id off) 0 = some (.ptr id (off)) := by kernel_rfl
attribute [go_sem] fa_19_0
theorem fd_19_0 (cs : List CV) : fieldT Go.Proofs.Tryz.prog 19 (.agg cs) 0 = partT Go.Proofs.Tryz.prog 17 cs 0 := by kernel_rfl
attribute [go_sem] fd_19_0
theorem sz_20 : szOf Go.Proofs.Tryz.prog 20 = some 1 := by kernel_rfl
attribute [go_sem] sz_20
theorem ld_20 (h : H) (id off : Nat) : loadT Go.Proofs.Tryz.prog h 20 id off = @thn _ _ (h.blk id) ⟨fun b => b.get off⟩ := by kernel_rfl
attribute [go_sem] ld_20
theorem st_20 (h : H) (id off : Nat) (v : CV) : storeT Go.Proofs.Tryz.prog h 20 id off v = @thn _ _ (h.blk id) ⟨fun b => cond (Nat.beq v.cells.length 1 && !b.ro) ((b.storeA off v.cells).map fun b' => h.put id (.cells b')) none⟩ := by kernel_rfl
attribute [go_sem] st_20
theorem part_20 (cs : List CV) (off : Nat) : partT Go.Proofs.Tryz.prog 20 cs off = nth cs off := by kernel_rfl
attribute [go_sem] part_20
theorem ze_20 : zeroT Go.Proofs.Tryz.prog 20 = some (.nili) := by kernel_rfl
attribute [go_sem] ze_20
theorem sz_21 : szOf Go.Proofs.Tryz.prog 21 = some 1 := by kernel_rfl
attribute [go_sem] sz_21
theorem ld_21 (h : H) (id off : Nat) : loadT Go.Proofs.Tryz.prog h 21 id off = @thn _ _ (h.blk id) ⟨fun b => b.get off⟩ := by kernel_rfl
attribute [go_sem] ld_21
theorem st_21 (h : H) (id off : Nat) (v : CV) : storeT Go.Proofs.Tryz.prog h 21 id off v = @thn _ _ (h.blk id) ⟨fun b => cond (Nat.beq v.cells.length 1 && !b.ro) ((b.storeA off v.cells).map fun b' => h.put id (.cells b')) none⟩ := by kernel_rfl
attribute [go_sem] st_21
theorem part_21 (cs : List CV) (off : Nat) : partT Go.Proofs.Tryz.prog 21 cs off = nth cs off := by kernel_rfl
attribute [go_sem] part_21
theorem ze_21 : zeroT Go.Proofs.Tryz.prog 21 = some (.int .i32 0) := by kernel_rfl
attribute [go_sem] ze_21
theorem sz_24 : szOf Go.Proofs.Tryz.prog 24 = some 1 := by kernel_rfl
attribute [go_sem] sz_24
theorem ld_24 (h : H) (id off : Nat) : loadT Go.Proofs.Tryz.prog h 24 id off = @thn _ _ (h.blk id) ⟨fun b => b.get off⟩ := by kernel_rfl
attribute [go_sem] ld_24
theorem st_24 (h : H) (id off : Nat) (v : CV) : storeT Go.Proofs.Tryz.prog h 24 id off v = @thn _ _ (h.blk id) ⟨fun b => cond (Nat.beq v.cells.length 1 && !b.ro) ((b.storeA off v.cells).map fun b' => h.put id (.cells b')) none⟩ := by kernel_rfl
attribute [go_sem] st_24
theorem part_24 (cs : List CV) (off : Nat) : partT Go.Proofs.Tryz.prog 24 cs off = nth cs off := by kernel_rfl
attribute [go_sem] part_24
theorem ze_24 : zeroT Go.Proofs.Tryz.prog 24 = some (.int .u64 0) := by kernel_rfl
attribute [go_sem] ze_24
theorem sz_36 : szOf Go.Proofs.Tryz.prog 36 = some 1 := by kernel_rfl
attribute [go_sem] sz_36
theorem ld_36 (h : H) (id off : Nat) : loadT Go.Proofs.Tryz.prog h 36 id off = @thn _ _ (h.blk id) ⟨fun b => b.get off⟩ := by kernel_rfl
attribute [go_sem] ld_36
theorem st_36 (h : H) (id off : Nat) (v : CV) : storeT Go.Proofs.Tryz.prog h 36 id off v = @thn _ _ (h.blk id) ⟨fun b => cond (Nat.beq v.cells.length 1 && !b.ro) ((b.storeA off v.cells).map fun b' => h.put id (.cells b')) none⟩ := by kernel_rfl
attribute [go_sem] st_36
theorem part_36 (cs : List CV) (off : Nat) : partT Go.Proofs.Tryz.prog 36 cs off = nth cs off := by kernel_rfl
attribute [go_sem] part_36
theorem ze_36 : zeroT Go.Proofs.Tryz.prog 36 = some (.int .i64 0) := by kernel_rfl
attribute [go_sem] ze_36
theorem sz_49 : szOf Go.Proofs.Tryz.prog 49 = some 1 := by kernel_rfl
attribute [go_sem] sz_49
theorem ld_49 (h : H) (id off : Nat) : loadT Go.Proofs.Tryz.prog h 49 id off = @thn _ _ (h.blk id) ⟨fun b => b.get off⟩ := by kernel_rfl
attribute [go_sem] ld_49
theorem st_49 (h : H) (id off : Nat) (v : CV) : storeT Go.Proofs.Tryz.prog h 49 id off v = @thn _ _ (h.blk id) ⟨fun b => cond (Nat.beq v.cells.length 1 && !b.ro) ((b.storeA off v.cells).map fun b' => h.put id (.cells b')) none⟩ := by kernel_rfl
attribute [go_sem] st_49
theorem part_49 (cs : List CV) (off : Nat) : partT Go.Proofs.Tryz.prog 49 cs off = nth cs off := by kernel_rfl
attribute [go_sem] part_49
theorem ze_49 : zeroT Go.Proofs.Tryz.prog 49 = some (.nilf) := by kernel_rfl
attribute [go_sem] ze_49
theorem eq_49 (xo yo : Operand) (f : Fn) (a b : List CV) : binT Go.Proofs.Tryz.prog .eql 49 xo yo (.fn f a b) .nilf = some (.bool false) := by kernel_rfl
attribute [go_sem] eq_49
theorem eq_49_n (xo yo : Operand) : binT Go.Proofs.Tryz.prog .eql 49 xo yo .nilf .nilf = some (.bool true) := by kernel_rfl
attribute [go_sem] eq_49_n
theorem ne_49 (xo yo : Operand) (f : Fn) (a b : List CV) : binT Go.Proofs.Tryz.prog .neq 49 xo yo (.fn f a b) .nilf = some (.bool true) := by kernel_rfl
attribute [go_sem] ne_49
theorem ne_49_n (xo yo : Operand) : binT Go.Proofs.Tryz.prog .neq 49 xo yo .nilf .nilf = some (.bool false) := by kernel_rfl
attribute [go_sem] ne_49_n
theorem sz_52 : szOf Go.Proofs.Tryz.prog 52 = some 1 := by kernel_rfl
attribute [go_sem] sz_52
theorem ld_52 (h : H) (id off : Nat) : loadT Go.Proofs.Tryz.prog h 52 id off = @thn _ _ (h.blk id) ⟨fun b => b.get off⟩ := by kernel_rfl
attribute [go_sem] ld_52
theorem st_52 (h : H) (id off : Nat) (v : CV) : storeT Go.Proofs.Tryz.prog h 52 id off v = @thn _ _ (h.blk id) ⟨fun b => cond (Nat.beq v.cells.length 1 && !b.ro) ((b.storeA off v.cells).map fun b' => h.put id (.cells b')) none⟩ := by kernel_rfl
attribute [go_sem] st_52
theorem part_52 (cs : List CV) (off : Nat) : partT Go.Proofs.Tryz.prog 52 cs off = nth cs off := by kernel_rfl
attribute [go_sem] part_52
theorem ze_52 : zeroT Go.Proofs.Tryz.prog 52 = some (.nils) := by kernel_rfl
attribute [go_sem] ze_52
theorem ia_52 (id off len k : Nat) (c : Cap) (kd : IntKind) : indexAddrT Go.Proofs.Tryz.prog 52 (.sl id off len c) (.int kd (Int.ofNat k)) = cond (Nat.blt k len) (some (.ptr id (off + k * 1))) none := by kernel_rfl
attribute [go_sem] ia_52
theorem len_52 (h : H) (id off len : Nat) (c : Cap) (ts : List TypeId) (az : List CV) : builtinT Go.Proofs.Tryz.prog h .len (52 :: ts) (.sl id off len c :: az) = some (.val (.int .i64 (Int.ofNat len))) := by kernel_rfl
attribute [go_sem] len_52
theorem len_52_n (h : H) (ts : List TypeId) (az : List CV) : builtinT Go.Proofs.Tryz.prog h .len (52 :: ts) (.nils :: az) = some (.val (.int .i64 0)) := by kernel_rfl
attribute [go_sem] len_52_n
theorem app_52 (h : H) (s : CV) (id off len : Nat) (c : Cap) (ts : List TypeId) (az : List CV) : builtinT Go.Proofs.Tryz.prog h .append (52 :: 52 :: ts) (s :: .sl id off len c :: az) = uv (appendT Go.Proofs.Tryz.prog h 52 s (.sl id off len c)) := by kernel_rfl
attribute [go_sem] app_52
theorem app_52_n (h : H) (s : CV) (ts : List TypeId) (az : List CV) : builtinT Go.Proofs.Tryz.prog h .append (52 :: 52 :: ts) (s :: .nils :: az) = uv (appendT Go.Proofs.Tryz.prog h 52 s .nils) := by kernel_rfl
attribute [go_sem] app_52_n
theorem ap_52 (h : H) (s : CV) (id off len : Nat) (c : Cap) : appendT Go.Proofs.Tryz.prog h 52 s (.sl id off len c) = appS h 1 8 1 s len (firstC h 1 len (.sl id off len c)) := by kernel_rfl
attribute [go_sem] ap_52
theorem ap_52_n (h : H) (s : CV) : appendT Go.Proofs.Tryz.prog h 52 s .nils = appS h 1 8 1 s 0 (some []) := by kernel_rfl
attribute [go_sem] ap_52_n
theorem ap_52_z (h : H) (s : CV) (a b c d : Nat) : appendT Go.Proofs.Tryz.prog h 52 s (.sl0 a b c d) = appS h 1 8 1 s 0 (some []) := by kernel_rfl
attribute [go_sem] ap_52_z
theorem bs_52 (h : H) (n : Nat) (parts : List (Nat × CV)) : buildSliceT Go.Proofs.Tryz.prog h 52 n parts = bslS h 1 (CV.cells (.int .i64 0)) n parts := by kernel_rfl
attribute [go_sem] bs_52
theorem ms_52 (h : H) (l c : Nat) (k k' : IntKind) : makeSliceT Go.Proofs.Tryz.prog h 52 (.int k (Int.ofNat l)) (.int k' (Int.ofNat c)) = mkS h 1 8 (zeroT Go.Proofs.Tryz.prog 3) l c := by kernel_rfl
attribute [go_sem] ms_52
theorem eq_52 (xo yo : Operand) (a b c : Nat) (d : Cap) : binT Go.Proofs.Tryz.prog .eql 52 xo yo (.sl a b c d) .nils = some (.bool false) := by kernel_rfl
attribute [go_sem] eq_52
theorem eq_52_n (xo yo : Operand) : binT Go.Proofs.Tryz.prog .eql 52 xo yo .nils .nils = some (.bool true) := by kernel_rfl
attribute [go_sem] eq_52_n
theorem eq_52_z (xo yo : Operand) (a b c d : Nat) : binT Go.Proofs.Tryz.prog .eql 52 xo yo (.sl0 a b c d) .nils = some (.bool false) := by kernel_rfl
attribute [go_sem] eq_52_z
theorem ne_52 (xo yo : Operand) (a b c : Nat) (d : Cap) : binT Go.Proofs.Tryz.prog .neq 52 xo yo (.sl a b c d) .nils = some (.bool true) := by kernel_rfl
attribute [go_sem] ne_52
theorem ne_52_n (xo yo : Operand) : binT Go.Proofs.Tryz.prog .neq 52 xo yo .nils .nils = some (.bool false) := by kernel_rfl
attribute [go_sem] ne_52_n
theorem ne_52_z (xo yo : Operand) (a b c d : Nat) : binT Go.Proofs.Tryz.prog .neq 52 xo yo (.sl0 a b c d) .nils = some (.bool true) := by kernel_rfl
attribute [go_sem] ne_52_z
theorem len_52_z (h : H) (a b c d : Nat) (ts : List TypeId) (az : List CV) : builtinT Go.Proofs.Tryz.prog h .len (52 :: ts) (.sl0 a b c d :: az) = some (.val (.int .i64 0)) := by kernel_rfl
attribute [go_sem] len_52_z
theorem app_52_z (h : H) (s : CV) (a b c d : Nat) (ts : List TypeId) (az : List CV) : builtinT Go.Proofs.Tryz.prog h .append (52 :: 52 :: ts) (s :: .sl0 a b c d :: az) = uv (appendT Go.Proofs.Tryz.prog h 52 s (.sl0 a b c d)) := by kernel_rfl
attribute [go_sem] app_52_z
theorem sz_54 : szOf Go.Proofs.Tryz.prog 54 = some 1 := by kernel_rfl
attribute [go_sem] sz_54
theorem ld_54 (h : H) (id off : Nat) : loadT Go.Proofs.Tryz.prog h 54 id off = @thn _ _ (h.blk id) ⟨fun b => b.get off⟩ := by kernel_rfl
attribute [go_sem] ld_54
theorem st_54 (h : H) (id off : Nat) (v : CV) : storeT Go.Proofs.Tryz.prog h 54 id off v = @thn _ _ (h.blk id) ⟨fun b => cond (Nat.beq v.cells.length 1 && !b.ro) ((b.storeA off v.cells).map fun b' => h.put id (.cells b')) none⟩ := by kernel_rfl
attribute [go_sem] st_54
theorem part_54 (cs : List CV) (off : Nat) : partT Go.Proofs.Tryz.prog 54 cs off = nth cs off := by kernel_rfl
attribute [go_sem] part_54
theorem ze_54 : zeroT Go.Proofs.Tryz.prog 54 = some (.nilf) := by kernel_rfl
attribute [go_sem] ze_54
theorem eq_54 (xo yo : Operand) (f : Fn) (a b : List CV) : binT Go.Proofs.Tryz.prog .eql 54 xo yo (.fn f a b) .nilf = some (.bool false) := by kernel_rfl
attribute [go_sem] eq_54
theorem eq_54_n (xo yo : Operand) : binT Go.Proofs.Tryz.prog .eql 54 xo yo .nilf .nilf = some (.bool true) := by kernel_rfl
attribute [go_sem] eq_54_n
theorem ne_54 (xo yo : Operand) (f : Fn) (a b : List CV) : binT Go.Proofs.Tryz.prog .neq 54 xo yo (.fn f a b) .nilf = some (.bool true) := by kernel_rfl
attribute [go_sem] ne_54
theorem ne_54_n (xo yo : Operand) : binT Go.Proofs.Tryz.prog .neq 54 xo yo .nilf .nilf = some (.bool false) := by kernel_rfl
attribute [go_sem] ne_54_n
theorem sz_63 : szOf Go.Proofs.Tryz.prog 63 = some 1 := by kernel_rfl
attribute [go_sem] sz_63
theorem ld_63 (h : H) (id off : Nat) : loadT Go.Proofs.Tryz.prog h 63 id off = @thn _ _ (h.blk id) ⟨fun b => b.get off⟩ := by kernel_rfl
attribute [go_sem] ld_63
theorem st_63 (h : H) (id off : Nat) (v : CV) : storeT Go.Proofs.Tryz.prog h 63 id off v = @thn _ _ (h.blk id) ⟨fun b => cond (Nat.beq v.cells.length 1 && !b.ro) ((b.storeA off v.cells).map fun b' => h.put id (.cells b')) none⟩ := by kernel_rfl
attribute [go_sem] st_63
theorem part_63 (cs : List CV) (off : Nat) : partT Go.Proofs.Tryz.prog 63 cs off = nth cs off := by kernel_rfl
attribute [go_sem] part_63
theorem ze_63 : zeroT Go.Proofs.Tryz.prog 63 = some (.nilf) := by kernel_rfl
attribute [go_sem] ze_63
theorem eq_63 (xo yo : Operand) (f : Fn) (a b : List CV) : binT Go.Proofs.Tryz.prog .eql 63 xo yo (.fn f a b) .nilf = some (.bool false) := by kernel_rfl
attribute [go_sem] eq_63
theorem eq_63_n (xo yo : Operand) : binT Go.Proofs.Tryz.prog .eql 63 xo yo .nilf .nilf = some (.bool true) := by kernel_rfl
attribute [go_sem] eq_63_n
theorem ne_63 (xo yo : Operand) (f : Fn) (a b : List CV) : binT Go.Proofs.Tryz.prog .neq 63 xo yo (.fn f a b) .nilf = some (.bool true) := by kernel_rfl
attribute [go_sem] ne_63
theorem ne_63_n (xo yo : Operand) : binT Go.Proofs.Tryz.prog .neq 63 xo yo .nilf .nilf = some (.bool false) := by kernel_rfl
attribute [go_sem] ne_63_n
theorem sz_88 : szOf Go.Proofs.Tryz.prog 88 = some 1 := by kernel_rfl
attribute [go_sem] sz_88
theorem ld_88 (h : H) (id off : Nat) : loadT Go.Proofs.Tryz.prog h 88 id off = @thn _ _ (h.blk id) ⟨fun b => b.get off⟩ := by kernel_rfl
attribute [go_sem] ld_88
theorem st_88 (h : H) (id off : Nat) (v : CV) : storeT Go.Proofs.Tryz.prog h 88 id off v = @thn _ _ (h.blk id) ⟨fun b => cond (Nat.beq v.cells.length 1 && !b.ro) ((b.storeA off v.cells).map fun b' => h.put id (.cells b')) none⟩ := by kernel_rfl
attribute [go_sem] st_88
theorem part_88 (cs : List CV) (off : Nat) : partT Go.Proofs.Tryz.prog 88 cs off = nth cs off := by kernel_rfl
attribute [go_sem] part_88
theorem ze_88 : zeroT Go.Proofs.Tryz.prog 88 = some (.nilf) := by kernel_rfl
attribute [go_sem] ze_88
theorem eq_88 (xo yo : Operand) (f : Fn) (a b : List CV) : binT Go.Proofs.Tryz.prog .eql 88 xo yo (.fn f a b) .nilf = some (.bool false) := by kernel_rfl
attribute [go_sem] eq_88
theorem eq_88_n (xo yo : Operand) : binT Go.Proofs.Tryz.prog .eql 88 xo yo .nilf .nilf = some (.bool true) := by kernel_rfl
attribute [go_sem] eq_88_n
theorem ne_88 (xo yo : Operand) (f : Fn) (a b : List CV) : binT Go.Proofs.Tryz.prog .neq 88 xo yo (.fn f a b) .nilf = some (.bool true) := by kernel_rfl
attribute [go_sem] ne_88
theorem ne_88_n (xo yo : Operand) : binT Go.Proofs.Tryz.prog .neq 88 xo yo .nilf .nilf = some (.bool false) := by kernel_rfl
attribute [go_sem] ne_88_n
theorem sz_123 : szOf Go.Proofs.Tryz.prog 123 = some 1 := by kernel_rfl
attribute [go_sem] sz_123
theorem ld_123 (h : H) (id off : Nat) : loadT Go.Proofs.Tryz.prog h 123 id off = @thn _ _ (h.blk id) ⟨fun b => b.get off⟩ := by kernel_rfl
attribute [go_sem] ld_123
theorem st_123 (h : H) (id off : Nat) (v : CV) : storeT Go.Proofs.Tryz.prog h 123 id off v = @thn _ _ (h.blk id) ⟨fun b => cond (Nat.beq v.cells.length 1 && !b.ro) ((b.storeA off v.cells).map fun b' => h.put id (.cells b')) none⟩ := by kernel_rfl
attribute [go_sem] st_123
theorem part_123 (cs : List CV) (off : Nat) : partT Go.Proofs.Tryz.prog 123 cs off = nth cs off := by kernel_rfl
attribute [go_sem] part_123
theorem ze_123 : zeroT Go.Proofs.Tryz.prog 123 = some (.nils) := by kernel_rfl
attribute [go_sem] ze_123
theorem ia_123 (id off len k : Nat) (c : Cap) (kd : IntKind) : indexAddrT Go.Proofs.Tryz.prog 123 (.sl id off len c) (.int kd (Int.ofNat k)) = cond (Nat.blt k len) (some (.ptr id (off + k * 1))) none := by kernel_rfl
attribute [go_sem] ia_123
theorem len_123 (h : H) (id off len : Nat) (c : Cap) (ts : List TypeId) (az : List CV) : builtinT Go.Proofs.Tryz.prog h .len (123 :: ts) (.sl id off len c :: az) = some (.val (.int .i64 (Int.ofNat len))) := by kernel_rfl
attribute [go_sem] len_123
theorem len_123_n (h : H) (ts : List TypeId) (az : List CV) : builtinT Go.Proofs.Tryz.prog h .len (123 :: ts) (.nils :: az) = some (.val (.int .i64 0)) := by kernel_rfl
attribute [go_sem] len_123_n
theorem app_123 (h : H) (s : CV) (id off len : Nat) (c : Cap) (ts : List TypeId) (az : List CV) : builtinT Go.Proofs.Tryz.prog h .append (123 :: 123 :: ts) (s :: .sl id off len c :: az) = uv (appendT Go.Proofs.Tryz.prog h 123 s (.sl id off len c)) := by kernel_rfl
attribute [go_sem] app_123
theorem app_123_n (h : H) (s : CV) (ts : List TypeId) (az : List CV) : builtinT Go.Proofs.Tryz.prog h .append (123 :: 123 :: ts) (s :: .nils :: az) = uv (appendT Go.Proofs.Tryz.prog h 123 s .nils) := by kernel_rfl
attribute [go_sem] app_123_n
theorem ap_123 (h : H) (s : CV) (id off len : Nat) (c : Cap) : appendT Go.Proofs.Tryz.prog h 123 s (.sl id off len c) = appS h 1 1 1 s len (firstC h 1 len (.sl id off len c)) := by kernel_rfl
attribute [go_sem] ap_123
theorem ap_123_n (h : H) (s : CV) : appendT Go.Proofs.Tryz.prog h 123 s .nils = appS h 1 1 1 s 0 (some []) := by kernel_rfl
attribute [go_sem] ap_123_n
theorem ap_123_z (h : H) (s : CV) (a b c d : Nat) : appendT Go.Proofs.Tryz.prog h 123 s (.sl0 a b c d) = appS h 1 1 1 s 0 (some []) := by kernel_rfl
attribute [go_sem] ap_123_z
theorem bs_123 (h : H) (n : Nat) (parts : List (Nat × CV)) : buildSliceT Go.Proofs.Tryz.prog h 123 n parts = bslS h 1 (CV.cells (.int .u8 0)) n parts := by kernel_rfl
attribute [go_sem] bs_123
theorem ms_123 (h : H) (l c : Nat) (k k' : IntKind) : makeSliceT Go.Proofs.Tryz.prog h 123 (.int k (Int.ofNat l)) (.int k' (Int.ofNat c)) = mkS h 1 1 (zeroT Go.Proofs.Tryz.prog 5) l c := by kernel_rfl
attribute [go_sem] ms_123
theorem eq_123 (xo yo : Operand) (a b c : Nat) (d : Cap) : binT Go.Proofs.Tryz.prog .eql 123 xo yo (.sl a b c d) .nils = some (.bool false) := by kernel_rfl
attribute [go_sem] eq_123
theorem eq_123_n (xo yo : Operand) : binT Go.Proofs.Tryz.prog .eql 123 xo yo .nils .nils = some (.bool true) := by kernel_rfl
attribute [go_sem] eq_123_n
theorem eq_123_z (xo yo : Operand) (a b c d : Nat) : binT Go.Proofs.Tryz.prog .eql 123 xo yo (.sl0 a b c d) .nils = some (.bool false) := by kernel_rfl
attribute [go_sem] eq_123_z
theorem ne_123 (xo yo : Operand) (a b c : Nat) (d : Cap) : binT Go.Proofs.Tryz.prog .neq 123 xo yo (.sl a b c d) .nils = some (.bool true) := by kernel_rfl
attribute [go_sem] ne_123
theorem ne_123_n (xo yo : Operand) : binT Go.Proofs.Tryz.prog .neq 123 xo yo .nils .nils = some (.bool false) := by kernel_rfl
attribute [go_sem] ne_123_n
theorem ne_123_z (xo yo : Operand) (a b c d : Nat) : binT Go.Proofs.Tryz.prog .neq 123 xo yo (.sl0 a b c d) .nils = some (.bool true) := by kernel_rfl
attribute [go_sem] ne_123_z
theorem len_123_z (h : H) (a b c d : Nat) (ts : List TypeId) (az : List CV) : builtinT Go.Proofs.Tryz.prog h .len (123 :: ts) (.sl0 a b c d :: az) = some (.val (.int .i64 0)) := by kernel_rfl
attribute [go_sem] len_123_z
theorem app_123_z (h : H) (s : CV) (a b c d : Nat) (ts : List TypeId) (az : List CV) : builtinT Go.Proofs.Tryz.prog h .append (123 :: 123 :: ts) (s :: .sl0 a b c d :: az) = uv (appendT Go.Proofs.Tryz.prog h 123 s (.sl0 a b c d)) := by kernel_rfl
attribute [go_sem] app_123_z
theorem sz_126 : szOf Go.Proofs.Tryz.prog 126 = some 1 := by kernel_rfl
attribute [go_sem] sz_126
theorem ld_126 (h : H) (id off : Nat) : loadT Go.Proofs.Tryz.prog h 126 id off = @thn _ _ (h.blk id) ⟨fun b => b.get off⟩ := by kernel_rfl
attribute [go_sem] ld_126
theorem st_126 (h : H) (id off : Nat) (v : CV) : storeT Go.Proofs.Tryz.prog h 126 id off v = @thn _ _ (h.blk id) ⟨fun b => cond (Nat.beq v.cells.length 1 && !b.ro) ((b.storeA off v.cells).map fun b' => h.put id (.cells b')) none⟩ := by kernel_rfl
attribute [go_sem] st_126
theorem part_126 (cs : List CV) (off : Nat) : partT Go.Proofs.Tryz.prog 126 cs off = nth cs off := by kernel_rfl
attribute [go_sem] part_126
theorem ze_126 : zeroT Go.Proofs.Tryz.prog 126 = some (.nilp) := by kernel_rfl
attribute [go_sem] ze_126
theorem eq_126 (xo yo : Operand) (a b : Nat) : binT Go.Proofs.Tryz.prog .eql 126 xo yo (.ptr a b) .nilp = some (.bool false) := by kernel_rfl
attribute [go_sem] eq_126
theorem eq_126_n (xo yo : Operand) : binT Go.Proofs.Tryz.prog .eql 126 xo yo .nilp .nilp = some (.bool true) := by kernel_rfl
attribute [go_sem] eq_126_n
theorem ne_126 (xo yo : Operand) (a b : Nat) : binT Go.Proofs.Tryz.prog .neq 126 xo yo (.ptr a b) .nilp = some (.bool true) := by kernel_rfl
attribute [go_sem] ne_126
theorem ne_126_n (xo yo : Operand) : binT Go.Proofs.Tryz.prog .neq 126 xo yo .nilp .nilp = some (.bool false) := by kernel_rfl
attribute [go_sem] ne_126_n
theorem sz_127 : szOf Go.Proofs.Tryz.prog 127 = some 2 := by kernel_rfl
attribute [go_sem] sz_127
theorem ld_127 (h : H) (id off : Nat) : loadT Go.Proofs.Tryz.prog h 127 id off = @thn _ _ (h.blk id) ⟨fun b => (b.loadN off 2).map .agg⟩ := by kernel_rfl
attribute [go_sem] ld_127
theorem st_127 (h : H) (id off : Nat) (v : CV) : storeT Go.Proofs.Tryz.prog h 127 id off v = @thn _ _ (h.blk id) ⟨fun b => cond (Nat.beq v.cells.length 2 && !b.ro) ((b.storeA off v.cells).map fun b' => h.put id (.cells b')) none⟩ := by kernel_rfl
attribute [go_sem] st_127
theorem part_127 (cs : List CV) (off : Nat) : partT Go.Proofs.Tryz.prog 127 cs off = some (.agg ((cs.drop off).take 2)) := by kernel_rfl
attribute [go_sem] part_127
theorem ze_127 : zeroT Go.Proofs.Tryz.prog 127 = some (.agg [.nils, .bool false]) := by kernel_rfl
attribute [go_sem] ze_127
theorem bt_127 (parts : List (Nat × CV)) : buildT Go.Proofs.Tryz.prog 127 parts = finB (CV.cells (.agg [.nils, .bool false])) (nth [(0, 1), (1, 1)]) parts := by kernel_rfl
attribute [go_sem] bt_127
theorem fa_127_0 (id off : Nat) : fieldAddrT Go.Proofs.Tryz.prog 127 (.ptr id off) 0 = some (.ptr id (off)) := by kernel_rfl
attribute [go_sem] fa_127_0
theorem fd_127_0 (cs : List CV) : fieldT Go.Proofs.Tryz.prog 127 (.agg cs) 0 = partT Go.Proofs.Tryz.prog 123 cs 0 := by kernel_rfl
attribute [go_sem] fd_127_0
theorem fa_127_1 (id off : Nat) : fieldAddrT Go.Proofs.Tryz.prog 127 (.ptr id off) 1 = some (.ptr id (off + 1)) := by kernel_rfl
attribute [go_sem] fa_127_1
theorem fd_127_1 (cs : List CV) : fieldT Go.Proofs.Tryz.prog 127 (.agg cs) 1 = partT Go.Proofs.Tryz.prog 4 cs 1 := by kernel_rfl
attribute [go_sem] fd_127_1
theorem sz_128 : szOf Go.Proofs.Tryz.prog 128 = some 2 := by kernel_rfl
attribute [go_sem] sz_128
theorem ld_128 (h : H) (id off : Nat) : loadT Go.Proofs.Tryz.prog h 128 id off = @thn _ _ (h.blk id) ⟨fun b => (b.loadN off 2).map .agg⟩ := by kernel_rfl
attribute [go_sem] ld_128
theorem st_128 (h : H) (id off : Nat) (v : CV) : storeT Go.Proofs.Tryz.prog h 128 id off v = @thn _ _ (h.blk id) ⟨fun b => cond (Nat.beq v.cells.length 2 && !b.ro) ((b.storeA off v.cells).map fun b' => h.put id (.cells b')) none⟩ := by kernel_rfl
attribute [go_sem] st_128
theorem part_128 (cs : List CV) (off : Nat) : partT Go.Proofs.Tryz.prog 128 cs off = some (.agg ((cs.drop off).take 2)) := by kernel_rfl
attribute [go_sem] part_128
theorem ze_128 : zeroT Go.Proofs.Tryz.prog 128 = some (.agg [.nils, .bool false]) := by kernel_rfl
attribute [go_sem] ze_128
theorem bt_128 (parts : List (Nat × CV)) : buildT Go.Proofs.Tryz.prog 128 parts = finB (CV.cells (.agg [.nils, .bool false])) (nth [(0, 1), (1, 1)]) parts := by kernel_rfl
attribute [go_sem] bt_128
theorem fa_128_0 (id off : Nat) : fieldAddrT Go.Proofs.Tryz.prog 128 (.ptr id off) 0 = some (.ptr id (off)) := by kernel_rfl
attribute [go_sem] fa_128_0
theorem fd_128_0 (cs : List CV) : fieldT Go.Proofs.Tryz.prog 128 (.agg cs) 0 = partT Go.Proofs.Tryz.prog 123 cs 0 := by kernel_rfl
attribute [go_sem] fd_128_0
theorem fa_128_1 (id off : Nat) : fieldAddrT Go.Proofs.Tryz.prog 128 (.ptr id off) 1 = some (.ptr id (off + 1)) := by kernel_rfl
attribute [go_sem] fa_128_1
theorem fd_128_1 (cs : List CV) : fieldT Go.Proofs.Tryz.prog 128 (.agg cs) 1 = partT Go.Proofs.Tryz.prog 4 cs 1 := by kernel_rfl
attribute [go_sem] fd_128_1
theorem sz_129 : szOf Go.Proofs.Tryz.prog 129 = some 1 := by kernel_rfl
attribute [go_sem] sz_129
theorem ld_129 (h : H) (id off : Nat) : loadT Go.Proofs.Tryz.prog h 129 id off = @thn _ _ (h.blk id) ⟨fun b => b.get off⟩ := by kernel_rfl
attribute [go_sem] ld_129
theorem st_129 (h : H) (id off : Nat) (v : CV) : storeT Go.Proofs.Tryz.prog h 129 id off v = @thn _ _ (h.blk id) ⟨fun b => cond (Nat.beq v.cells.length 1 && !b.ro) ((b.storeA off v.cells).map fun b' => h.put id (.cells b')) none⟩ := by kernel_rfl
attribute [go_sem] st_129
theorem part_129 (cs : List CV) (off : Nat) : partT Go.Proofs.Tryz.prog 129 cs off = nth cs off := by kernel_rfl
attribute [go_sem] part_129
theorem ze_129 : zeroT Go.Proofs.Tryz.prog 129 = some (.nilf) := by kernel_rfl
attribute [go_sem] ze_129
theorem eq_129 (xo yo : Operand) (f : Fn) (a b : List CV) : binT Go.Proofs.Tryz.prog .eql 129 xo yo (.fn f a b) .nilf = some (.bool false) := by kernel_rfl
attribute [go_sem] eq_129
theorem eq_129_n (xo yo : Operand) : binT Go.Proofs.Tryz.prog .eql 129 xo yo .nilf .nilf = some (.bool true) := by kernel_rfl
attribute [go_sem] eq_129_n
theorem ne_129 (xo yo : Operand) (f : Fn) (a b : List CV) : binT Go.Proofs.Tryz.prog .neq 129 xo yo (.fn f a b) .nilf = some (.bool true) := by kernel_rfl
attribute [go_sem] ne_129
theorem ne_129_n (xo yo : Operand) : binT Go.Proofs.Tryz.prog .neq 129 xo yo .nilf .nilf = some (.bool false) := by kernel_rfl
attribute [go_sem] ne_129_n
theorem sz_130 : szOf Go.Proofs.Tryz.prog 130 = some 1 := by kernel_rfl
attribute [go_sem] sz_130
theorem ld_130 (h : H) (id off : Nat) : loadT Go.Proofs.Tryz.prog h 130 id off = @thn _ _ (h.blk id) ⟨fun b => b.get off⟩ := by kernel_rfl
attribute [go_sem] ld_130
theorem st_130 (h : H) (id off : Nat) (v : CV) : storeT Go.Proofs.Tryz.prog h 130 id off v = @thn _ _ (h.blk id) ⟨fun b => cond (Nat.beq v.cells.length 1 && !b.ro) ((b.storeA off v.cells).map fun b' => h.put id (.cells b')) none⟩ := by kernel_rfl
attribute [go_sem] st_130
theorem part_130 (cs : List CV) (off : Nat) : partT Go.Proofs.Tryz.prog 130 cs off = nth cs off := by kernel_rfl
attribute [go_sem] part_130
theorem ze_130 : zeroT Go.Proofs.Tryz.prog 130 = some (.nilf) := by kernel_rfl
attribute [go_sem] ze_130
theorem eq_130 (xo yo : Operand) (f : Fn) (a b : List CV) : binT Go.Proofs.Tryz.prog .eql 130 xo yo (.fn f a b) .nilf = some (.bool false) := by kernel_rfl
attribute [go_sem] eq_130
theorem eq_130_n (xo yo : Operand) : binT Go.Proofs.Tryz.prog .eql 130 xo yo .nilf .nilf = some (.bool true) := by kernel_rfl
attribute [go_sem] eq_130_n
theorem ne_130 (xo yo : Operand) (f : Fn) (a b : List CV) : binT Go.Proofs.Tryz.prog .neq 130 xo yo (.fn f a b) .nilf = some (.bool true) := by kernel_rfl
attribute [go_sem] ne_130
theorem ne_130_n (xo yo : Operand) : binT Go.Proofs.Tryz.prog .neq 130 xo yo .nilf .nilf = some (.bool false) := by kernel_rfl
attribute [go_sem] ne_130_n
theorem sz_132 : szOf Go.Proofs.Tryz.prog 132 = some 1 := by kernel_rfl
attribute [go_sem] sz_132
theorem ld_132 (h : H) (id off : Nat) : loadT Go.Proofs.Tryz.prog h 132 id off = @thn _ _ (h.blk id) ⟨fun b => b.get off⟩ := by kernel_rfl
attribute [go_sem] ld_132
theorem st_132 (h : H) (id off : Nat) (v : CV) : storeT Go.Proofs.Tryz.prog h 132 id off v = @thn _ _ (h.blk id) ⟨fun b => cond (Nat.beq v.cells.length 1 && !b.ro) ((b.storeA off v.cells).map fun b' => h.put id (.cells b')) none⟩ := by kernel_rfl
attribute [go_sem] st_132
theorem part_132 (cs : List CV) (off : Nat) : partT Go.Proofs.Tryz.prog 132 cs off = nth cs off := by kernel_rfl
attribute [go_sem] part_132
theorem sz_133 : szOf Go.Proofs.Tryz.prog 133 = some 1 := by kernel_rfl
attribute [go_sem] sz_133
theorem ld_133 (h : H) (id off : Nat) : loadT Go.Proofs.Tryz.prog h 133 id off = @thn _ _ (h.blk id) ⟨fun b => b.get off⟩ := by kernel_rfl
attribute [go_sem] ld_133
theorem st_133 (h : H) (id off : Nat) (v : CV) : storeT Go.Proofs.Tryz.prog h 133 id off v = @thn _ _ (h.blk id) ⟨fun b => cond (Nat.beq v.cells.length 1 && !b.ro) ((b.storeA off v.cells).map fun b' => h.put id (.cells b')) none⟩ := by kernel_rfl
attribute [go_sem] st_133
theorem part_133 (cs : List CV) (off : Nat) : partT Go.Proofs.Tryz.prog 133 cs off = nth cs off := by kernel_rfl
attribute [go_sem] part_133
theorem ze_133 : zeroT Go.Proofs.Tryz.prog 133 = some (.nilf) := by kernel_rfl
attribute [go_sem] ze_133
theorem eq_133 (xo yo : Operand) (f : Fn) (a b : List CV) : binT Go.Proofs.Tryz.prog .eql 133 xo yo (.fn f a b) .nilf = some (.bool false) := by kernel_rfl
attribute [go_sem] eq_133
theorem eq_133_n (xo yo : Operand) : binT Go.Proofs.Tryz.prog .eql 133 xo yo .nilf .nilf = some (.bool true) := by kernel_rfl
attribute [go_sem] eq_133_n
theorem ne_133 (xo yo : Operand) (f : Fn) (a b : List CV) : binT Go.Proofs.Tryz.prog .neq 133 xo yo (.fn f a b) .nilf = some (.bool true) := by kernel_rfl
attribute [go_sem] ne_133
theorem ne_133_n (xo yo : Operand) : binT Go.Proofs.Tryz.prog .neq 133 xo yo .nilf .nilf = some (.bool false) := by kernel_rfl
attribute [go_sem] ne_133_n
theorem sz_137 : szOf Go.Proofs.Tryz.prog 137 = some 1 := by kernel_rfl
attribute [go_sem] sz_137
theorem ld_137 (h : H) (id off : Nat) : loadT Go.Proofs.Tryz.prog h 137 id off = @thn _ _ (h.blk id) ⟨fun b => b.get off⟩ := by kernel_rfl
attribute [go_sem] ld_137
theorem st_137 (h : H) (id off : Nat) (v : CV) : storeT Go.Proofs.Tryz.prog h 137 id off v = @thn _ _ (h.blk id) ⟨fun b => cond (Nat.beq v.cells.length 1 && !b.ro) ((b.storeA off v.cells).map fun b' => h.put id (.cells b')) none⟩ := by kernel_rfl
attribute [go_sem] st_137
theorem part_137 (cs : List CV) (off : Nat) : partT Go.Proofs.Tryz.prog 137 cs off = nth cs off := by kernel_rfl
attribute [go_sem] part_137
theorem ze_137 : zeroT Go.Proofs.Tryz.prog 137 = some (.nilf) := by kernel_rfl
attribute [go_sem] ze_137
theorem eq_137 (xo yo : Operand) (f : Fn) (a b : List CV) : binT Go.Proofs.Tryz.prog .eql 137 xo yo (.fn f a b) .nilf = some (.bool false) := by kernel_rfl
attribute [go_sem] eq_137
theorem eq_137_n (xo yo : Operand) : binT Go.Proofs.Tryz.prog .eql 137 xo yo .nilf .nilf = some (.bool true) := by kernel_rfl
attribute [go_sem] eq_137_n
theorem ne_137 (xo yo : Operand) (f : Fn) (a b : List CV) : binT Go.Proofs.Tryz.prog .neq 137 xo yo (.fn f a b) .nilf = some (.bool true) := by kernel_rfl
attribute [go_sem] ne_137
theorem ne_137_n (xo yo : Operand) : binT Go.Proofs.Tryz.prog .neq 137 xo yo .nilf .nilf = some (.bool false) := by kernel_rfl
attribute [go_sem] ne_137_n
theorem sz_139 : szOf Go.Proofs.Tryz.prog 139 = some 1 := by kernel_rfl
attribute [go_sem] sz_139
theorem ld_139 (h : H) (id off : Nat) : loadT Go.Proofs.Tryz.prog h 139 id off = @thn _ _ (h.blk id) ⟨fun b => b.get off⟩ := by kernel_rfl
attribute [go_sem] ld_139
theorem st_139 (h : H) (id off : Nat) (v : CV) : storeT Go.Proofs.Tryz.prog h 139 id off v = @thn _ _ (h.blk id) ⟨fun b => cond (Nat.beq v.cells.length 1 && !b.ro) ((b.storeA off v.cells).map fun b' => h.put id (.cells b')) none⟩ := by kernel_rfl
attribute [go_sem] st_139
theorem part_139 (cs : List CV) (off : Nat) : partT Go.Proofs.Tryz.prog 139 cs off = nth cs off := by kernel_rfl
attribute [go_sem] part_139
theorem ze_139 : zeroT Go.Proofs.Tryz.prog 139 = some (.nilp) := by kernel_rfl
attribute [go_sem] ze_139
theorem eq_139 (xo yo : Operand) (a b : Nat) : binT Go.Proofs.Tryz.prog .eql 139 xo yo (.ptr a b) .nilp = some (.bool false) := by kernel_rfl
attribute [go_sem] eq_139
theorem eq_139_n (xo yo : Operand) : binT Go.Proofs.Tryz.prog .eql 139 xo yo .nilp .nilp = some (.bool true) := by kernel_rfl
attribute [go_sem] eq_139_n
theorem ne_139 (xo yo : Operand) (a b : Nat) : binT Go.Proofs.Tryz.prog .neq 139 xo yo (.ptr a b) .nilp = some (.bool true) := by kernel_rfl
attribute [go_sem] ne_139
theorem ne_139_n (xo yo : Operand) : binT Go.Proofs.Tryz.prog .neq 139 xo yo .nilp .nilp = some (.bool false) := by kernel_rfl
attribute [go_sem] ne_139_n
theorem sz_140 : szOf Go.Proofs.Tryz.prog 140 = some 1 := by kernel_rfl
attribute [go_sem] sz_140
theorem ld_140 (h : H) (id off : Nat) : loadT Go.Proofs.Tryz.prog h 140 id off = @thn _ _ (h.blk id) ⟨fun b => b.get off⟩ := by kernel_rfl
attribute [go_sem] ld_140
theorem st_140 (h : H) (id off : Nat) (v : CV) : storeT Go.Proofs.Tryz.prog h 140 id off v = @thn _ _ (h.blk id) ⟨fun b => cond (Nat.beq v.cells.length 1 && !b.ro) ((b.storeA off v.cells).map fun b' => h.put id (.cells b')) none⟩ := by kernel_rfl
attribute [go_sem] st_140
theorem part_140 (cs : List CV) (off : Nat) : partT Go.Proofs.Tryz.prog 140 cs off = nth cs off := by kernel_rfl
attribute [go_sem] part_140
theorem ze_140 : zeroT Go.Proofs.Tryz.prog 140 = some (.nilf) := by kernel_rfl
attribute [go_sem] ze_140
theorem eq_140 (xo yo : Operand) (f : Fn) (a b : List CV) : binT Go.Proofs.Tryz.prog .eql 140 xo yo (.fn f a b) .nilf = some (.bool false) := by kernel_rfl
attribute [go_sem] eq_140
theorem eq_140_n (xo yo : Operand) : binT Go.Proofs.Tryz.prog .eql 140 xo yo .nilf .nilf = some (.bool true) := by kernel_rfl
attribute [go_sem] eq_140_n
theorem ne_140 (xo yo : Operand) (f : Fn) (a b : List CV) : binT Go.Proofs.Tryz.prog .neq 140 xo yo (.fn f a b) .nilf = some (.bool true) := by kernel_rfl
attribute [go_sem] ne_140
theorem ne_140_n (xo yo : Operand) : binT Go.Proofs.Tryz.prog .neq 140 xo yo .nilf .nilf = some (.bool false) := by kernel_rfl
attribute [go_sem] ne_140_n
theorem sz_144 : szOf Go.Proofs.Tryz.prog 144 = some 32 := by kernel_rfl
attribute [go_sem] sz_144
theorem ld_144 (h : H) (id off : Nat) : loadT Go.Proofs.Tryz.prog h 144 id off = @thn _ _ (h.blk id) ⟨fun b => (b.loadN off 32).map .agg⟩ := by kernel_rfl
attribute [go_sem] ld_144
theorem st_144 (h : H) (id off : Nat) (v : CV) : storeT Go.Proofs.Tryz.prog h 144 id off v = @thn _ _ (h.blk id) ⟨fun b => cond (Nat.beq v.cells.length 32 && !b.ro) ((b.storeA off v.cells).map fun b' => h.put id (.cells b')) none⟩ := by kernel_rfl
attribute [go_sem] st_144
theorem part_144 (cs : List CV) (off : Nat) : partT Go.Proofs.Tryz.prog 144 cs off = some (.agg ((cs.drop off).take 32)) := by kernel_rfl
attribute [go_sem] part_144
theorem ze_144 : zeroT Go.Proofs.Tryz.prog 144 = some (.agg [.int .u8 0, .int .u8 0, .int .u8 0, .int .u8 0, .int .u8 0, .int .u8 0, .int .u8 0, .int .u8 0, .int .u8 0, .int .u8 0, .int .u8 0, .int .u8 0, .int .u8 0, .int .u8 0, .int .u8 0, .int .u8 0, .int .u8 0, .int .u8 0, .int .u8 0, .int .u8 0, .int .u8 0, .int .u8 0, .int .u8 0, .int .u8 0, .int .u8 0, .int .u8 0, .int .u8 0, .int .u8 0, .int .u8 0, .int .u8 0, .int .u8 0, .int .u8 0]) := by kernel_rfl
attribute [go_sem] ze_144
theorem ia_144 (id off k : Nat) (kd : IntKind) : indexAddrT Go.Proofs.Tryz.prog 144 (.ptr id off) (.int kd (Int.ofNat k)) = cond (Nat.blt k 32) (some (.ptr id (off + k * 1))) none := by kernel_rfl
attribute [go_sem] ia_144
theorem ix_144 (cs : List CV) (k : Nat) (kd : IntKind) : indexT Go.Proofs.Tryz.prog 144 (.agg cs) (.int kd (Int.ofNat k)) = cond (Nat.blt k 32) (partT Go.Proofs.Tryz.prog 5 cs (k * 1)) none := by kernel_rfl
attribute [go_sem] ix_144
theorem len_144 (h : H) (ts : List TypeId) (az : List CV) (a : CV) : builtinT Go.Proofs.Tryz.prog h .len (144 :: ts) (a :: az) = some (.val (.int .i64 32)) := by kernel_rfl
attribute [go_sem] len_144
theorem bt_144 (parts : List (Nat × CV)) : buildT Go.Proofs.Tryz.prog 144 parts = finB (CV.cells (.agg [.int .u8 0, .int .u8 0, .int .u8 0, .int .u8 0, .int .u8 0, .int .u8 0, .int .u8 0, .int .u8 0, .int .u8 0, .int .u8 0, .int .u8 0, .int .u8 0, .int .u8 0, .int .u8 0, .int .u8 0, .int .u8 0, .int .u8 0, .int .u8 0, .int .u8 0, .int .u8 0, .int .u8 0, .int .u8 0, .int .u8 0, .int .u8 0, .int .u8 0, .int .u8 0, .int .u8 0, .int .u8 0, .int .u8 0, .int .u8 0, .int .u8 0, .int .u8 0])) (fun i => some (i * 1, 1)) parts := by kernel_rfl
attribute [go_sem] bt_144
theorem sz_145 : szOf Go.Proofs.Tryz.prog 145 = some 1 := by kernel_rfl
attribute [go_sem] sz_145
theorem ld_145 (h : H) (id off : Nat) : loadT Go.Proofs.Tryz.prog h 145 id off = @thn _ _ (h.blk id) ⟨fun b => b.get off⟩ := by kernel_rfl
attribute [go_sem] ld_145
theorem st_145 (h : H) (id off : Nat) (v : CV) : storeT Go.Proofs.Tryz.prog h 145 id off v = @thn _ _ (h.blk id) ⟨fun b => cond (Nat.beq v.cells.length 1 && !b.ro) ((b.storeA off v.cells).map fun b' => h.put id (.cells b')) none⟩ := by kernel_rfl
attribute [go_sem] st_145
theorem part_145 (cs : List CV) (off : Nat) : partT Go.Proofs.Tryz.prog 145 cs off = nth cs off := by kernel_rfl
attribute [go_sem] part_145
theorem ze_145 : zeroT Go.Proofs.Tryz.prog 145 = some (.nilf) := by kernel_rfl
attribute [go_sem] ze_145
theorem eq_145 (xo yo : Operand) (f : Fn) (a b : List CV) : binT Go.Proofs.Tryz.prog .eql 145 xo yo (.fn f a b) .nilf = some (.bool false) := by kernel_rfl
attribute [go_sem] eq_145
theorem eq_145_n (xo yo : Operand) : binT Go.Proofs.Tryz.prog .eql 145 xo yo .nilf .nilf = some (.bool true) := by kernel_rfl
attribute [go_sem] eq_145_n
theorem ne_145 (xo yo : Operand) (f : Fn) (a b : List CV) : binT Go.Proofs.Tryz.prog .neq 145 xo yo (.fn f a b) .nilf = some (.bool true) := by kernel_rfl
attribute [go_sem] ne_145
theorem ne_145_n (xo yo : Operand) : binT Go.Proofs.Tryz.prog .neq 145 xo yo .nilf .nilf = some (.bool false) := by kernel_rfl
attribute [go_sem] ne_145_n
theorem sz_146 : szOf Go.Proofs.Tryz.prog 146 = some 1 := by kernel_rfl
attribute [go_sem] sz_146
theorem ld_146 (h : H) (id off : Nat) : loadT Go.Proofs.Tryz.prog h 146 id off = @thn _ _ (h.blk id) ⟨fun b => b.get off⟩ := by kernel_rfl
attribute [go_sem] ld_146
theorem st_146 (h : H) (id off : Nat) (v : CV) : storeT Go.Proofs.Tryz.prog h 146 id off v = @thn _ _ (h.blk id) ⟨fun b => cond (Nat.beq v.cells.length 1 && !b.ro) ((b.storeA off v.cells).map fun b' => h.put id (.cells b')) none⟩ := by kernel_rfl
attribute [go_sem] st_146
theorem part_146 (cs : List CV) (off : Nat) : partT Go.Proofs.Tryz.prog 146 cs off = nth cs off := by kernel_rfl
attribute [go_sem] part_146
theorem ze_146 : zeroT Go.Proofs.Tryz.prog 146 = some (.int .u64 0) := by kernel_rfl
attribute [go_sem] ze_146
theorem sz_147 : szOf Go.Proofs.Tryz.prog 147 = some 1 := by kernel_rfl
attribute [go_sem] sz_147
theorem ld_147 (h : H) (id off : Nat) : loadT Go.Proofs.Tryz.prog h 147 id off = @thn _ _ (h.blk id) ⟨fun b => b.get off⟩ := by kernel_rfl
attribute [go_sem] ld_147
theorem st_147 (h : H) (id off : Nat) (v : CV) : storeT Go.Proofs.Tryz.prog h 147 id off v = @thn _ _ (h.blk id) ⟨fun b => cond (Nat.beq v.cells.length 1 && !b.ro) ((b.storeA off v.cells).map fun b' => h.put id (.cells b')) none⟩ := by kernel_rfl
attribute [go_sem] st_147
theorem part_147 (cs : List CV) (off : Nat) : partT Go.Proofs.Tryz.prog 147 cs off = nth cs off := by kernel_rfl
attribute [go_sem] part_147
theorem ze_147 : zeroT Go.Proofs.Tryz.prog 147 = some (.nilf) := by kernel_rfl
attribute [go_sem] ze_147
theorem eq_147 (xo yo : Operand) (f : Fn) (a b : List CV) : binT Go.Proofs.Tryz.prog .eql 147 xo yo (.fn f a b) .nilf = some (.bool false) := by kernel_rfl
attribute [go_sem] eq_147
theorem eq_147_n (xo yo : Operand) : binT Go.Proofs.Tryz.prog .eql 147 xo yo .nilf .nilf = some (.bool true) := by kernel_rfl
attribute [go_sem] eq_147_n
theorem ne_147 (xo yo : Operand) (f : Fn) (a b : List CV) : binT Go.Proofs.Tryz.prog .neq 147 xo yo (.fn f a b) .nilf = some (.bool true) := by kernel_rfl
attribute [go_sem] ne_147
theorem ne_147_n (xo yo : Operand) : binT Go.Proofs.Tryz.prog .neq 147 xo yo .nilf .nilf = some (.bool false) := by kernel_rfl
attribute [go_sem] ne_147_n
theorem sz_150 : szOf Go.Proofs.Tryz.prog 150 = some 3 := by kernel_rfl
attribute [go_sem] sz_150
theorem ld_150 (h : H) (id off : Nat) : loadT Go.Proofs.Tryz.prog h 150 id off = @thn _ _ (h.blk id) ⟨fun b => (b.loadN off 3).map .agg⟩ := by kernel_rfl
attribute [go_sem] ld_150
theorem st_150 (h : H) (id off : Nat) (v : CV) : storeT Go.Proofs.Tryz.prog h 150 id off v = @thn _ _ (h.blk id) ⟨fun b => cond (Nat.beq v.cells.length 3 && !b.ro) ((b.storeA off v.cells).map fun b' => h.put id (.cells b')) none⟩ := by kernel_rfl
attribute [go_sem] st_150
theorem part_150 (cs : List CV) (off : Nat) : partT Go.Proofs.Tryz.prog 150 cs off = some (.agg ((cs.drop off).take 3)) := by kernel_rfl
attribute [go_sem] part_150
theorem ze_150 : zeroT Go.Proofs.Tryz.prog 150 = some (.agg [.nils, .bool false, .bool false]) := by kernel_rfl
attribute [go_sem] ze_150
theorem bt_150 (parts : List (Nat × CV)) : buildT Go.Proofs.Tryz.prog 150 parts = finB (CV.cells (.agg [.nils, .bool false, .bool false])) (nth [(0, 1), (1, 1), (2, 1)]) parts := by kernel_rfl
attribute [go_sem] bt_150
theorem fa_150_0 (id off : Nat) : fieldAddrT Go.Proofs.Tryz.prog 150 (.ptr id off) 0 = some (.ptr id (off)) := by kernel_rfl
attribute [go_sem] fa_150_0
theorem fd_150_0 (cs : List CV) : fieldT Go.Proofs.Tryz.prog 150 (.agg cs) 0 = partT Go.Proofs.Tryz.prog 123 cs 0 := by kernel_rfl
attribute [go_sem] fd_150_0
theorem fa_150_1 (id off : Nat) : fieldAddrT Go.Proofs.Tryz.prog 150 (.ptr id off) 1 = some (.ptr id (off + 1)) := by kernel_rfl
attribute [go_sem] fa_150_1
theorem fd_150_1 (cs : List CV) : fieldT Go.Proofs.Tryz.prog 150 (.agg cs) 1 = partT Go.Proofs.Tryz.prog 4 cs 1 := by kernel_rfl
attribute [go_sem] fd_150_1
theorem fa_150_2 (id off : Nat) : fieldAddrT Go.Proofs.Tryz.prog 150 (.ptr id off) 2 = some (.ptr id (off + 2)) := by kernel_rfl
attribute [go_sem] fa_150_2
theorem fd_150_2 (cs : List CV) : fieldT Go.Proofs.Tryz.prog 150 (.agg cs) 2 = partT Go.Proofs.Tryz.prog 4 cs 2 := by kernel_rfl
attribute [go_sem] fd_150_2
theorem sz_151 : szOf Go.Proofs.Tryz.prog 151 = some 3 := by kernel_rfl
attribute [go_sem] sz_151
theorem ld_151 (h : H) (id off : Nat) : loadT Go.Proofs.Tryz.prog h 151 id off = @thn _ _ (h.blk id) ⟨fun b => (b.loadN off 3).map .agg⟩ := by kernel_rfl
attribute [go_sem] ld_151
theorem st_151 (h : H) (id off : Nat) (v : CV) : storeT Go.Proofs.Tryz.prog h 151 id off v = @thn _ _ (h.blk id) ⟨fun b => cond (Nat.beq v.cells.length 3 && !b.ro) ((b.storeA off v.cells).map fun b' => h.put id (.cells b')) none⟩ := by kernel_rfl
attribute [go_sem] st_151
theorem part_151 (cs : List CV) (off : Nat) : partT Go.Proofs.Tryz.prog 151 cs off = some (.agg ((cs.drop off).take 3)) := by kernel_rfl
attribute [go_sem] part_151
theorem ze_151 : zeroT Go.Proofs.Tryz.prog 151 = some (.agg [.nils, .bool false, .bool false]) := by kernel_rfl
attribute [go_sem] ze_151
theorem bt_151 (parts : List (Nat × CV)) : buildT Go.Proofs.Tryz.prog 151 parts = finB (CV.cells (.agg [.nils, .bool false, .bool false])) (nth [(0, 1), (1, 1), (2, 1)]) parts := by kernel_rfl
attribute [go_sem] bt_151
theorem fa_151_0 (id off : Nat) : fieldAddrT Go.Proofs.Tryz.prog 151 (.ptr id off) 0 = some (.ptr id (off)) := by kernel_rfl
attribute [go_sem] fa_151_0
theorem fd_151_0 (cs : List CV) : fieldT Go.Proofs.Tryz.prog 151 (.agg cs) 0 = partT Go.Proofs.Tryz.prog 123 cs 0 := by kernel_rfl
attribute [go_sem] fd_151_0
theorem fa_151_1 (id off : Nat) : fieldAddrT Go.Proofs.Tryz.prog 151 (.ptr id off) 1 = some (.ptr id (off + 1)) := by kernel_rfl
attribute [go_sem] fa_151_1
theorem fd_151_1 (cs : List CV) : fieldT Go.Proofs.Tryz.prog 151 (.agg cs) 1 = partT Go.Proofs.Tryz.prog 4 cs 1 := by kernel_rfl
attribute [go_sem] fd_151_1
theorem fa_151_2 (id off : Nat) : fieldAddrT Go.Proofs.Tryz.prog 151 (.ptr id off) 2 = some (.ptr id (off + 2)) := by kernel_rfl
attribute [go_sem] fa_151_2
theorem fd_151_2 (cs : List CV) : fieldT Go.Proofs.Tryz.prog 151 (.agg cs) 2 = partT Go.Proofs.Tryz.prog 4 cs 2 := by kernel_rfl
attribute [go_sem] fd_151_2
theorem sz_152 : szOf Go.Proofs.Tryz.prog 152 = some 1 := by kernel_rfl
attribute [go_sem] sz_152
theorem ld_152 (h : H) (id off : Nat) : loadT Go.Proofs.Tryz.prog h 152 id off = @thn _ _ (h.blk id) ⟨fun b => b.get off⟩ := by kernel_rfl
attribute [go_sem] ld_152
theorem st_152 (h : H) (id off : Nat) (v : CV) : storeT Go.Proofs.Tryz.prog h 152 id off v = @thn _ _ (h.blk id) ⟨fun b => cond (Nat.beq v.cells.length 1 && !b.ro) ((b.storeA off v.cells).map fun b' => h.put id (.cells b')) none⟩ := by kernel_rfl
attribute [go_sem] st_152
theorem part_152 (cs : List CV) (off : Nat) : partT Go.Proofs.Tryz.prog 152 cs off = nth cs off := by kernel_rfl
attribute [go_sem] part_152
theorem sz_153 : szOf Go.Proofs.Tryz.prog 153 = some 1 := by kernel_rfl
attribute [go_sem] sz_153
theorem ld_153 (h : H) (id off : Nat) : loadT Go.Proofs.Tryz.prog h 153 id off = @thn _ _ (h.blk id) ⟨fun b => b.get off⟩ := by kernel_rfl
attribute [go_sem] ld_153
theorem st_153 (h : H) (id off : Nat) (v : CV) : storeT Go.Proofs.Tryz.prog h 153 id off v = @thn _ _ (h.blk id) ⟨fun b => cond (Nat.beq v.cells.length 1 && !b.ro) ((b.storeA off v.cells).map fun b' => h.put id (.cells b')) none⟩ := by kernel_rfl
attribute [go_sem] st_153
theorem part_153 (cs : List CV) (off : Nat) : partT Go.Proofs.Tryz.prog 153 cs off = nth cs off := by kernel_rfl
attribute [go_sem] part_153
theorem ze_153 : zeroT Go.Proofs.Tryz.prog 153 = some (.nilf) := by kernel_rfl
attribute [go_sem] ze_153
theorem eq_153 (xo yo : Operand) (f : Fn) (a b : List CV) : binT Go.Proofs.Tryz.prog .eql 153 xo yo (.fn f a b) .nilf = some (.bool false) := by kernel_rfl
attribute [go_sem] eq_153
theorem eq_153_n (xo yo : Operand) : binT Go.Proofs.Tryz.prog .eql 153 xo yo .nilf .nilf = some (.bool true) := by kernel_rfl
attribute [go_sem] eq_153_n
theorem ne_153 (xo yo : Operand) (f : Fn) (a b : List CV) : binT Go.Proofs.Tryz.prog .neq 153 xo yo (.fn f a b) .nilf = some (.bool true) := by kernel_rfl
attribute [go_sem] ne_153
theorem ne_153_n (xo yo : Operand) : binT Go.Proofs.Tryz.prog .neq 153 xo yo .nilf .nilf = some (.bool false) := by kernel_rfl
attribute [go_sem] ne_153_n
theorem sz_157 : szOf Go.Proofs.Tryz.prog 157 = some 1 := by kernel_rfl
attribute [go_sem] sz_157
theorem ld_157 (h : H) (id off : Nat) : loadT Go.Proofs.Tryz.prog h 157 id off = @thn _ _ (h.blk id) ⟨fun b => b.get off⟩ := by kernel_rfl
attribute [go_sem] ld_157
theorem st_157 (h : H) (id off : Nat) (v : CV) : storeT Go.Proofs.Tryz.prog h 157 id off v = @thn _ _ (h.blk id) ⟨fun b => cond (Nat.beq v.cells.length 1 && !b.ro) ((b.storeA off v.cells).map fun b' => h.put id (.cells b')) none⟩ := by kernel_rfl
attribute [go_sem] st_157
theorem part_157 (cs : List CV) (off : Nat) : partT Go.Proofs.Tryz.prog 157 cs off = nth cs off := by kernel_rfl
attribute [go_sem] part_157
theorem ze_157 : zeroT Go.Proofs.Tryz.prog 157 = some (.int .u32 0) := by kernel_rfl
attribute [go_sem] ze_157
theorem sz_158 : szOf Go.Proofs.Tryz.prog 158 = some 8 := by kernel_rfl
attribute [go_sem] sz_158
theorem ld_158 (h : H) (id off : Nat) : loadT Go.Proofs.Tryz.prog h 158 id off = @thn _ _ (h.blk id) ⟨fun b => (b.loadN off 8).map .agg⟩ := by kernel_rfl
attribute [go_sem] ld_158
theorem st_158 (h : H) (id off : Nat) (v : CV) : storeT Go.Proofs.Tryz.prog h 158 id off v = @thn _ _ (h.blk id) ⟨fun b => cond (Nat.beq v.cells.length 8 && !b.ro) ((b.storeA off v.cells).map fun b' => h.put id (.cells b')) none⟩ := by kernel_rfl
attribute [go_sem] st_158
theorem part_158 (cs : List CV) (off : Nat) : partT Go.Proofs.Tryz.prog 158 cs off = some (.agg ((cs.drop off).take 8)) := by kernel_rfl
attribute [go_sem] part_158
theorem ze_158 : zeroT Go.Proofs.Tryz.prog 158 = some (.agg [.int .u32 0, .int .u32 0, .int .u32 0, .int .u32 0, .int .u32 0, .int .u32 0, .int .u32 0, .int .u32 0]) := by kernel_rfl
attribute [go_sem] ze_158
theorem ia_158 (id off k : Nat) (kd : IntKind) : indexAddrT Go.Proofs.Tryz.prog 158 (.ptr id off) (.int kd (Int.ofNat k)) = cond (Nat.blt k 8) (some (.ptr id (off + k * 1))) none := by kernel_rfl
attribute [go_sem] ia_158
theorem ix_158 (cs : List CV) (k : Nat) (kd : IntKind) : indexT Go.Proofs.Tryz.prog 158 (.agg cs) (.int kd (Int.ofNat k)) = cond (Nat.blt k 8) (partT Go.Proofs.Tryz.prog 157 cs (k * 1)) none := by kernel_rfl
attribute [go_sem] ix_158
theorem len_158 (h : H) (ts : List TypeId) (az : List CV) (a : CV) : builtinT Go.Proofs.Tryz.prog h .len (158 :: ts) (a :: az) = some (.val (.int .i64 8)) := by kernel_rfl
attribute [go_sem] len_158
theorem bt_158 (parts : List (Nat × CV)) : buildT Go.Proofs.Tryz.prog 158 parts = finB (CV.cells (.agg [.int .u32 0, .int .u32 0, .int .u32 0, .int .u32 0, .int .u32 0, .int .u32 0, .int .u32 0, .int .u32 0])) (fun i => some (i * 1, 1)) parts := by kernel_rfl
attribute [go_sem] bt_158
theorem sz_159 : szOf Go.Proofs.Tryz.prog 159 = some 64 := by kernel_rfl
attribute [go_sem] sz_159
theorem ld_159 (h : H) (id off : Nat) : loadT Go.Proofs.Tryz.prog h 159 id off = @thn _ _ (h.blk id) ⟨fun b => (b.loadN off 64).map .agg⟩ := by kernel_rfl
attribute [go_sem] ld_159
theorem st_159 (h : H) (id off : Nat) (v : CV) : storeT Go.Proofs.Tryz.prog h 159 id off v = @thn _ _ (h.blk id) ⟨fun b => cond (Nat.beq v.cells.length 64 && !b.ro) ((b.storeA off v.cells).map fun b' => h.put id (.cells b')) none⟩ := by kernel_rfl
attribute [go_sem] st_159
theorem part_159 (cs : List CV) (off : Nat) : partT Go.Proofs.Tryz.prog 159 cs off = some (.agg ((cs.drop off).take 64)) := by kernel_rfl
attribute [go_sem] part_159
theorem ze_159 : zeroT Go.Proofs.Tryz.prog 159 = some (.agg [.int .u32 0, .int .u32 0, .int .u32 0, .int .u32 0, .int .u32 0, .int .u32 0, .int .u32 0, .int .u32 0, .int .u32 0, .int .u32 0, .int .u32 0, .int .u32 0, .int .u32 0, .int .u32 0, .int .u32 0, .int .u32 0, .int .u32 0, .int .u32 0, .int .u32 0, .int .u32 0, .int .u32 0, .int .u32 0, .int .u32 0, .int .u32 0, .int .u32 0, .int .u32 0, .int .u32 0, .int .u32 0, .int .u32 0, .int .u32 0, .int .u32 0, .int .u32 0, .int .u32 0, .int .u32 0, .int .u32 0, .int .u32 0, .int .u32 0, .int .u32 0, .int .u32 0, .int .u32 0, .int .u32 0, .int .u32 0, .int .u32 0, .int .u32 0, .int .u32 0, .int .u32 0, .int .u32 0, .int .u32 0, .int .u32 0, .int .u32 0, .int .u32 0, .int .u32 0, .int .u32 0, .int .u32 0, .int .u32 0, .int .u32 0, .int .u32 0, .int .u32 0, .int .u32 0, .int .u32 0, .int .u32 0, .int .u32 0, .int .u32 0, .int .u32 0]) := by kernel_rfl
attribute [go_sem] ze_159
theorem ia_159 (id off k : Nat) (kd : IntKind) : indexAddrT Go.Proofs.Tryz.prog 159 (.ptr id off) (.int kd (Int.ofNat k)) = cond (Nat.blt k 64) (some (.ptr id (off + k * 1))) none := by kernel_rfl
attribute [go_sem] ia_159
theorem ix_159 (cs : List CV) (k : Nat) (kd : IntKind) : indexT Go.Proofs.Tryz.prog 159 (.agg cs) (.int kd (Int.ofNat k)) = cond (Nat.blt k 64) (partT Go.Proofs.Tryz.prog 157 cs (k * 1)) none := by kernel_rfl
attribute [go_sem] ix_159
theorem len_159 (h : H) (ts : List TypeId) (az : List CV) (a : CV) : builtinT Go.Proofs.Tryz.prog h .len (159 :: ts) (a :: az) = some (.val (.int .i64 64)) := by kernel_rfl
attribute [go_sem] len_159
theorem bt_159 (parts : List (Nat × CV)) : buildT Go.Proofs.Tryz.prog 159 parts = finB (CV.cells (.agg [.int .u32 0, .int .u32 0, .int .u32 0, .int .u32 0, .int .u32 0, .int .u32 0, .int .u32 0, .int .u32 0, .int .u32 0, .int .u32 0, .int .u32 0, .int .u32 0, .int .u32 0, .int .u32 0, .int .u32 0, .int .u32 0, .int .u32 0, .int .u32 0, .int .u32 0, .int .u32 0, .int .u32 0, .int .u32 0, .int .u32 0, .int .u32 0, .int .u32 0, .int .u32 0, .int .u32 0, .int .u32 0, .int .u32 0, .int .u32 0, .int .u32 0, .int .u32 0, .int .u32 0, .int .u32 0, .int .u32 0, .int .u32 0, .int .u32 0, .int .u32 0, .int .u32 0, .int .u32 0, .int .u32 0, .int .u32 0, .int .u32 0, .int .u32 0, .int .u32 0, .int .u32 0, .int .u32 0, .int .u32 0, .int .u32 0, .int .u32 0, .int .u32 0, .int .u32 0, .int .u32 0, .int .u32 0, .int .u32 0, .int .u32 0, .int .u32 0, .int .u32 0, .int .u32 0, .int .u32 0, .int .u32 0, .int .u32 0, .int .u32 0, .int .u32 0])) (fun i => some (i * 1, 1)) parts := by kernel_rfl
attribute [go_sem] bt_159
theorem sz_160 : szOf Go.Proofs.Tryz.prog 160 = some 1 := by kernel_rfl
attribute [go_sem] sz_160
theorem ld_160 (h : H) (id off : Nat) : loadT Go.Proofs.Tryz.prog h 160 id off = @thn _ _ (h.blk id) ⟨fun b => b.get off⟩ := by kernel_rfl
attribute [go_sem] ld_160
theorem st_160 (h : H) (id off : Nat) (v : CV) : storeT Go.Proofs.Tryz.prog h 160 id off v = @thn _ _ (h.blk id) ⟨fun b => cond (Nat.beq v.cells.length 1 && !b.ro) ((b.storeA off v.cells).map fun b' => h.put id (.cells b')) none⟩ := by kernel_rfl
attribute [go_sem] st_160
theorem part_160 (cs : List CV) (off : Nat) : partT Go.Proofs.Tryz.prog 160 cs off = nth cs off := by kernel_rfl
attribute [go_sem] part_160
theorem ze_160 : zeroT Go.Proofs.Tryz.prog 160 = some (.nilf) := by kernel_rfl
attribute [go_sem] ze_160
theorem eq_160 (xo yo : Operand) (f : Fn) (a b : List CV) : binT Go.Proofs.Tryz.prog .eql 160 xo yo (.fn f a b) .nilf = some (.bool false) := by kernel_rfl
attribute [go_sem] eq_160
theorem eq_160_n (xo yo : Operand) : binT Go.Proofs.Tryz.prog .eql 160 xo yo .nilf .nilf = some (.bool true) := by kernel_rfl
attribute [go_sem] eq_160_n
theorem ne_160 (xo yo : Operand) (f : Fn) (a b : List CV) : binT Go.Proofs.Tryz.prog .neq 160 xo yo (.fn f a b) .nilf = some (.bool true) := by kernel_rfl
attribute [go_sem] ne_160
theorem ne_160_n (xo yo : Operand) : binT Go.Proofs.Tryz.prog .neq 160 xo yo .nilf .nilf = some (.bool false) := by kernel_rfl
attribute [go_sem] ne_160_n
theorem sz_161 : szOf Go.Proofs.Tryz.prog 161 = some 1 := by kernel_rfl
attribute [go_sem] sz_161
theorem ld_161 (h : H) (id off : Nat) : loadT Go.Proofs.Tryz.prog h 161 id off = @thn _ _ (h.blk id) ⟨fun b => b.get off⟩ := by kernel_rfl
attribute [go_sem] ld_161
theorem st_161 (h : H) (id off : Nat) (v : CV) : storeT Go.Proofs.Tryz.prog h 161 id off v = @thn _ _ (h.blk id) ⟨fun b => cond (Nat.beq v.cells.length 1 && !b.ro) ((b.storeA off v.cells).map fun b' => h.put id (.cells b')) none⟩ := by kernel_rfl
attribute [go_sem] st_161
theorem part_161 (cs : List CV) (off : Nat) : partT Go.Proofs.Tryz.prog 161 cs off = nth cs off := by kernel_rfl
attribute [go_sem] part_161
theorem ze_161 : zeroT Go.Proofs.Tryz.prog 161 = some (.nilf) := by kernel_rfl
attribute [go_sem] ze_161
theorem eq_161 (xo yo : Operand) (f : Fn) (a b : List CV) : binT Go.Proofs.Tryz.prog .eql 161 xo yo (.fn f a b) .nilf = some (.bool false) := by kernel_rfl
attribute [go_sem] eq_161
theorem eq_161_n (xo yo : Operand) : binT Go.Proofs.Tryz.prog .eql 161 xo yo .nilf .nilf = some (.bool true) := by kernel_rfl
attribute [go_sem] eq_161_n
theorem ne_161 (xo yo : Operand) (f : Fn) (a b : List CV) : binT Go.Proofs.Tryz.prog .neq 161 xo yo (.fn f a b) .nilf = some (.bool true) := by kernel_rfl
attribute [go_sem] ne_161
theorem ne_161_n (xo yo : Operand) : binT Go.Proofs.Tryz.prog .neq 161 xo yo .nilf .nilf = some (.bool false) := by kernel_rfl
attribute [go_sem] ne_161_n
theorem sz_162 : szOf Go.Proofs.Tryz.prog 162 = some 1 := by kernel_rfl
attribute [go_sem] sz_162
theorem ld_162 (h : H) (id off : Nat) : loadT Go.Proofs.Tryz.prog h 162 id off = @thn _ _ (h.blk id) ⟨fun b => b.get off⟩ := by kernel_rfl
attribute [go_sem] ld_162
theorem st_162 (h : H) (id off : Nat) (v : CV) : storeT Go.Proofs.Tryz.prog h 162 id off v = @thn _ _ (h.blk id) ⟨fun b => cond (Nat.beq v.cells.length 1 && !b.ro) ((b.storeA off v.cells).map fun b' => h.put id (.cells b')) none⟩ := by kernel_rfl
attribute [go_sem] st_162
theorem part_162 (cs : List CV) (off : Nat) : partT Go.Proofs.Tryz.prog 162 cs off = nth cs off := by kernel_rfl
attribute [go_sem] part_162
theorem ze_162 : zeroT Go.Proofs.Tryz.prog 162 = some (.nilp) := by kernel_rfl
attribute [go_sem] ze_162
theorem eq_162 (xo yo : Operand) (a b : Nat) : binT Go.Proofs.Tryz.prog .eql 162 xo yo (.ptr a b) .nilp = some (.bool false) := by kernel_rfl
attribute [go_sem] eq_162
theorem eq_162_n (xo yo : Operand) : binT Go.Proofs.Tryz.prog .eql 162 xo yo .nilp .nilp = some (.bool true) := by kernel_rfl
attribute [go_sem] eq_162_n
theorem ne_162 (xo yo : Operand) (a b : Nat) : binT Go.Proofs.Tryz.prog .neq 162 xo yo (.ptr a b) .nilp = some (.bool true) := by kernel_rfl
attribute [go_sem] ne_162
theorem ne_162_n (xo yo : Operand) : binT Go.Proofs.Tryz.prog .neq 162 xo yo .nilp .nilp = some (.bool false) := by kernel_rfl
attribute [go_sem] ne_162_n
theorem sz_163 : szOf Go.Proofs.Tryz.prog 163 = some 1 := by kernel_rfl
attribute [go_sem] sz_163
theorem ld_163 (h : H) (id off : Nat) : loadT Go.Proofs.Tryz.prog h 163 id off = @thn _ _ (h.blk id) ⟨fun b => b.get off⟩ := by kernel_rfl
attribute [go_sem] ld_163
theorem st_163 (h : H) (id off : Nat) (v : CV) : storeT Go.Proofs.Tryz.prog h 163 id off v = @thn _ _ (h.blk id) ⟨fun b => cond (Nat.beq v.cells.length 1 && !b.ro) ((b.storeA off v.cells).map fun b' => h.put id (.cells b')) none⟩ := by kernel_rfl
attribute [go_sem] st_163
theorem part_163 (cs : List CV) (off : Nat) : partT Go.Proofs.Tryz.prog 163 cs off = nth cs off := by kernel_rfl
attribute [go_sem] part_163
theorem ze_163 : zeroT Go.Proofs.Tryz.prog 163 = some (.nilp) := by kernel_rfl
attribute [go_sem] ze_163
theorem eq_163 (xo yo : Operand) (a b : Nat) : binT Go.Proofs.Tryz.prog .eql 163 xo yo (.ptr a b) .nilp = some (.bool false) := by kernel_rfl
attribute [go_sem] eq_163
theorem eq_163_n (xo yo : Operand) : binT Go.Proofs.Tryz.prog .eql 163 xo yo .nilp .nilp = some (.bool true) := by kernel_rfl
attribute [go_sem] eq_163_n
theorem ne_163 (xo yo : Operand) (a b : Nat) : binT Go.Proofs.Tryz.prog .neq 163 xo yo (.ptr a b) .nilp = some (.bool true) := by kernel_rfl
attribute [go_sem] ne_163
theorem ne_163_n (xo yo : Operand) : binT Go.Proofs.Tryz.prog .neq 163 xo yo .nilp .nilp = some (.bool false) := by kernel_rfl
attribute [go_sem] ne_163_n
theorem sz_164 : szOf Go.Proofs.Tryz.prog 164 = some 1 := by kernel_rfl
attribute [go_sem] sz_164
theorem ld_164 (h : H) (id off : Nat) : loadT Go.Proofs.Tryz.prog h 164 id off = @thn _ _ (h.blk id) ⟨fun b => b.get off⟩ := by kernel_rfl
attribute [go_sem] ld_164
theorem st_164 (h : H) (id off : Nat) (v : CV) : storeT Go.Proofs.Tryz.prog h 164 id off v = @thn _ _ (h.blk id) ⟨fun b => cond (Nat.beq v.cells.length 1 && !b.ro) ((b.storeA off v.cells).map fun b' => h.put id (.cells b')) none⟩ := by kernel_rfl
attribute [go_sem] st_164
theorem part_164 (cs : List CV) (off : Nat) : partT Go.Proofs.Tryz.prog 164 cs off = nth cs off := by kernel_rfl
attribute [go_sem] part_164
theorem ze_164 : zeroT Go.Proofs.Tryz.prog 164 = some (.nilf) := by kernel_rfl
attribute [go_sem] ze_164
theorem eq_164 (xo yo : Operand) (f : Fn) (a b : List CV) : binT Go.Proofs.Tryz.prog .eql 164 xo yo (.fn f a b) .nilf = some (.bool false) := by kernel_rfl
attribute [go_sem] eq_164
theorem eq_164_n (xo yo : Operand) : binT Go.Proofs.Tryz.prog .eql 164 xo yo .nilf .nilf = some (.bool true) := by kernel_rfl
attribute [go_sem] eq_164_n
theorem ne_164 (xo yo : Operand) (f : Fn) (a b : List CV) : binT Go.Proofs.Tryz.prog .neq 164 xo yo (.fn f a b) .nilf = some (.bool true) := by kernel_rfl
attribute [go_sem] ne_164
theorem ne_164_n (xo yo : Operand) : binT Go.Proofs.Tryz.prog .neq 164 xo yo .nilf .nilf = some (.bool false) := by kernel_rfl
attribute [go_sem] ne_164_n
theorem sz_165 : szOf Go.Proofs.Tryz.prog 165 = some 1 := by kernel_rfl
attribute [go_sem] sz_165
theorem ld_165 (h : H) (id off : Nat) : loadT Go.Proofs.Tryz.prog h 165 id off = @thn _ _ (h.blk id) ⟨fun b => b.get off⟩ := by kernel_rfl
attribute [go_sem] ld_165
theorem st_165 (h : H) (id off : Nat) (v : CV) : storeT Go.Proofs.Tryz.prog h 165 id off v = @thn _ _ (h.blk id) ⟨fun b => cond (Nat.beq v.cells.length 1 && !b.ro) ((b.storeA off v.cells).map fun b' => h.put id (.cells b')) none⟩ := by kernel_rfl
attribute [go_sem] st_165
theorem part_165 (cs : List CV) (off : Nat) : partT Go.Proofs.Tryz.prog 165 cs off = nth cs off := by kernel_rfl
attribute [go_sem] part_165
theorem ze_165 : zeroT Go.Proofs.Tryz.prog 165 = some (.nilf) := by kernel_rfl
attribute [go_sem] ze_165
theorem eq_165 (xo yo : Operand) (f : Fn) (a b : List CV) : binT Go.Proofs.Tryz.prog .eql 165 xo yo (.fn f a b) .nilf = some (.bool false) := by kernel_rfl
attribute [go_sem] eq_165
theorem eq_165_n (xo yo : Operand) : binT Go.Proofs.Tryz.prog .eql 165 xo yo .nilf .nilf = some (.bool true) := by kernel_rfl
attribute [go_sem] eq_165_n
theorem ne_165 (xo yo : Operand) (f : Fn) (a b : List CV) : binT Go.Proofs.Tryz.prog .neq 165 xo yo (.fn f a b) .nilf = some (.bool true) := by kernel_rfl
attribute [go_sem] ne_165
theorem ne_165_n (xo yo : Operand) : binT Go.Proofs.Tryz.prog .neq 165 xo yo .nilf .nilf = some (.bool false) := by kernel_rfl
attribute [go_sem] ne_165_n
theorem sz_176 : szOf Go.Proofs.Tryz.prog 176 = some 64 := by kernel_rfl
attribute [go_sem] sz_176
theorem ld_176 (h : H) (id off : Nat) : loadT Go.Proofs.Tryz.prog h 176 id off = @thn _ _ (h.blk id) ⟨fun b => (b.loadN off 64).map .agg⟩ := by kernel_rfl
attribute [go_sem] ld_176
theorem st_176 (h : H) (id off : Nat) (v : CV) : storeT Go.Proofs.Tryz.prog h 176 id off v = @thn _ _ (h.blk id) ⟨fun b => cond (Nat.beq v.cells.length 64 && !b.ro) ((b.storeA off v.cells).map fun b' => h.put id (.cells b')) none⟩ := by kernel_rfl
attribute [go_sem] st_176
theorem part_176 (cs : List CV) (off : Nat) : partT Go.Proofs.Tryz.prog 176 cs off = some (.agg ((cs.drop off).take 64)) := by kernel_rfl
attribute [go_sem] part_176
theorem ze_176 : zeroT Go.Proofs.Tryz.prog 176 = some (.agg [.int .u64 0, .int .u64 0, .int .u64 0, .int .u64 0, .int .u64 0, .int .u64 0, .int .u64 0, .int .u64 0, .int .u64 0, .int .u64 0, .int .u64 0, .int .u64 0, .int .u64 0, .int .u64 0, .int .u64 0, .int .u64 0, .int .u64 0, .int .u64 0, .int .u64 0, .int .u64 0, .int .u64 0, .int .u64 0, .int .u64 0, .int .u64 0, .int .u64 0, .int .u64 0, .int .u64 0, .int .u64 0, .int .u64 0, .int .u64 0, .int .u64 0, .int .u64 0, .int .u64 0, .int .u64 0, .int .u64 0, .int .u64 0, .int .u64 0, .int .u64 0, .int .u64 0, .int .u64 0, .int .u64 0, .int .u64 0, .int .u64 0, .int .u64 0, .int .u64 0, .int .u64 0, .int .u64 0, .int .u64 0, .int .u64 0, .int .u64 0, .int .u64 0, .int .u64 0, .int .u64 0, .int .u64 0, .int .u64 0, .int .u64 0, .int .u64 0, .int .u64 0, .int .u64 0, .int .u64 0, .int .u64 0, .int .u64 0, .int .u64 0, .int .u64 0]) := by kernel_rfl
attribute [go_sem] ze_176
theorem ia_176 (id off k : Nat) (kd : IntKind) : indexAddrT Go.Proofs.Tryz.prog 176 (.ptr id off) (.int kd (Int.ofNat k)) = cond (Nat.blt k 64) (some (.ptr id (off + k * 1))) none := by kernel_rfl
attribute [go_sem] ia_176
theorem ix_176 (cs : List CV) (k : Nat) (kd : IntKind) : indexT Go.Proofs.Tryz.prog 176 (.agg cs) (.int kd (Int.ofNat k)) = cond (Nat.blt k 64) (partT Go.Proofs.Tryz.prog 24 cs (k * 1)) none := by kernel_rfl
attribute [go_sem] ix_176
theorem len_176 (h : H) (ts : List TypeId) (az : List CV) (a : CV) : builtinT Go.Proofs.Tryz.prog h .len (176 :: ts) (a :: az) = some (.val (.int .i64 64)) := by kernel_rfl
attribute [go_sem] len_176
theorem bt_176 (parts : List (Nat × CV)) : buildT Go.Proofs.Tryz.prog 176 parts = finB (CV.cells (.agg [.int .u64 0, .int .u64 0, .int .u64 0, .int .u64 0, .int .u64 0, .int .u64 0, .int .u64 0, .int .u64 0, .int .u64 0, .int .u64 0, .int .u64 0, .int .u64 0, .int .u64 0, .int .u64 0, .int .u64 0, .int .u64 0, .int .u64 0, .int .u64 0, .int .u64 0, .int .u64 0, .int .u64 0, .int .u64 0, .int .u64 0, .int .u64 0, .int .u64 0, .int .u64 0, .int .u64 0, .int .u64 0, .int .u64 0, .int .u64 0, .int .u64 0, .int .u64 0, .int .u64 0, .int .u64 0, .int .u64 0, .int .u64 0, .int .u64 0, .int .u64 0, .int .u64 0, .int .u64 0, .int .u64 0, .int .u64 0, .int .u64 0, .int .u64 0, .int .u64 0, .int .u64 0, .int .u64 0, .int .u64 0, .int .u64 0, .int .u64 0, .int .u64 0, .int .u64 0, .int .u64 0, .int .u64 0, .int .u64 0, .int .u64 0, .int .u64 0, .int .u64 0, .int .u64 0, .int .u64 0, .int .u64 0, .int .u64 0, .int .u64 0, .int .u64 0])) (fun i => some (i * 1, 1)) parts := by kernel_rfl
attribute [go_sem] bt_176
theorem sz_177 : szOf Go.Proofs.Tryz.prog 177 = some 1 := by kernel_rfl
attribute [go_sem] sz_177
theorem ld_177 (h : H) (id off : Nat) : loadT Go.Proofs.Tryz.prog h 177 id off = @thn _ _ (h.blk id) ⟨fun b => b.get off⟩ := by kernel_rfl
attribute [go_sem] ld_177
theorem st_177 (h : H) (id off : Nat) (v : CV) : storeT Go.Proofs.Tryz.prog h 177 id off v = @thn _ _ (h.blk id) ⟨fun b => cond (Nat.beq v.cells.length 1 && !b.ro) ((b.storeA off v.cells).map fun b' => h.put id (.cells b')) none⟩ := by kernel_rfl
attribute [go_sem] st_177
theorem part_177 (cs : List CV) (off : Nat) : partT Go.Proofs.Tryz.prog 177 cs off = nth cs off := by kernel_rfl
attribute [go_sem] part_177
theorem ze_177 : zeroT Go.Proofs.Tryz.prog 177 = some (.nilf) := by kernel_rfl
attribute [go_sem] ze_177
theorem eq_177 (xo yo : Operand) (f : Fn) (a b : List CV) : binT Go.Proofs.Tryz.prog .eql 177 xo yo (.fn f a b) .nilf = some (.bool false) := by kernel_rfl
attribute [go_sem] eq_177
theorem eq_177_n (xo yo : Operand) : binT Go.Proofs.Tryz.prog .eql 177 xo yo .nilf .nilf = some (.bool true) := by kernel_rfl
attribute [go_sem] eq_177_n
theorem ne_177 (xo yo : Operand) (f : Fn) (a b : List CV) : binT Go.Proofs.Tryz.prog .neq 177 xo yo (.fn f a b) .nilf = some (.bool true) := by kernel_rfl
attribute [go_sem] ne_177
theorem ne_177_n (xo yo : Operand) : binT Go.Proofs.Tryz.prog .neq 177 xo yo .nilf .nilf = some (.bool false) := by kernel_rfl
attribute [go_sem] ne_177_n
theorem sz_178 : szOf Go.Proofs.Tryz.prog 178 = some 1 := by kernel_rfl
attribute [go_sem] sz_178
theorem ld_178 (h : H) (id off : Nat) : loadT Go.Proofs.Tryz.prog h 178 id off = @thn _ _ (h.blk id) ⟨fun b => b.get off⟩ := by kernel_rfl
attribute [go_sem] ld_178
theorem st_178 (h : H) (id off : Nat) (v : CV) : storeT Go.Proofs.Tryz.prog h 178 id off v = @thn _ _ (h.blk id) ⟨fun b => cond (Nat.beq v.cells.length 1 && !b.ro) ((b.storeA off v.cells).map fun b' => h.put id (.cells b')) none⟩ := by kernel_rfl
attribute [go_sem] st_178
theorem part_178 (cs : List CV) (off : Nat) : partT Go.Proofs.Tryz.prog 178 cs off = nth cs off := by kernel_rfl
attribute [go_sem] part_178
theorem ze_178 : zeroT Go.Proofs.Tryz.prog 178 = some (.nilf) := by kernel_rfl
attribute [go_sem] ze_178
theorem eq_178 (xo yo : Operand) (f : Fn) (a b : List CV) : binT Go.Proofs.Tryz.prog .eql 178 xo yo (.fn f a b) .nilf = some (.bool false) := by kernel_rfl
attribute [go_sem] eq_178
theorem eq_178_n (xo yo : Operand) : binT Go.Proofs.Tryz.prog .eql 178 xo yo .nilf .nilf = some (.bool true) := by kernel_rfl
attribute [go_sem] eq_178_n
theorem ne_178 (xo yo : Operand) (f : Fn) (a b : List CV) : binT Go.Proofs.Tryz.prog .neq 178 xo yo (.fn f a b) .nilf = some (.bool true) := by kernel_rfl
attribute [go_sem] ne_178
theorem ne_178_n (xo yo : Operand) : binT Go.Proofs.Tryz.prog .neq 178 xo yo .nilf .nilf = some (.bool false) := by kernel_rfl
attribute [go_sem] ne_178_n
theorem sz_179 : szOf Go.Proofs.Tryz.prog 179 = some 1 := by kernel_rfl
attribute [go_sem] sz_179
theorem ld_179 (h : H) (id off : Nat) : loadT Go.Proofs.Tryz.prog h 179 id off = @thn _ _ (h.blk id) ⟨fun b => b.get off⟩ := by kernel_rfl
attribute [go_sem] ld_179
theorem st_179 (h : H) (id off : Nat) (v : CV) : storeT Go.Proofs.Tryz.prog h 179 id off v = @thn _ _ (h.blk id) ⟨fun b => cond (Nat.beq v.cells.length 1 && !b.ro) ((b.storeA off v.cells).map fun b' => h.put id (.cells b')) none⟩ := by kernel_rfl
attribute [go_sem] st_179
theorem part_179 (cs : List CV) (off : Nat) : partT Go.Proofs.Tryz.prog 179 cs off = nth cs off := by kernel_rfl
attribute [go_sem] part_179
theorem ze_179 : zeroT Go.Proofs.Tryz.prog 179 = some (.nilf) := by kernel_rfl
attribute [go_sem] ze_179
theorem eq_179 (xo yo : Operand) (f : Fn) (a b : List CV) : binT Go.Proofs.Tryz.prog .eql 179 xo yo (.fn f a b) .nilf = some (.bool false) := by kernel_rfl
attribute [go_sem] eq_179
theorem eq_179_n (xo yo : Operand) : binT Go.Proofs.Tryz.prog .eql 179 xo yo .nilf .nilf = some (.bool true) := by kernel_rfl
attribute [go_sem] eq_179_n
theorem ne_179 (xo yo : Operand) (f : Fn) (a b : List CV) : binT Go.Proofs.Tryz.prog .neq 179 xo yo (.fn f a b) .nilf = some (.bool true) := by kernel_rfl
attribute [go_sem] ne_179
theorem ne_179_n (xo yo : Operand) : binT Go.Proofs.Tryz.prog .neq 179 xo yo .nilf .nilf = some (.bool false) := by kernel_rfl
attribute [go_sem] ne_179_n
theorem sz_185 : szOf Go.Proofs.Tryz.prog 185 = some 1 := by kernel_rfl
attribute [go_sem] sz_185
theorem ld_185 (h : H) (id off : Nat) : loadT Go.Proofs.Tryz.prog h 185 id off = @thn _ _ (h.blk id) ⟨fun b => b.get off⟩ := by kernel_rfl
attribute [go_sem] ld_185
theorem st_185 (h : H) (id off : Nat) (v : CV) : storeT Go.Proofs.Tryz.prog h 185 id off v = @thn _ _ (h.blk id) ⟨fun b => cond (Nat.beq v.cells.length 1 && !b.ro) ((b.storeA off v.cells).map fun b' => h.put id (.cells b')) none⟩ := by kernel_rfl
attribute [go_sem] st_185
theorem part_185 (cs : List CV) (off : Nat) : partT Go.Proofs.Tryz.prog 185 cs off = nth cs off := by kernel_rfl
attribute [go_sem] part_185
theorem ze_185 : zeroT Go.Proofs.Tryz.prog 185 = some (.nils) := by kernel_rfl
attribute [go_sem] ze_185
theorem ia_185 (id off len k : Nat) (c : Cap) (kd : IntKind) : indexAddrT Go.Proofs.Tryz.prog 185 (.sl id off len c) (.int kd (Int.ofNat k)) = cond (Nat.blt k len) (some (.ptr id (off + k * 1))) none := by kernel_rfl
attribute [go_sem] ia_185
theorem len_185 (h : H) (id off len : Nat) (c : Cap) (ts : List TypeId) (az : List CV) : builtinT Go.Proofs.Tryz.prog h .len (185 :: ts) (.sl id off len c :: az) = some (.val (.int .i64 (Int.ofNat len))) := by kernel_rfl
attribute [go_sem] len_185
theorem len_185_n (h : H) (ts : List TypeId) (az : List CV) : builtinT Go.Proofs.Tryz.prog h .len (185 :: ts) (.nils :: az) = some (.val (.int .i64 0)) := by kernel_rfl
attribute [go_sem] len_185_n
theorem app_185 (h : H) (s : CV) (id off len : Nat) (c : Cap) (ts : List TypeId) (az : List CV) : builtinT Go.Proofs.Tryz.prog h .append (185 :: 185 :: ts) (s :: .sl id off len c :: az) = uv (appendT Go.Proofs.Tryz.prog h 185 s (.sl id off len c)) := by kernel_rfl
attribute [go_sem] app_185
theorem app_185_n (h : H) (s : CV) (ts : List TypeId) (az : List CV) : builtinT Go.Proofs.Tryz.prog h .append (185 :: 185 :: ts) (s :: .nils :: az) = uv (appendT Go.Proofs.Tryz.prog h 185 s .nils) := by kernel_rfl
attribute [go_sem] app_185_n
theorem ap_185 (h : H) (s : CV) (id off len : Nat) (c : Cap) : appendT Go.Proofs.Tryz.prog h 185 s (.sl id off len c) = appS h 1 8 1 s len (firstC h 1 len (.sl id off len c)) := by kernel_rfl
attribute [go_sem] ap_185
theorem ap_185_n (h : H) (s : CV) : appendT Go.Proofs.Tryz.prog h 185 s .nils = appS h 1 8 1 s 0 (some []) := by kernel_rfl
attribute [go_sem] ap_185_n
theorem ap_185_z (h : H) (s : CV) (a b c d : Nat) : appendT Go.Proofs.Tryz.prog h 185 s (.sl0 a b c d) = appS h 1 8 1 s 0 (some []) := by kernel_rfl
attribute [go_sem] ap_185_z
theorem bs_185 (h : H) (n : Nat) (parts : List (Nat × CV)) : buildSliceT Go.Proofs.Tryz.prog h 185 n parts = bslS h 1 (CV.cells (.int .u64 0)) n parts := by kernel_rfl
attribute [go_sem] bs_185
theorem ms_185 (h : H) (l c : Nat) (k k' : IntKind) : makeSliceT Go.Proofs.Tryz.prog h 185 (.int k (Int.ofNat l)) (.int k' (Int.ofNat c)) = mkS h 1 8 (zeroT Go.Proofs.Tryz.prog 24) l c := by kernel_rfl
attribute [go_sem] ms_185
theorem eq_185 (xo yo : Operand) (a b c : Nat) (d : Cap) : binT Go.Proofs.Tryz.prog .eql 185 xo yo (.sl a b c d) .nils = some (.bool false) := by kernel_rfl
attribute [go_sem] eq_185
theorem eq_185_n (xo yo : Operand) : binT Go.Proofs.Tryz.prog .eql 185 xo yo .nils .nils = some (.bool true) := by kernel_rfl
attribute [go_sem] eq_185_n
theorem eq_185_z (xo yo : Operand) (a b c d : Nat) : binT Go.Proofs.Tryz.prog .eql 185 xo yo (.sl0 a b c d) .nils = some (.bool false) := by kernel_rfl
attribute [go_sem] eq_185_z
theorem ne_185 (xo yo : Operand) (a b c : Nat) (d : Cap) : binT Go.Proofs.Tryz.prog .neq 185 xo yo (.sl a b c d) .nils = some (.bool true) := by kernel_rfl
attribute [go_sem] ne_185
theorem ne_185_n (xo yo : Operand) : binT Go.Proofs.Tryz.prog .neq 185 xo yo .nils .nils = some (.bool false) := by kernel_rfl
attribute [go_sem] ne_185_n
theorem ne_185_z (xo yo : Operand) (a b c d : Nat) : binT Go.Proofs.Tryz.prog .neq 185 xo yo (.sl0 a b c d) .nils = some (.bool true) := by kernel_rfl
attribute [go_sem] ne_185_z
theorem len_185_z (h : H) (a b c d : Nat) (ts : List TypeId) (az : List CV) : builtinT Go.Proofs.Tryz.prog h .len (185 :: ts) (.sl0 a b c d :: az) = some (.val (.int .i64 0)) := by kernel_rfl
attribute [go_sem] len_185_z
theorem app_185_z (h : H) (s : CV) (a b c d : Nat) (ts : List TypeId) (az : List CV) : builtinT Go.Proofs.Tryz.prog h .append (185 :: 185 :: ts) (s :: .sl0 a b c d :: az) = uv (appendT Go.Proofs.Tryz.prog h 185 s (.sl0 a b c d)) := by kernel_rfl
attribute [go_sem] app_185_z
theorem sz_186 : szOf Go.Proofs.Tryz.prog 186 = some 1 := by kernel_rfl
attribute [go_sem] sz_186
theorem ld_186 (h : H) (id off : Nat) : loadT Go.Proofs.Tryz.prog h 186 id off = @thn _ _ (h.blk id) ⟨fun b => b.get off⟩ := by kernel_rfl
attribute [go_sem] ld_186
theorem st_186 (h : H) (id off : Nat) (v : CV) : storeT Go.Proofs.Tryz.prog h 186 id off v = @thn _ _ (h.blk id) ⟨fun b => cond (Nat.beq v.cells.length 1 && !b.ro) ((b.storeA off v.cells).map fun b' => h.put id (.cells b')) none⟩ := by kernel_rfl
attribute [go_sem] st_186
theorem part_186 (cs : List CV) (off : Nat) : partT Go.Proofs.Tryz.prog 186 cs off = nth cs off := by kernel_rfl
attribute [go_sem] part_186
theorem sz_187 : szOf Go.Proofs.Tryz.prog 187 = some 1 := by kernel_rfl
attribute [go_sem] sz_187
theorem ld_187 (h : H) (id off : Nat) : loadT Go.Proofs.Tryz.prog h 187 id off = @thn _ _ (h.blk id) ⟨fun b => b.get off⟩ := by kernel_rfl
attribute [go_sem] ld_187
theorem st_187 (h : H) (id off : Nat) (v : CV) : storeT Go.Proofs.Tryz.prog h 187 id off v = @thn _ _ (h.blk id) ⟨fun b => cond (Nat.beq v.cells.length 1 && !b.ro) ((b.storeA off v.cells).map fun b' => h.put id (.cells b')) none⟩ := by kernel_rfl
attribute [go_sem] st_187
theorem part_187 (cs : List CV) (off : Nat) : partT Go.Proofs.Tryz.prog 187 cs off = nth cs off := by kernel_rfl
attribute [go_sem] part_187
theorem ze_187 : zeroT Go.Proofs.Tryz.prog 187 = some (.nilf) := by kernel_rfl
attribute [go_sem] ze_187
theorem eq_187 (xo yo : Operand) (f : Fn) (a b : List CV) : binT Go.Proofs.Tryz.prog .eql 187 xo yo (.fn f a b) .nilf = some (.bool false) := by kernel_rfl
attribute [go_sem] eq_187
theorem eq_187_n (xo yo : Operand) : binT Go.Proofs.Tryz.prog .eql 187 xo yo .nilf .nilf = some (.bool true) := by kernel_rfl
attribute [go_sem] eq_187_n
theorem ne_187 (xo yo : Operand) (f : Fn) (a b : List CV) : binT Go.Proofs.Tryz.prog .neq 187 xo yo (.fn f a b) .nilf = some (.bool true) := by kernel_rfl
attribute [go_sem] ne_187
theorem ne_187_n (xo yo : Operand) : binT Go.Proofs.Tryz.prog .neq 187 xo yo .nilf .nilf = some (.bool false) := by kernel_rfl
attribute [go_sem] ne_187_n
theorem sz_188 : szOf Go.Proofs.Tryz.prog 188 = some 1 := by kernel_rfl
attribute [go_sem] sz_188
theorem ld_188 (h : H) (id off : Nat) : loadT Go.Proofs.Tryz.prog h 188 id off = @thn _ _ (h.blk id) ⟨fun b => b.get off⟩ := by kernel_rfl
attribute [go_sem] ld_188
theorem st_188 (h : H) (id off : Nat) (v : CV) : storeT Go.Proofs.Tryz.prog h 188 id off v = @thn _ _ (h.blk id) ⟨fun b => cond (Nat.beq v.cells.length 1 && !b.ro) ((b.storeA off v.cells).map fun b' => h.put id (.cells b')) none⟩ := by kernel_rfl
attribute [go_sem] st_188
theorem part_188 (cs : List CV) (off : Nat) : partT Go.Proofs.Tryz.prog 188 cs off = nth cs off := by kernel_rfl
attribute [go_sem] part_188
theorem ze_188 : zeroT Go.Proofs.Tryz.prog 188 = some (.nilf) := by kernel_rfl
attribute [go_sem] ze_188
theorem eq_188 (xo yo : Operand) (f : Fn) (a b : List CV) : binT Go.Proofs.Tryz.prog .eql 188 xo yo (.fn f a b) .nilf = some (.bool false) := by kernel_rfl
attribute [go_sem] eq_188
theorem eq_188_n (xo yo : Operand) : binT Go.Proofs.Tryz.prog .eql 188 xo yo .nilf .nilf = some (.bool true) := by kernel_rfl
attribute [go_sem] eq_188_n
theorem ne_188 (xo yo : Operand) (f : Fn) (a b : List CV) : binT Go.Proofs.Tryz.prog .neq 188 xo yo (.fn f a b) .nilf = some (.bool true) := by kernel_rfl
attribute [go_sem] ne_188
theorem ne_188_n (xo yo : Operand) : binT Go.Proofs.Tryz.prog .neq 188 xo yo .nilf .nilf = some (.bool false) := by kernel_rfl
attribute [go_sem] ne_188_n
theorem sz_192 : szOf Go.Proofs.Tryz.prog 192 = some 1 := by kernel_rfl
attribute [go_sem] sz_192
theorem ld_192 (h : H) (id off : Nat) : loadT Go.Proofs.Tryz.prog h 192 id off = @thn _ _ (h.blk id) ⟨fun b => b.get off⟩ := by kernel_rfl
attribute [go_sem] ld_192
theorem st_192 (h : H) (id off : Nat) (v : CV) : storeT Go.Proofs.Tryz.prog h 192 id off v = @thn _ _ (h.blk id) ⟨fun b => cond (Nat.beq v.cells.length 1 && !b.ro) ((b.storeA off v.cells).map fun b' => h.put id (.cells b')) none⟩ := by kernel_rfl
attribute [go_sem] st_192
theorem part_192 (cs : List CV) (off : Nat) : partT Go.Proofs.Tryz.prog 192 cs off = nth cs off := by kernel_rfl
attribute [go_sem] part_192
theorem ze_192 : zeroT Go.Proofs.Tryz.prog 192 = some (.nilf) := by kernel_rfl
attribute [go_sem] ze_192
theorem eq_192 (xo yo : Operand) (f : Fn) (a b : List CV) : binT Go.Proofs.Tryz.prog .eql 192 xo yo (.fn f a b) .nilf = some (.bool false) := by kernel_rfl
attribute [go_sem] eq_192
theorem eq_192_n (xo yo : Operand) : binT Go.Proofs.Tryz.prog .eql 192 xo yo .nilf .nilf = some (.bool true) := by kernel_rfl
attribute [go_sem] eq_192_n
theorem ne_192 (xo yo : Operand) (f : Fn) (a b : List CV) : binT Go.Proofs.Tryz.prog .neq 192 xo yo (.fn f a b) .nilf = some (.bool true) := by kernel_rfl
attribute [go_sem] ne_192
theorem ne_192_n (xo yo : Operand) : binT Go.Proofs.Tryz.prog .neq 192 xo yo .nilf .nilf = some (.bool false) := by kernel_rfl
attribute [go_sem] ne_192_n
theorem sz_193 : szOf Go.Proofs.Tryz.prog 193 = some 4 := by kernel_rfl
attribute [go_sem] sz_193
theorem ld_193 (h : H) (id off : Nat) : loadT Go.Proofs.Tryz.prog h 193 id off = @thn _ _ (h.blk id) ⟨fun b => (b.loadN off 4).map .agg⟩ := by kernel_rfl
attribute [go_sem] ld_193
theorem st_193 (h : H) (id off : Nat) (v : CV) : storeT Go.Proofs.Tryz.prog h 193 id off v = @thn _ _ (h.blk id) ⟨fun b => cond (Nat.beq v.cells.length 4 && !b.ro) ((b.storeA off v.cells).map fun b' => h.put id (.cells b')) none⟩ := by kernel_rfl
attribute [go_sem] st_193
theorem part_193 (cs : List CV) (off : Nat) : partT Go.Proofs.Tryz.prog 193 cs off = some (.agg ((cs.drop off).take 4)) := by kernel_rfl
attribute [go_sem] part_193
theorem ze_193 : zeroT Go.Proofs.Tryz.prog 193 = some (.agg [.nilp, .nilp, .nilp, .str []]) := by kernel_rfl
attribute [go_sem] ze_193
theorem bt_193 (parts : List (Nat × CV)) : buildT Go.Proofs.Tryz.prog 193 parts = finB (CV.cells (.agg [.nilp, .nilp, .nilp, .str []])) (nth [(0, 1), (1, 1), (2, 1), (3, 1)]) parts := by kernel_rfl
attribute [go_sem] bt_193
theorem fa_193_0 (id off : Nat) : fieldAddrT Go.Proofs.Tryz.prog 193 (.ptr id off) 0 = some (.ptr id (off)) := by kernel_rfl
attribute [go_sem] fa_193_0
theorem fd_193_0 (cs : List CV) : fieldT Go.Proofs.Tryz.prog 193 (.agg cs) 0 = partT Go.Proofs.Tryz.prog 17 cs 0 := by kernel_rfl
attribute [go_sem] fd_193_0
theorem fa_193_1 (id off : Nat) : fieldAddrT Go.Proofs.Tryz.prog 193 (.ptr id off) 1 = some (.ptr id (off + 1)) := by kernel_rfl
attribute [go_sem] fa_193_1
theorem fd_193_1 (cs : List CV) : fieldT Go.Proofs.Tryz.prog 193 (.agg cs) 1 = partT Go.Proofs.Tryz.prog 17 cs 1 := by kernel_rfl
attribute [go_sem] fd_193_1
theorem fa_193_2 (id off : Nat) : fieldAddrT Go.Proofs.Tryz.prog 193 (.ptr id off) 2 = some (.ptr id (off + 2)) := by kernel_rfl
attribute [go_sem] fa_193_2
theorem fd_193_2 (cs : List CV) : fieldT Go.Proofs.Tryz.prog 193 (.agg cs) 2 = partT Go.Proofs.Tryz.prog 17 cs 2 := by kernel_rfl
attribute [go_sem] fd_193_2
theorem fa_193_3 (id off : Nat) : fieldAddrT Go.Proofs.Tryz.prog 193 (.ptr id off) 3 = some (.ptr id (off + 3)) := by kernel_rfl
attribute [go_sem] fa_193_3
theorem fd_193_3 (cs : List CV) : fieldT Go.Proofs.Tryz.prog 193 (.agg cs) 3 = partT Go.Proofs.Tryz.prog 9 cs 3 := by kernel_rfl
attribute [go_sem] fd_193_3
theorem sz_194 : szOf Go.Proofs.Tryz.prog 194 = some 4 := by kernel_rfl
attribute [go_sem] sz_194
theorem ld_194 (h : H) (id off : Nat) : loadT Go.Proofs.Tryz.prog h 194 id off = @thn _ _ (h.blk id) ⟨fun b => (b.loadN off 4).map .agg⟩ := by kernel_rfl
attribute [go_sem] ld_194
theorem st_194 (h : H) (id off : Nat) (v : CV) : storeT Go.Proofs.Tryz.prog h 194 id off v = @thn _ _ (h.blk id) ⟨fun b => cond (Nat.beq v.cells.length 4 && !b.ro) ((b.storeA off v.cells).map fun b' => h.put id (.cells b')) none⟩ := by kernel_rfl
attribute [go_sem] st_194
theorem part_194 (cs : List CV) (off : Nat) : partT Go.Proofs.Tryz.prog 194 cs off = some (.agg ((cs.drop off).take 4)) := by kernel_rfl
attribute [go_sem] part_194
theorem ze_194 : zeroT Go.Proofs.Tryz.prog 194 = some (.agg [.nilp, .nilp, .nilp, .str []]) := by kernel_rfl
attribute [go_sem] ze_194
theorem bt_194 (parts : List (Nat × CV)) : buildT Go.Proofs.Tryz.prog 194 parts = finB (CV.cells (.agg [.nilp, .nilp, .nilp, .str []])) (nth [(0, 1), (1, 1), (2, 1), (3, 1)]) parts := by kernel_rfl
attribute [go_sem] bt_194
theorem fa_194_0 (id off : Nat) : fieldAddrT Go.Proofs.Tryz.prog 194 (.ptr id off) 0 = some (.ptr id (off)) := by kernel_rfl
attribute [go_sem] fa_194_0
theorem fd_194_0 (cs : List CV) : fieldT Go.Proofs.Tryz.prog 194 (.agg cs) 0 = partT Go.Proofs.Tryz.prog 17 cs 0 := by kernel_rfl
attribute [go_sem] fd_194_0
theorem fa_194_1 (id off : Nat) : fieldAddrT Go.Proofs.Tryz.prog 194 (.ptr id off) 1 = some (.ptr id (off + 1)) := by kernel_rfl
attribute [go_sem] fa_194_1
theorem fd_194_1 (cs : List CV) : fieldT Go.Proofs.Tryz.prog 194 (.agg cs) 1 = partT Go.Proofs.Tryz.prog 17 cs 1 := by kernel_rfl
attribute [go_sem] fd_194_1
theorem fa_194_2 (id off : Nat) : fieldAddrT Go.Proofs.Tryz.prog 194 (.ptr id off) 2 = some (.ptr id (off + 2)) := by kernel_rfl
attribute [go_sem] fa_194_2
theorem fd_194_2 (cs : List CV) : fieldT Go.Proofs.Tryz.prog 194 (.agg cs) 2 = partT Go.Proofs.Tryz.prog 17 cs 2 := by kernel_rfl
attribute [go_sem] fd_194_2
theorem fa_194_3 (id off : Nat) : fieldAddrT Go.Proofs.Tryz.prog 194 (.ptr id off) 3 = some (.ptr id (off + 3)) := by kernel_rfl
attribute [go_sem] fa_194_3
theorem fd_194_3 (cs : List CV) : fieldT Go.Proofs.Tryz.prog 194 (.agg cs) 3 = partT Go.Proofs.Tryz.prog 9 cs 3 := by kernel_rfl
attribute [go_sem] fd_194_3
theorem sz_195 : szOf Go.Proofs.Tryz.prog 195 = some 0 := by kernel_rfl
attribute [go_sem] sz_195
theorem ld_195 (h : H) (id off : Nat) : loadT Go.Proofs.Tryz.prog h 195 id off = @thn _ _ (h.blk id) ⟨fun b => (b.loadN off 0).map .agg⟩ := by kernel_rfl
attribute [go_sem] ld_195
theorem st_195 (h : H) (id off : Nat) (v : CV) : storeT Go.Proofs.Tryz.prog h 195 id off v = @thn _ _ (h.blk id) ⟨fun b => cond (Nat.beq v.cells.length 0 && !b.ro) ((b.storeA off v.cells).map fun b' => h.put id (.cells b')) none⟩ := by kernel_rfl
attribute [go_sem] st_195
theorem part_195 (cs : List CV) (off : Nat) : partT Go.Proofs.Tryz.prog 195 cs off = some (.agg ((cs.drop off).take 0)) := by kernel_rfl
attribute [go_sem] part_195
theorem ze_195 : zeroT Go.Proofs.Tryz.prog 195 = some (.agg []) := by kernel_rfl
attribute [go_sem] ze_195
theorem ia_195 (id off k : Nat) (kd : IntKind) : indexAddrT Go.Proofs.Tryz.prog 195 (.ptr id off) (.int kd (Int.ofNat k)) = cond (Nat.blt k 0) (some (.ptr id (off + k * 1))) none := by kernel_rfl
attribute [go_sem] ia_195
theorem ix_195 (cs : List CV) (k : Nat) (kd : IntKind) : indexT Go.Proofs.Tryz.prog 195 (.agg cs) (.int kd (Int.ofNat k)) = cond (Nat.blt k 0) (partT Go.Proofs.Tryz.prog 16 cs (k * 1)) none := by kernel_rfl
attribute [go_sem] ix_195
theorem len_195 (h : H) (ts : List TypeId) (az : List CV) (a : CV) : builtinT Go.Proofs.Tryz.prog h .len (195 :: ts) (a :: az) = some (.val (.int .i64 0)) := by kernel_rfl
attribute [go_sem] len_195
theorem bt_195 (parts : List (Nat × CV)) : buildT Go.Proofs.Tryz.prog 195 parts = finB (CV.cells (.agg [])) (fun i => some (i * 1, 1)) parts := by kernel_rfl
attribute [go_sem] bt_195
theorem sz_196 : szOf Go.Proofs.Tryz.prog 196 = some 0 := by kernel_rfl
attribute [go_sem] sz_196
theorem ld_196 (h : H) (id off : Nat) : loadT Go.Proofs.Tryz.prog h 196 id off = @thn _ _ (h.blk id) ⟨fun b => (b.loadN off 0).map .agg⟩ := by kernel_rfl
attribute [go_sem] ld_196
theorem st_196 (h : H) (id off : Nat) (v : CV) : storeT Go.Proofs.Tryz.prog h 196 id off v = @thn _ _ (h.blk id) ⟨fun b => cond (Nat.beq v.cells.length 0 && !b.ro) ((b.storeA off v.cells).map fun b' => h.put id (.cells b')) none⟩ := by kernel_rfl
attribute [go_sem] st_196
theorem part_196 (cs : List CV) (off : Nat) : partT Go.Proofs.Tryz.prog 196 cs off = some (.agg ((cs.drop off).take 0)) := by kernel_rfl
attribute [go_sem] part_196
theorem ze_196 : zeroT Go.Proofs.Tryz.prog 196 = some (.agg []) := by kernel_rfl
attribute [go_sem] ze_196
theorem bt_196 (parts : List (Nat × CV)) : buildT Go.Proofs.Tryz.prog 196 parts = finB (CV.cells (.agg [])) (nth [(0, 0)]) parts := by kernel_rfl
attribute [go_sem] bt_196
theorem fd_196_0 (cs : List CV) : fieldT Go.Proofs.Tryz.prog 196 (.agg cs) 0 = partT Go.Proofs.Tryz.prog 195 cs 0 := by kernel_rfl
attribute [go_sem] fd_196_0
theorem sz_197 : szOf Go.Proofs.Tryz.prog 197 = some 0 := by kernel_rfl
attribute [go_sem] sz_197
theorem ld_197 (h : H) (id off : Nat) : loadT Go.Proofs.Tryz.prog h 197 id off = @thn _ _ (h.blk id) ⟨fun b => (b.loadN off 0).map .agg⟩ := by kernel_rfl
attribute [go_sem] ld_197
theorem st_197 (h : H) (id off : Nat) (v : CV) : storeT Go.Proofs.Tryz.prog h 197 id off v = @thn _ _ (h.blk id) ⟨fun b => cond (Nat.beq v.cells.length 0 && !b.ro) ((b.storeA off v.cells).map fun b' => h.put id (.cells b')) none⟩ := by kernel_rfl
attribute [go_sem] st_197
theorem part_197 (cs : List CV) (off : Nat) : partT Go.Proofs.Tryz.prog 197 cs off = some (.agg ((cs.drop off).take 0)) := by kernel_rfl
attribute [go_sem] part_197
theorem ze_197 : zeroT Go.Proofs.Tryz.prog 197 = some (.agg []) := by kernel_rfl
attribute [go_sem] ze_197
theorem bt_197 (parts : List (Nat × CV)) : buildT Go.Proofs.Tryz.prog 197 parts = finB (CV.cells (.agg [])) (nth [(0, 0)]) parts := by kernel_rfl
attribute [go_sem] bt_197
theorem fd_197_0 (cs : List CV) : fieldT Go.Proofs.Tryz.prog 197 (.agg cs) 0 = partT Go.Proofs.Tryz.prog 195 cs 0 := by kernel_rfl
attribute [go_sem] fd_197_0
theorem sz_198 : szOf Go.Proofs.Tryz.prog 198 = some 1 := by kernel_rfl
attribute [go_sem] sz_198
theorem ld_198 (h : H) (id off : Nat) : loadT Go.Proofs.Tryz.prog h 198 id off = @thn _ _ (h.blk id) ⟨fun b => b.get off⟩ := by kernel_rfl
attribute [go_sem] ld_198
theorem st_198 (h : H) (id off : Nat) (v : CV) : storeT Go.Proofs.Tryz.prog h 198 id off v = @thn _ _ (h.blk id) ⟨fun b => cond (Nat.beq v.cells.length 1 && !b.ro) ((b.storeA off v.cells).map fun b' => h.put id (.cells b')) none⟩ := by kernel_rfl
attribute [go_sem] st_198
theorem part_198 (cs : List CV) (off : Nat) : partT Go.Proofs.Tryz.prog 198 cs off = nth cs off := by kernel_rfl
attribute [go_sem] part_198
theorem ze_198 : zeroT Go.Proofs.Tryz.prog 198 = some (.int .u8 0) := by kernel_rfl
attribute [go_sem] ze_198
theorem sz_199 : szOf Go.Proofs.Tryz.prog 199 = some 1 := by kernel_rfl
attribute [go_sem] sz_199
theorem ld_199 (h : H) (id off : Nat) : loadT Go.Proofs.Tryz.prog h 199 id off = @thn _ _ (h.blk id) ⟨fun b => b.get off⟩ := by kernel_rfl
attribute [go_sem] ld_199
theorem st_199 (h : H) (id off : Nat) (v : CV) : storeT Go.Proofs.Tryz.prog h 199 id off v = @thn _ _ (h.blk id) ⟨fun b => cond (Nat.beq v.cells.length 1 && !b.ro) ((b.storeA off v.cells).map fun b' => h.put id (.cells b')) none⟩ := by kernel_rfl
attribute [go_sem] st_199
theorem part_199 (cs : List CV) (off : Nat) : partT Go.Proofs.Tryz.prog 199 cs off = nth cs off := by kernel_rfl
attribute [go_sem] part_199
theorem ze_199 : zeroT Go.Proofs.Tryz.prog 199 = some (.int .u8 0) := by kernel_rfl
attribute [go_sem] ze_199
theorem sz_200 : szOf Go.Proofs.Tryz.prog 200 = some 1 := by kernel_rfl
attribute [go_sem] sz_200
theorem ld_200 (h : H) (id off : Nat) : loadT Go.Proofs.Tryz.prog h 200 id off = @thn _ _ (h.blk id) ⟨fun b => b.get off⟩ := by kernel_rfl
attribute [go_sem] ld_200
theorem st_200 (h : H) (id off : Nat) (v : CV) : storeT Go.Proofs.Tryz.prog h 200 id off v = @thn _ _ (h.blk id) ⟨fun b => cond (Nat.beq v.cells.length 1 && !b.ro) ((b.storeA off v.cells).map fun b' => h.put id (.cells b')) none⟩ := by kernel_rfl
attribute [go_sem] st_200
theorem part_200 (cs : List CV) (off : Nat) : partT Go.Proofs.Tryz.prog 200 cs off = nth cs off := by kernel_rfl
attribute [go_sem] part_200
theorem ze_200 : zeroT Go.Proofs.Tryz.prog 200 = some (.nilf) := by kernel_rfl
attribute [go_sem] ze_200
theorem eq_200 (xo yo : Operand) (f : Fn) (a b : List CV) : binT Go.Proofs.Tryz.prog .eql 200 xo yo (.fn f a b) .nilf = some (.bool false) := by kernel_rfl
attribute [go_sem] eq_200
theorem eq_200_n (xo yo : Operand) : binT Go.Proofs.Tryz.prog .eql 200 xo yo .nilf .nilf = some (.bool true) := by kernel_rfl
attribute [go_sem] eq_200_n
theorem ne_200 (xo yo : Operand) (f : Fn) (a b : List CV) : binT Go.Proofs.Tryz.prog .neq 200 xo yo (.fn f a b) .nilf = some (.bool true) := by kernel_rfl
attribute [go_sem] ne_200
theorem ne_200_n (xo yo : Operand) : binT Go.Proofs.Tryz.prog .neq 200 xo yo .nilf .nilf = some (.bool false) := by kernel_rfl
attribute [go_sem] ne_200_n
theorem sz_201 : szOf Go.Proofs.Tryz.prog 201 = some 1 := by kernel_rfl
attribute [go_sem] sz_201
theorem ld_201 (h : H) (id off : Nat) : loadT Go.Proofs.Tryz.prog h 201 id off = @thn _ _ (h.blk id) ⟨fun b => b.get off⟩ := by kernel_rfl
attribute [go_sem] ld_201
theorem st_201 (h : H) (id off : Nat) (v : CV) : storeT Go.Proofs.Tryz.prog h 201 id off v = @thn _ _ (h.blk id) ⟨fun b => cond (Nat.beq v.cells.length 1 && !b.ro) ((b.storeA off v.cells).map fun b' => h.put id (.cells b')) none⟩ := by kernel_rfl
attribute [go_sem] st_201
theorem part_201 (cs : List CV) (off : Nat) : partT Go.Proofs.Tryz.prog 201 cs off = nth cs off := by kernel_rfl
attribute [go_sem] part_201
theorem ze_201 : zeroT Go.Proofs.Tryz.prog 201 = some (.nilp) := by kernel_rfl
attribute [go_sem] ze_201
theorem eq_201 (xo yo : Operand) (a b : Nat) : binT Go.Proofs.Tryz.prog .eql 201 xo yo (.ptr a b) .nilp = some (.bool false) := by kernel_rfl
attribute [go_sem] eq_201
theorem eq_201_n (xo yo : Operand) : binT Go.Proofs.Tryz.prog .eql 201 xo yo .nilp .nilp = some (.bool true) := by kernel_rfl
attribute [go_sem] eq_201_n
theorem ne_201 (xo yo : Operand) (a b : Nat) : binT Go.Proofs.Tryz.prog .neq 201 xo yo (.ptr a b) .nilp = some (.bool true) := by kernel_rfl
attribute [go_sem] ne_201
theorem ne_201_n (xo yo : Operand) : binT Go.Proofs.Tryz.prog .neq 201 xo yo .nilp .nilp = some (.bool false) := by kernel_rfl
attribute [go_sem] ne_201_n
theorem sz_202 : szOf Go.Proofs.Tryz.prog 202 = some 1 := by kernel_rfl
attribute [go_sem] sz_202
theorem ld_202 (h : H) (id off : Nat) : loadT Go.Proofs.Tryz.prog h 202 id off = @thn _ _ (h.blk id) ⟨fun b => b.get off⟩ := by kernel_rfl
attribute [go_sem] ld_202
theorem st_202 (h : H) (id off : Nat) (v : CV) : storeT Go.Proofs.Tryz.prog h 202 id off v = @thn _ _ (h.blk id) ⟨fun b => cond (Nat.beq v.cells.length 1 && !b.ro) ((b.storeA off v.cells).map fun b' => h.put id (.cells b')) none⟩ := by kernel_rfl
attribute [go_sem] st_202
theorem part_202 (cs : List CV) (off : Nat) : partT Go.Proofs.Tryz.prog 202 cs off = nth cs off := by kernel_rfl
attribute [go_sem] part_202
theorem ze_202 : zeroT Go.Proofs.Tryz.prog 202 = some (.int .i32 0) := by kernel_rfl
attribute [go_sem] ze_202
theorem sz_203 : szOf Go.Proofs.Tryz.prog 203 = some 1 := by kernel_rfl
attribute [go_sem] sz_203
theorem ld_203 (h : H) (id off : Nat) : loadT Go.Proofs.Tryz.prog h 203 id off = @thn _ _ (h.blk id) ⟨fun b => b.get off⟩ := by kernel_rfl
attribute [go_sem] ld_203
theorem st_203 (h : H) (id off : Nat) (v : CV) : storeT Go.Proofs.Tryz.prog h 203 id off v = @thn _ _ (h.blk id) ⟨fun b => cond (Nat.beq v.cells.length 1 && !b.ro) ((b.storeA off v.cells).map fun b' => h.put id (.cells b')) none⟩ := by kernel_rfl
attribute [go_sem] st_203
theorem part_203 (cs : List CV) (off : Nat) : partT Go.Proofs.Tryz.prog 203 cs off = nth cs off := by kernel_rfl
attribute [go_sem] part_203
theorem ze_203 : zeroT Go.Proofs.Tryz.prog 203 = some (.int .i32 0) := by kernel_rfl
attribute [go_sem] ze_203
theorem sz_204 : szOf Go.Proofs.Tryz.prog 204 = some 11 := by kernel_rfl
attribute [go_sem] sz_204
theorem ld_204 (h : H) (id off : Nat) : loadT Go.Proofs.Tryz.prog h 204 id off = @thn _ _ (h.blk id) ⟨fun b => (b.loadN off 11).map .agg⟩ := by kernel_rfl
attribute [go_sem] ld_204
theorem st_204 (h : H) (id off : Nat) (v : CV) : storeT Go.Proofs.Tryz.prog h 204 id off v = @thn _ _ (h.blk id) ⟨fun b => cond (Nat.beq v.cells.length 11 && !b.ro) ((b.storeA off v.cells).map fun b' => h.put id (.cells b')) none⟩ := by kernel_rfl
attribute [go_sem] st_204
theorem part_204 (cs : List CV) (off : Nat) : partT Go.Proofs.Tryz.prog 204 cs off = some (.agg ((cs.drop off).take 11)) := by kernel_rfl
attribute [go_sem] part_204
theorem ze_204 : zeroT Go.Proofs.Tryz.prog 204 = some (.agg [.int .u64 0, .int .u64 0, .int .u32 0, .int .u8 0, .int .u8 0, .int .u8 0, .int .u8 0, .nilf, .nilp, .int .i32 0, .int .i32 0]) := by kernel_rfl
attribute [go_sem] ze_204
theorem bt_204 (parts : List (Nat × CV)) : buildT Go.Proofs.Tryz.prog 204 parts = finB (CV.cells (.agg [.int .u64 0, .int .u64 0, .int .u32 0, .int .u8 0, .int .u8 0, .int .u8 0, .int .u8 0, .nilf, .nilp, .int .i32 0, .int .i32 0])) (nth [(0, 1), (1, 1), (2, 1), (3, 1), (4, 1), (5, 1), (6, 1), (7, 1), (8, 1), (9, 1), (10, 1)]) parts := by kernel_rfl
attribute [go_sem] bt_204
theorem fa_204_0 (id off : Nat) : fieldAddrT Go.Proofs.Tryz.prog 204 (.ptr id off) 0 = some (.ptr id (off)) := by kernel_rfl
attribute [go_sem] fa_204_0
theorem fd_204_0 (cs : List CV) : fieldT Go.Proofs.Tryz.prog 204 (.agg cs) 0 = partT Go.Proofs.Tryz.prog 12 cs 0 := by kernel_rfl
attribute [go_sem] fd_204_0
theorem fa_204_1 (id off : Nat) : fieldAddrT Go.Proofs.Tryz.prog 204 (.ptr id off) 1 = some (.ptr id (off + 1)) := by kernel_rfl
attribute [go_sem] fa_204_1
theorem fd_204_1 (cs : List CV) : fieldT Go.Proofs.Tryz.prog 204 (.agg cs) 1 = partT Go.Proofs.Tryz.prog 12 cs 1 := by kernel_rfl
attribute [go_sem] fd_204_1
theorem fa_204_2 (id off : Nat) : fieldAddrT Go.Proofs.Tryz.prog 204 (.ptr id off) 2 = some (.ptr id (off + 2)) := by kernel_rfl
attribute [go_sem] fa_204_2
theorem fd_204_2 (cs : List CV) : fieldT Go.Proofs.Tryz.prog 204 (.agg cs) 2 = partT Go.Proofs.Tryz.prog 157 cs 2 := by kernel_rfl
attribute [go_sem] fd_204_2
theorem fa_204_3 (id off : Nat) : fieldAddrT Go.Proofs.Tryz.prog 204 (.ptr id off) 3 = some (.ptr id (off + 3)) := by kernel_rfl
attribute [go_sem] fa_204_3
theorem fd_204_3 (cs : List CV) : fieldT Go.Proofs.Tryz.prog 204 (.agg cs) 3 = partT Go.Proofs.Tryz.prog 198 cs 3 := by kernel_rfl
attribute [go_sem] fd_204_3
theorem fa_204_4 (id off : Nat) : fieldAddrT Go.Proofs.Tryz.prog 204 (.ptr id off) 4 = some (.ptr id (off + 4)) := by kernel_rfl
attribute [go_sem] fa_204_4
theorem fd_204_4 (cs : List CV) : fieldT Go.Proofs.Tryz.prog 204 (.agg cs) 4 = partT Go.Proofs.Tryz.prog 5 cs 4 := by kernel_rfl
attribute [go_sem] fd_204_4
theorem fa_204_5 (id off : Nat) : fieldAddrT Go.Proofs.Tryz.prog 204 (.ptr id off) 5 = some (.ptr id (off + 5)) := by kernel_rfl
attribute [go_sem] fa_204_5
theorem fd_204_5 (cs : List CV) : fieldT Go.Proofs.Tryz.prog 204 (.agg cs) 5 = partT Go.Proofs.Tryz.prog 5 cs 5 := by kernel_rfl
attribute [go_sem] fd_204_5
theorem fa_204_6 (id off : Nat) : fieldAddrT Go.Proofs.Tryz.prog 204 (.ptr id off) 6 = some (.ptr id (off + 6)) := by kernel_rfl
attribute [go_sem] fa_204_6
theorem fd_204_6 (cs : List CV) : fieldT Go.Proofs.Tryz.prog 204 (.agg cs) 6 = partT Go.Proofs.Tryz.prog 199 cs 6 := by kernel_rfl
attribute [go_sem] fd_204_6
theorem fa_204_7 (id off : Nat) : fieldAddrT Go.Proofs.Tryz.prog 204 (.ptr id off) 7 = some (.ptr id (off + 7)) := by kernel_rfl
attribute [go_sem] fa_204_7
theorem fd_204_7 (cs : List CV) : fieldT Go.Proofs.Tryz.prog 204 (.agg cs) 7 = partT Go.Proofs.Tryz.prog 200 cs 7 := by kernel_rfl
attribute [go_sem] fd_204_7
theorem fa_204_8 (id off : Nat) : fieldAddrT Go.Proofs.Tryz.prog 204 (.ptr id off) 8 = some (.ptr id (off + 8)) := by kernel_rfl
attribute [go_sem] fa_204_8
theorem fd_204_8 (cs : List CV) : fieldT Go.Proofs.Tryz.prog 204 (.agg cs) 8 = partT Go.Proofs.Tryz.prog 201 cs 8 := by kernel_rfl
attribute [go_sem] fd_204_8
theorem fa_204_9 (id off : Nat) : fieldAddrT Go.Proofs.Tryz.prog 204 (.ptr id off) 9 = some (.ptr id (off + 9)) := by kernel_rfl
attribute [go_sem] fa_204_9
theorem fd_204_9 (cs : List CV) : fieldT Go.Proofs.Tryz.prog 204 (.agg cs) 9 = partT Go.Proofs.Tryz.prog 202 cs 9 := by kernel_rfl
attribute [go_sem] fd_204_9
theorem fa_204_10 (id off : Nat) : fieldAddrT Go.Proofs.Tryz.prog 204 (.ptr id off) 10 = some (.ptr id (off + 10)) := by kernel_rfl
attribute [go_sem] fa_204_10
theorem fd_204_10 (cs : List CV) : fieldT Go.Proofs.Tryz.prog 204 (.agg cs) 10 = partT Go.Proofs.Tryz.prog 203 cs 10 := by kernel_rfl
attribute [go_sem] fd_204_10
theorem sz_205 : szOf Go.Proofs.Tryz.prog 205 = some 11 := by kernel_rfl
attribute [go_sem] sz_205
theorem ld_205 (h : H) (id off : Nat) : loadT Go.Proofs.Tryz.prog h 205 id off = @thn _ _ (h.blk id) ⟨fun b => (b.loadN off 11).map .agg⟩ := by kernel_rfl
attribute [go_sem] ld_205
theorem st_205 (h : H) (id off : Nat) (v : CV) : storeT Go.Proofs.Tryz.prog h 205 id off v = @thn _ _ (h.blk id) ⟨fun b => cond (Nat.beq v.cells.length 11 && !b.ro) ((b.storeA off v.cells).map fun b' => h.put id (.cells b')) none⟩ := by kernel_rfl
attribute [go_sem] st_205
theorem part_205 (cs : List CV) (off : Nat) : partT Go.Proofs.Tryz.prog 205 cs off = some (.agg ((cs.drop off).take 11)) := by kernel_rfl
attribute [go_sem] part_205
theorem ze_205 : zeroT Go.Proofs.Tryz.prog 205 = some (.agg [.int .u64 0, .int .u64 0, .int .u32 0, .int .u8 0, .int .u8 0, .int .u8 0, .int .u8 0, .nilf, .nilp, .int .i32 0, .int .i32 0]) := by kernel_rfl
attribute [go_sem] ze_205
theorem bt_205 (parts : List (Nat × CV)) : buildT Go.Proofs.Tryz.prog 205 parts = finB (CV.cells (.agg [.int .u64 0, .int .u64 0, .int .u32 0, .int .u8 0, .int .u8 0, .int .u8 0, .int .u8 0, .nilf, .nilp, .int .i32 0, .int .i32 0])) (nth [(0, 1), (1, 1), (2, 1), (3, 1), (4, 1), (5, 1), (6, 1), (7, 1), (8, 1), (9, 1), (10, 1)]) parts := by kernel_rfl
attribute [go_sem] bt_205
theorem fa_205_0 (id off : Nat) : fieldAddrT Go.Proofs.Tryz.prog 205 (.ptr id off) 0 = some (.ptr id (off)) := by kernel_rfl
attribute [go_sem] fa_205_0
theorem fd_205_0 (cs : List CV) : fieldT Go.Proofs.Tryz.prog 205 (.agg cs) 0 = partT Go.Proofs.Tryz.prog 12 cs 0 := by kernel_rfl
attribute [go_sem] fd_205_0
theorem fa_205_1 (id off : Nat) : fieldAddrT Go.Proofs.Tryz.prog 205 (.ptr id off) 1 = some (.ptr id (off + 1)) := by kernel_rfl
attribute [go_sem] fa_205_1
theorem fd_205_1 (cs : List CV) : fieldT Go.Proofs.Tryz.prog 205 (.agg cs) 1 = partT Go.Proofs.Tryz.prog 12 cs 1 := by kernel_rfl
attribute [go_sem] fd_205_1
theorem fa_205_2 (id off : Nat) : fieldAddrT Go.Proofs.Tryz.prog 205 (.ptr id off) 2 = some (.ptr id (off + 2)) := by kernel_rfl
attribute [go_sem] fa_205_2
theorem fd_205_2 (cs : List CV) : fieldT Go.Proofs.Tryz.prog 205 (.agg cs) 2 = partT Go.Proofs.Tryz.prog 157 cs 2 := by kernel_rfl
attribute [go_sem] fd_205_2
theorem fa_205_3 (id off : Nat) : fieldAddrT Go.Proofs.Tryz.prog 205 (.ptr id off) 3 = some (.ptr id (off + 3)) := by kernel_rfl
attribute [go_sem] fa_205_3
theorem fd_205_3 (cs : List CV) : fieldT Go.Proofs.Tryz.prog 205 (.agg cs) 3 = partT Go.Proofs.Tryz.prog 198 cs 3 := by kernel_rfl
attribute [go_sem] fd_205_3
theorem fa_205_4 (id off : Nat) : fieldAddrT Go.Proofs.Tryz.prog 205 (.ptr id off) 4 = some (.ptr id (off + 4)) := by kernel_rfl
attribute [go_sem] fa_205_4
theorem fd_205_4 (cs : List CV) : fieldT Go.Proofs.Tryz.prog 205 (.agg cs) 4 = partT Go.Proofs.Tryz.prog 5 cs 4 := by kernel_rfl
attribute [go_sem] fd_205_4
theorem fa_205_5 (id off : Nat) : fieldAddrT Go.Proofs.Tryz.prog 205 (.ptr id off) 5 = some (.ptr id (off + 5)) := by kernel_rfl
attribute [go_sem] fa_205_5
theorem fd_205_5 (cs : List CV) : fieldT Go.Proofs.Tryz.prog 205 (.agg cs) 5 = partT Go.Proofs.Tryz.prog 5 cs 5 := by kernel_rfl
attribute [go_sem] fd_205_5
theorem fa_205_6 (id off : Nat) : fieldAddrT Go.Proofs.Tryz.prog 205 (.ptr id off) 6 = some (.ptr id (off + 6)) := by kernel_rfl
attribute [go_sem] fa_205_6
theorem fd_205_6 (cs : List CV) : fieldT Go.Proofs.Tryz.prog 205 (.agg cs) 6 = partT Go.Proofs.Tryz.prog 199 cs 6 := by kernel_rfl
attribute [go_sem] fd_205_6
theorem fa_205_7 (id off : Nat) : fieldAddrT Go.Proofs.Tryz.prog 205 (.ptr id off) 7 = some (.ptr id (off + 7)) := by kernel_rfl
attribute [go_sem] fa_205_7
theorem fd_205_7 (cs : List CV) : fieldT Go.Proofs.Tryz.prog 205 (.agg cs) 7 = partT Go.Proofs.Tryz.prog 200 cs 7 := by kernel_rfl
attribute [go_sem] fd_205_7
theorem fa_205_8 (id off : Nat) : fieldAddrT Go.Proofs.Tryz.prog 205 (.ptr id off) 8 = some (.ptr id (off + 8)) := by kernel_rfl
attribute [go_sem] fa_205_8
theorem fd_205_8 (cs : List CV) : fieldT Go.Proofs.Tryz.prog 205 (.agg cs) 8 = partT Go.Proofs.Tryz.prog 201 cs 8 := by kernel_rfl
attribute [go_sem] fd_205_8
theorem fa_205_9 (id off : Nat) : fieldAddrT Go.Proofs.Tryz.prog 205 (.ptr id off) 9 = some (.ptr id (off + 9)) := by kernel_rfl
attribute [go_sem] fa_205_9
theorem fd_205_9 (cs : List CV) : fieldT Go.Proofs.Tryz.prog 205 (.agg cs) 9 = partT Go.Proofs.Tryz.prog 202 cs 9 := by kernel_rfl
attribute [go_sem] fd_205_9
theorem fa_205_10 (id off : Nat) : fieldAddrT Go.Proofs.Tryz.prog 205 (.ptr id off) 10 = some (.ptr id (off + 10)) := by kernel_rfl
attribute [go_sem] fa_205_10
theorem fd_205_10 (cs : List CV) : fieldT Go.Proofs.Tryz.prog 205 (.agg cs) 10 = partT Go.Proofs.Tryz.prog 203 cs 10 := by kernel_rfl
attribute [go_sem] fd_205_10
theorem sz_206 : szOf Go.Proofs.Tryz.prog 206 = some 1 := by kernel_rfl
attribute [go_sem] sz_206
theorem ld_206 (h : H) (id off : Nat) : loadT Go.Proofs.Tryz.prog h 206 id off = @thn _ _ (h.blk id) ⟨fun b => b.get off⟩ := by kernel_rfl
attribute [go_sem] ld_206
theorem st_206 (h : H) (id off : Nat) (v : CV) : storeT Go.Proofs.Tryz.prog h 206 id off v = @thn _ _ (h.blk id) ⟨fun b => cond (Nat.beq v.cells.length 1 && !b.ro) ((b.storeA off v.cells).map fun b' => h.put id (.cells b')) none⟩ := by kernel_rfl
attribute [go_sem] st_206
theorem part_206 (cs : List CV) (off : Nat) : partT Go.Proofs.Tryz.prog 206 cs off = nth cs off := by kernel_rfl
attribute [go_sem] part_206
theorem ze_206 : zeroT Go.Proofs.Tryz.prog 206 = some (.nilf) := by kernel_rfl
attribute [go_sem] ze_206
theorem eq_206 (xo yo : Operand) (f : Fn) (a b : List CV) : binT Go.Proofs.Tryz.prog .eql 206 xo yo (.fn f a b) .nilf = some (.bool false) := by kernel_rfl
attribute [go_sem] eq_206
theorem eq_206_n (xo yo : Operand) : binT Go.Proofs.Tryz.prog .eql 206 xo yo .nilf .nilf = some (.bool true) := by kernel_rfl
attribute [go_sem] eq_206_n
theorem ne_206 (xo yo : Operand) (f : Fn) (a b : List CV) : binT Go.Proofs.Tryz.prog .neq 206 xo yo (.fn f a b) .nilf = some (.bool true) := by kernel_rfl
attribute [go_sem] ne_206
theorem ne_206_n (xo yo : Operand) : binT Go.Proofs.Tryz.prog .neq 206 xo yo .nilf .nilf = some (.bool false) := by kernel_rfl
attribute [go_sem] ne_206_n
theorem sz_207 : szOf Go.Proofs.Tryz.prog 207 = some 1 := by kernel_rfl
attribute [go_sem] sz_207
theorem ld_207 (h : H) (id off : Nat) : loadT Go.Proofs.Tryz.prog h 207 id off = @thn _ _ (h.blk id) ⟨fun b => b.get off⟩ := by kernel_rfl
attribute [go_sem] ld_207
theorem st_207 (h : H) (id off : Nat) (v : CV) : storeT Go.Proofs.Tryz.prog h 207 id off v = @thn _ _ (h.blk id) ⟨fun b => cond (Nat.beq v.cells.length 1 && !b.ro) ((b.storeA off v.cells).map fun b' => h.put id (.cells b')) none⟩ := by kernel_rfl
attribute [go_sem] st_207
theorem part_207 (cs : List CV) (off : Nat) : partT Go.Proofs.Tryz.prog 207 cs off = nth cs off := by kernel_rfl
attribute [go_sem] part_207
theorem ze_207 : zeroT Go.Proofs.Tryz.prog 207 = some (.nilp) := by kernel_rfl
attribute [go_sem] ze_207
theorem cv_3_24 (h : H) (k : IntKind) (x : Int) : convT Go.Proofs.Tryz.prog h 3 24 (.int k x) = some (.val (.int .u64 (IntKind.wrap .u64 x))) := by kernel_rfl
attribute [go_sem] cv_3_24
theorem cv_24_3 (h : H) (k : IntKind) (x : Int) : convT Go.Proofs.Tryz.prog h 24 3 (.int k x) = some (.val (.int .i64 (IntKind.wrap .i64 x))) := by kernel_rfl
attribute [go_sem] cv_24_3
theorem cv_24_5 (h : H) (k : IntKind) (x : Int) : convT Go.Proofs.Tryz.prog h 24 5 (.int k x) = some (.val (.int .u8 (IntKind.wrap .u8 x))) := by kernel_rfl
attribute [go_sem] cv_24_5
theorem cv_5_24 (h : H) (k : IntKind) (x : Int) : convT Go.Proofs.Tryz.prog h 5 24 (.int k x) = some (.val (.int .u64 (IntKind.wrap .u64 x))) := by kernel_rfl
attribute [go_sem] cv_5_24
theorem cv_3_146 (h : H) (k : IntKind) (x : Int) : convT Go.Proofs.Tryz.prog h 3 146 (.int k x) = some (.val (.int .u64 (IntKind.wrap .u64 x))) := by kernel_rfl
attribute [go_sem] cv_3_146
theorem cv_146_157 (h : H) (k : IntKind) (x : Int) : convT Go.Proofs.Tryz.prog h 146 157 (.int k x) = some (.val (.int .u32 (IntKind.wrap .u32 x))) := by kernel_rfl
attribute [go_sem] cv_146_157
theorem cv_5_157 (h : H) (k : IntKind) (x : Int) : convT Go.Proofs.Tryz.prog h 5 157 (.int k x) = some (.val (.int .u32 (IntKind.wrap .u32 x))) := by kernel_rfl
attribute [go_sem] cv_5_157
theorem cv_24_157 (h : H) (k : IntKind) (x : Int) : convT Go.Proofs.Tryz.prog h 24 157 (.int k x) = some (.val (.int .u32 (IntKind.wrap .u32 x))) := by kernel_rfl
attribute [go_sem] cv_24_157
theorem cv_157_5 (h : H) (k : IntKind) (x : Int) : convT Go.Proofs.Tryz.prog h 157 5 (.int k x) = some (.val (.int .u8 (IntKind.wrap .u8 x))) := by kernel_rfl
attribute [go_sem] cv_157_5
theorem cv_146_3 (h : H) (k : IntKind) (x : Int) : convT Go.Proofs.Tryz.prog h 146 3 (.int k x) = some (.val (.int .i64 (IntKind.wrap .i64 x))) := by kernel_rfl
attribute [go_sem] cv_146_3
theorem cv_5_3 (h : H) (k : IntKind) (x : Int) : convT Go.Proofs.Tryz.prog h 5 3 (.int k x) = some (.val (.int .i64 (IntKind.wrap .i64 x))) := by kernel_rfl
attribute [go_sem] cv_5_3
theorem eq_20 (xo yo : Operand) (u : TypeId) (v : CV) : binT Go.Proofs.Tryz.prog .eql 20 xo yo (.ifc u v) .nili = some (.bool false) := by kernel_rfl
attribute [go_sem] eq_20
theorem eq_20_n (n : Nat) (v : Value) : binT Go.Proofs.Tryz.prog .eql 20 (.tmp n) (.const v) .nili .nili = some (.bool true) := by kernel_rfl
attribute [go_sem] eq_20_n
theorem ne_20 (xo yo : Operand) (u : TypeId) (v : CV) : binT Go.Proofs.Tryz.prog .neq 20 xo yo (.ifc u v) .nili = some (.bool true) := by kernel_rfl
attribute [go_sem] ne_20
theorem ne_20_n (n : Nat) (v : Value) : binT Go.Proofs.Tryz.prog .neq 20 (.tmp n) (.const v) .nili .nili = some (.bool false) := by kernel_rfl
attribute [go_sem] ne_20_n
theorem fn_109 : nth Go.Proofs.Tryz.prog.funcs.toList 109 = some Go.Proofs.Tryz.f109 := by kernel_rfl
attribute [go_sem] fn_109
theorem tx_109 : isTextO Go.Proofs.Tryz.prog 109 = some () := by kernel_rfl
attribute [go_sem] tx_109
theorem fn_120 : nth Go.Proofs.Tryz.prog.funcs.toList 120 = some Go.Proofs.Tryz.f120 := by kernel_rfl
attribute [go_sem] fn_120
theorem tx_120 : isTextO Go.Proofs.Tryz.prog 120 = some () := by kernel_rfl
attribute [go_sem] tx_120
theorem fn_121 : nth Go.Proofs.Tryz.prog.funcs.toList 121 = some Go.Proofs.Tryz.f121 := by kernel_rfl
attribute [go_sem] fn_121
theorem tx_121 : isTextO Go.Proofs.Tryz.prog 121 = some () := by kernel_rfl
attribute [go_sem] tx_121
theorem fn_122 : nth Go.Proofs.Tryz.prog.funcs.toList 122 = some Go.Proofs.Tryz.f122 := by kernel_rfl
attribute [go_sem] fn_122
theorem tx_122 : isTextO Go.Proofs.Tryz.prog 122 = some () := by kernel_rfl
attribute [go_sem] tx_122
theorem fn_123 : nth Go.Proofs.Tryz.prog.funcs.toList 123 = some Go.Proofs.Tryz.f123 := by kernel_rfl
attribute [go_sem] fn_123
theorem tx_123 : isTextO Go.Proofs.Tryz.prog 123 = some () := by kernel_rfl
attribute [go_sem] tx_123
theorem fn_135 : nth Go.Proofs.Tryz.prog.funcs.toList 135 = some Go.Proofs.Tryz.f135 := by kernel_rfl
attribute [go_sem] fn_135
theorem tx_135 : isTextO Go.Proofs.Tryz.prog 135 = some () := by kernel_rfl
attribute [go_sem] tx_135
theorem fn_136 : nth Go.Proofs.Tryz.prog.funcs.toList 136 = some Go.Proofs.Tryz.f136 := by kernel_rfl
attribute [go_sem] fn_136
theorem tx_136 : isTextO Go.Proofs.Tryz.prog 136 = some () := by kernel_rfl
attribute [go_sem] tx_136
theorem fn_137 : nth Go.Proofs.Tryz.prog.funcs.toList 137 = some Go.Proofs.Tryz.f137 := by kernel_rfl
attribute [go_sem] fn_137
theorem tx_137 : isTextO Go.Proofs.Tryz.prog 137 = some () := by kernel_rfl
attribute [go_sem] tx_137
theorem fn_138 : nth Go.Proofs.Tryz.prog.funcs.toList 138 = some Go.Proofs.Tryz.f138 := by kernel_rfl
attribute [go_sem] fn_138
theorem tx_138 : isTextO Go.Proofs.Tryz.prog 138 = some () := by kernel_rfl
attribute [go_sem] tx_138
theorem fn_145 : nth Go.Proofs.Tryz.prog.funcs.toList 145 = some Go.Proofs.Tryz.f145 := by kernel_rfl
attribute [go_sem] fn_145
theorem tx_145 : isTextO Go.Proofs.Tryz.prog 145 = some () := by kernel_rfl
attribute [go_sem] tx_145
theorem fn_146 : nth Go.Proofs.Tryz.prog.funcs.toList 146 = some Go.Proofs.Tryz.f146 := by kernel_rfl
attribute [go_sem] fn_146
theorem tx_146 : isTextO Go.Proofs.Tryz.prog 146 = some () := by kernel_rfl
attribute [go_sem] tx_146
end Go.Cl.Sh
