/- Facts of the program's tables, each read off by the kernel. -/
import Derived.Attr
import Derived.KernelRfl
import Derived.Test.YtifjdkohbhpmpaaDoorProg
import Derived.Test.YtifjdkohbhpmpaaDoorClG
set_option linter.all false
namespace Go.Cl.Sh
open Go Go.Cl
theorem sz_0 : szOf Go.Proofs.Tryd.prog 0 = some 1 := by kernel_rfl
attribute [go_sem] sz_0
theorem ld_0 (h : H) (id off : Nat) : loadT Go.Proofs.Tryd.prog h 0 id off = @thn _ _ (h.blk id) ⟨fun b => b.get off⟩ := by kernel_rfl
attribute [go_sem] ld_0
theorem st_0 (h : H) (id off : Nat) (v : CV) : storeT Go.Proofs.Tryd.prog h 0 id off v = @thn _ _ (h.blk id) ⟨fun b => cond (Nat.beq v.cells.length 1 && !b.ro) ((b.storeA off v.cells).map fun b' => h.put id (.cells b')) none⟩ := by kernel_rfl
attribute [go_sem] st_0
theorem part_0 (cs : List CV) (off : Nat) : partT Go.Proofs.Tryd.prog 0 cs off = nth cs off := by kernel_rfl
attribute [go_sem] part_0
theorem sz_1 : szOf Go.Proofs.Tryd.prog 1 = some 1 := by kernel_rfl
attribute [go_sem] sz_1
theorem ld_1 (h : H) (id off : Nat) : loadT Go.Proofs.Tryd.prog h 1 id off = @thn _ _ (h.blk id) ⟨fun b => b.get off⟩ := by kernel_rfl
attribute [go_sem] ld_1
theorem st_1 (h : H) (id off : Nat) (v : CV) : storeT Go.Proofs.Tryd.prog h 1 id off v = @thn _ _ (h.blk id) ⟨fun b => cond (Nat.beq v.cells.length 1 && !b.ro) ((b.storeA off v.cells).map fun b' => h.put id (.cells b')) none⟩ := by kernel_rfl
attribute [go_sem] st_1
theorem part_1 (cs : List CV) (off : Nat) : partT Go.Proofs.Tryd.prog 1 cs off = nth cs off := by kernel_rfl
attribute [go_sem] part_1
theorem ze_1 : zeroT Go.Proofs.Tryd.prog 1 = some (.nilf) := by kernel_rfl
attribute [go_sem] ze_1
theorem eq_1 (xo yo : Operand) (f : Fn) (a b : List CV) : binT Go.Proofs.Tryd.prog .eql 1 xo yo (.fn f a b) .nilf = some (.bool false) := by kernel_rfl
attribute [go_sem] eq_1
theorem eq_1_n (xo yo : Operand) : binT Go.Proofs.Tryd.prog .eql 1 xo yo .nilf .nilf = some (.bool true) := by kernel_rfl
attribute [go_sem] eq_1_n
theorem ne_1 (xo yo : Operand) (f : Fn) (a b : List CV) : binT Go.Proofs.Tryd.prog .neq 1 xo yo (.fn f a b) .nilf = some (.bool true) := by kernel_rfl
attribute [go_sem] ne_1
theorem ne_1_n (xo yo : Operand) : binT Go.Proofs.Tryd.prog .neq 1 xo yo .nilf .nilf = some (.bool false) := by kernel_rfl
attribute [go_sem] ne_1_n
theorem sz_2 : szOf Go.Proofs.Tryd.prog 2 = some 1 := by kernel_rfl
attribute [go_sem] sz_2
theorem ld_2 (h : H) (id off : Nat) : loadT Go.Proofs.Tryd.prog h 2 id off = @thn _ _ (h.blk id) ⟨fun b => b.get off⟩ := by kernel_rfl
attribute [go_sem] ld_2
theorem st_2 (h : H) (id off : Nat) (v : CV) : storeT Go.Proofs.Tryd.prog h 2 id off v = @thn _ _ (h.blk id) ⟨fun b => cond (Nat.beq v.cells.length 1 && !b.ro) ((b.storeA off v.cells).map fun b' => h.put id (.cells b')) none⟩ := by kernel_rfl
attribute [go_sem] st_2
theorem part_2 (cs : List CV) (off : Nat) : partT Go.Proofs.Tryd.prog 2 cs off = nth cs off := by kernel_rfl
attribute [go_sem] part_2
theorem ze_2 : zeroT Go.Proofs.Tryd.prog 2 = some (.int .i64 0) := by kernel_rfl
attribute [go_sem] ze_2
theorem sz_3 : szOf Go.Proofs.Tryd.prog 3 = some 1 := by kernel_rfl
attribute [go_sem] sz_3
theorem ld_3 (h : H) (id off : Nat) : loadT Go.Proofs.Tryd.prog h 3 id off = @thn _ _ (h.blk id) ⟨fun b => b.get off⟩ := by kernel_rfl
attribute [go_sem] ld_3
theorem st_3 (h : H) (id off : Nat) (v : CV) : storeT Go.Proofs.Tryd.prog h 3 id off v = @thn _ _ (h.blk id) ⟨fun b => cond (Nat.beq v.cells.length 1 && !b.ro) ((b.storeA off v.cells).map fun b' => h.put id (.cells b')) none⟩ := by kernel_rfl
attribute [go_sem] st_3
theorem part_3 (cs : List CV) (off : Nat) : partT Go.Proofs.Tryd.prog 3 cs off = nth cs off := by kernel_rfl
attribute [go_sem] part_3
theorem ze_3 : zeroT Go.Proofs.Tryd.prog 3 = some (.int .i64 0) := by kernel_rfl
attribute [go_sem] ze_3
theorem sz_4 : szOf Go.Proofs.Tryd.prog 4 = some 1 := by kernel_rfl
attribute [go_sem] sz_4
theorem ld_4 (h : H) (id off : Nat) : loadT Go.Proofs.Tryd.prog h 4 id off = @thn _ _ (h.blk id) ⟨fun b => b.get off⟩ := by kernel_rfl
attribute [go_sem] ld_4
theorem st_4 (h : H) (id off : Nat) (v : CV) : storeT Go.Proofs.Tryd.prog h 4 id off v = @thn _ _ (h.blk id) ⟨fun b => cond (Nat.beq v.cells.length 1 && !b.ro) ((b.storeA off v.cells).map fun b' => h.put id (.cells b')) none⟩ := by kernel_rfl
attribute [go_sem] st_4
theorem part_4 (cs : List CV) (off : Nat) : partT Go.Proofs.Tryd.prog 4 cs off = nth cs off := by kernel_rfl
attribute [go_sem] part_4
theorem ze_4 : zeroT Go.Proofs.Tryd.prog 4 = some (.bool false) := by kernel_rfl
attribute [go_sem] ze_4
theorem eq_4 (xo yo : Operand) (a b : Bool) : binT Go.Proofs.Tryd.prog .eql 4 xo yo (.bool a) (.bool b) = some (.bool (a == b)) := by kernel_rfl
attribute [go_sem] eq_4
theorem ne_4 (xo yo : Operand) (a b : Bool) : binT Go.Proofs.Tryd.prog .neq 4 xo yo (.bool a) (.bool b) = some (.bool (!(a == b))) := by kernel_rfl
attribute [go_sem] ne_4
theorem sz_5 : szOf Go.Proofs.Tryd.prog 5 = some 1 := by kernel_rfl
attribute [go_sem] sz_5
theorem ld_5 (h : H) (id off : Nat) : loadT Go.Proofs.Tryd.prog h 5 id off = @thn _ _ (h.blk id) ⟨fun b => b.get off⟩ := by kernel_rfl
attribute [go_sem] ld_5
theorem st_5 (h : H) (id off : Nat) (v : CV) : storeT Go.Proofs.Tryd.prog h 5 id off v = @thn _ _ (h.blk id) ⟨fun b => cond (Nat.beq v.cells.length 1 && !b.ro) ((b.storeA off v.cells).map fun b' => h.put id (.cells b')) none⟩ := by kernel_rfl
attribute [go_sem] st_5
theorem part_5 (cs : List CV) (off : Nat) : partT Go.Proofs.Tryd.prog 5 cs off = nth cs off := by kernel_rfl
attribute [go_sem] part_5
theorem ze_5 : zeroT Go.Proofs.Tryd.prog 5 = some (.int .u8 0) := by kernel_rfl
attribute [go_sem] ze_5
theorem sz_6 : szOf Go.Proofs.Tryd.prog 6 = some 1 := by kernel_rfl
attribute [go_sem] sz_6
theorem ld_6 (h : H) (id off : Nat) : loadT Go.Proofs.Tryd.prog h 6 id off = @thn _ _ (h.blk id) ⟨fun b => b.get off⟩ := by kernel_rfl
attribute [go_sem] ld_6
theorem st_6 (h : H) (id off : Nat) (v : CV) : storeT Go.Proofs.Tryd.prog h 6 id off v = @thn _ _ (h.blk id) ⟨fun b => cond (Nat.beq v.cells.length 1 && !b.ro) ((b.storeA off v.cells).map fun b' => h.put id (.cells b')) none⟩ := by kernel_rfl
attribute [go_sem] st_6
theorem part_6 (cs : List CV) (off : Nat) : partT Go.Proofs.Tryd.prog 6 cs off = nth cs off := by kernel_rfl
attribute [go_sem] part_6
theorem ze_6 : zeroT Go.Proofs.Tryd.prog 6 = some (.int .u8 0) := by kernel_rfl
attribute [go_sem] ze_6
theorem sz_7 : szOf Go.Proofs.Tryd.prog 7 = some 4 := by kernel_rfl
attribute [go_sem] sz_7
theorem ld_7 (h : H) (id off : Nat) : loadT Go.Proofs.Tryd.prog h 7 id off = @thn _ _ (h.blk id) ⟨fun b => (b.loadN off 4).map .agg⟩ := by kernel_rfl
attribute [go_sem] ld_7
theorem st_7 (h : H) (id off : Nat) (v : CV) : storeT Go.Proofs.Tryd.prog h 7 id off v = @thn _ _ (h.blk id) ⟨fun b => cond (Nat.beq v.cells.length 4 && !b.ro) ((b.storeA off v.cells).map fun b' => h.put id (.cells b')) none⟩ := by kernel_rfl
attribute [go_sem] st_7
theorem part_7 (cs : List CV) (off : Nat) : partT Go.Proofs.Tryd.prog 7 cs off = some (.agg ((cs.drop off).take 4)) := by kernel_rfl
attribute [go_sem] part_7
theorem ze_7 : zeroT Go.Proofs.Tryd.prog 7 = some (.agg [.int .i64 0, .int .i64 0, .bool false, .int .u8 0]) := by kernel_rfl
attribute [go_sem] ze_7
theorem bt_7 (parts : List (Nat × CV)) : buildT Go.Proofs.Tryd.prog 7 parts = finB (CV.cells (.agg [.int .i64 0, .int .i64 0, .bool false, .int .u8 0])) (nth [(0, 1), (1, 1), (2, 1), (3, 1)]) parts := by kernel_rfl
attribute [go_sem] bt_7
theorem fa_7_0 (id off : Nat) : fieldAddrT Go.Proofs.Tryd.prog 7 (.ptr id off) 0 = some (.ptr id (off)) := by kernel_rfl
attribute [go_sem] fa_7_0
theorem fd_7_0 (cs : List CV) : fieldT Go.Proofs.Tryd.prog 7 (.agg cs) 0 = partT Go.Proofs.Tryd.prog 2 cs 0 := by kernel_rfl
attribute [go_sem] fd_7_0
theorem fa_7_1 (id off : Nat) : fieldAddrT Go.Proofs.Tryd.prog 7 (.ptr id off) 1 = some (.ptr id (off + 1)) := by kernel_rfl
attribute [go_sem] fa_7_1
theorem fd_7_1 (cs : List CV) : fieldT Go.Proofs.Tryd.prog 7 (.agg cs) 1 = partT Go.Proofs.Tryd.prog 3 cs 1 := by kernel_rfl
attribute [go_sem] fd_7_1
theorem fa_7_2 (id off : Nat) : fieldAddrT Go.Proofs.Tryd.prog 7 (.ptr id off) 2 = some (.ptr id (off + 2)) := by kernel_rfl
attribute [go_sem] fa_7_2
theorem fd_7_2 (cs : List CV) : fieldT Go.Proofs.Tryd.prog 7 (.agg cs) 2 = partT Go.Proofs.Tryd.prog 4 cs 2 := by kernel_rfl
attribute [go_sem] fd_7_2
theorem fa_7_3 (id off : Nat) : fieldAddrT Go.Proofs.Tryd.prog 7 (.ptr id off) 3 = some (.ptr id (off + 3)) := by kernel_rfl
attribute [go_sem] fa_7_3
theorem fd_7_3 (cs : List CV) : fieldT Go.Proofs.Tryd.prog 7 (.agg cs) 3 = partT Go.Proofs.Tryd.prog 6 cs 3 := by kernel_rfl
attribute [go_sem] fd_7_3
theorem sz_8 : szOf Go.Proofs.Tryd.prog 8 = some 4 := by kernel_rfl
attribute [go_sem] sz_8
theorem ld_8 (h : H) (id off : Nat) : loadT Go.Proofs.Tryd.prog h 8 id off = @thn _ _ (h.blk id) ⟨fun b => (b.loadN off 4).map .agg⟩ := by kernel_rfl
attribute [go_sem] ld_8
theorem st_8 (h : H) (id off : Nat) (v : CV) : storeT Go.Proofs.Tryd.prog h 8 id off v = @thn _ _ (h.blk id) ⟨fun b => cond (Nat.beq v.cells.length 4 && !b.ro) ((b.storeA off v.cells).map fun b' => h.put id (.cells b')) none⟩ := by kernel_rfl
attribute [go_sem] st_8
theorem part_8 (cs : List CV) (off : Nat) : partT Go.Proofs.Tryd.prog 8 cs off = some (.agg ((cs.drop off).take 4)) := by kernel_rfl
attribute [go_sem] part_8
theorem ze_8 : zeroT Go.Proofs.Tryd.prog 8 = some (.agg [.int .i64 0, .int .i64 0, .bool false, .int .u8 0]) := by kernel_rfl
attribute [go_sem] ze_8
theorem bt_8 (parts : List (Nat × CV)) : buildT Go.Proofs.Tryd.prog 8 parts = finB (CV.cells (.agg [.int .i64 0, .int .i64 0, .bool false, .int .u8 0])) (nth [(0, 1), (1, 1), (2, 1), (3, 1)]) parts := by kernel_rfl
attribute [go_sem] bt_8
theorem fa_8_0 (id off : Nat) : fieldAddrT Go.Proofs.Tryd.prog 8 (.ptr id off) 0 = some (.ptr id (off)) := by kernel_rfl
attribute [go_sem] fa_8_0
theorem fd_8_0 (cs : List CV) : fieldT Go.Proofs.Tryd.prog 8 (.agg cs) 0 = partT Go.Proofs.Tryd.prog 2 cs 0 := by kernel_rfl
attribute [go_sem] fd_8_0
theorem fa_8_1 (id off : Nat) : fieldAddrT Go.Proofs.Tryd.prog 8 (.ptr id off) 1 = some (.ptr id (off + 1)) := by kernel_rfl
attribute [go_sem] fa_8_1
theorem fd_8_1 (cs : List CV) : fieldT Go.Proofs.Tryd.prog 8 (.agg cs) 1 = partT Go.Proofs.Tryd.prog 3 cs 1 := by kernel_rfl
attribute [go_sem] fd_8_1
theorem fa_8_2 (id off : Nat) : fieldAddrT Go.Proofs.Tryd.prog 8 (.ptr id off) 2 = some (.ptr id (off + 2)) := by kernel_rfl
attribute [go_sem] fa_8_2
theorem fd_8_2 (cs : List CV) : fieldT Go.Proofs.Tryd.prog 8 (.agg cs) 2 = partT Go.Proofs.Tryd.prog 4 cs 2 := by kernel_rfl
attribute [go_sem] fd_8_2
theorem fa_8_3 (id off : Nat) : fieldAddrT Go.Proofs.Tryd.prog 8 (.ptr id off) 3 = some (.ptr id (off + 3)) := by kernel_rfl
attribute [go_sem] fa_8_3
theorem fd_8_3 (cs : List CV) : fieldT Go.Proofs.Tryd.prog 8 (.agg cs) 3 = partT Go.Proofs.Tryd.prog 6 cs 3 := by kernel_rfl
attribute [go_sem] fd_8_3
theorem sz_9 : szOf Go.Proofs.Tryd.prog 9 = some 1 := by kernel_rfl
attribute [go_sem] sz_9
theorem ld_9 (h : H) (id off : Nat) : loadT Go.Proofs.Tryd.prog h 9 id off = @thn _ _ (h.blk id) ⟨fun b => b.get off⟩ := by kernel_rfl
attribute [go_sem] ld_9
theorem st_9 (h : H) (id off : Nat) (v : CV) : storeT Go.Proofs.Tryd.prog h 9 id off v = @thn _ _ (h.blk id) ⟨fun b => cond (Nat.beq v.cells.length 1 && !b.ro) ((b.storeA off v.cells).map fun b' => h.put id (.cells b')) none⟩ := by kernel_rfl
attribute [go_sem] st_9
theorem part_9 (cs : List CV) (off : Nat) : partT Go.Proofs.Tryd.prog 9 cs off = nth cs off := by kernel_rfl
attribute [go_sem] part_9
theorem ze_9 : zeroT Go.Proofs.Tryd.prog 9 = some (.str []) := by kernel_rfl
attribute [go_sem] ze_9
theorem ix_9 (s : List Nat) (k : Nat) (kd : IntKind) : indexT Go.Proofs.Tryd.prog 9 (.str s) (.int kd (Int.ofNat k)) = (nth s k).map fun b => .int .u8 (Int.ofNat b) := by kernel_rfl
attribute [go_sem] ix_9
theorem len_9 (h : H) (ts : List TypeId) (az : List CV) (s : List Nat) : builtinT Go.Proofs.Tryd.prog h .len (9 :: ts) (.str s :: az) = some (.val (.int .i64 (Int.ofNat s.length))) := by kernel_rfl
attribute [go_sem] len_9
theorem sz_10 : szOf Go.Proofs.Tryd.prog 10 = some 1 := by kernel_rfl
attribute [go_sem] sz_10
theorem ld_10 (h : H) (id off : Nat) : loadT Go.Proofs.Tryd.prog h 10 id off = @thn _ _ (h.blk id) ⟨fun b => b.get off⟩ := by kernel_rfl
attribute [go_sem] ld_10
theorem st_10 (h : H) (id off : Nat) (v : CV) : storeT Go.Proofs.Tryd.prog h 10 id off v = @thn _ _ (h.blk id) ⟨fun b => cond (Nat.beq v.cells.length 1 && !b.ro) ((b.storeA off v.cells).map fun b' => h.put id (.cells b')) none⟩ := by kernel_rfl
attribute [go_sem] st_10
theorem part_10 (cs : List CV) (off : Nat) : partT Go.Proofs.Tryd.prog 10 cs off = nth cs off := by kernel_rfl
attribute [go_sem] part_10
theorem ze_10 : zeroT Go.Proofs.Tryd.prog 10 = some (.str []) := by kernel_rfl
attribute [go_sem] ze_10
theorem ix_10 (s : List Nat) (k : Nat) (kd : IntKind) : indexT Go.Proofs.Tryd.prog 10 (.str s) (.int kd (Int.ofNat k)) = (nth s k).map fun b => .int .u8 (Int.ofNat b) := by kernel_rfl
attribute [go_sem] ix_10
theorem len_10 (h : H) (ts : List TypeId) (az : List CV) (s : List Nat) : builtinT Go.Proofs.Tryd.prog h .len (10 :: ts) (.str s :: az) = some (.val (.int .i64 (Int.ofNat s.length))) := by kernel_rfl
attribute [go_sem] len_10
theorem sz_11 : szOf Go.Proofs.Tryd.prog 11 = some 1 := by kernel_rfl
attribute [go_sem] sz_11
theorem ld_11 (h : H) (id off : Nat) : loadT Go.Proofs.Tryd.prog h 11 id off = @thn _ _ (h.blk id) ⟨fun b => b.get off⟩ := by kernel_rfl
attribute [go_sem] ld_11
theorem st_11 (h : H) (id off : Nat) (v : CV) : storeT Go.Proofs.Tryd.prog h 11 id off v = @thn _ _ (h.blk id) ⟨fun b => cond (Nat.beq v.cells.length 1 && !b.ro) ((b.storeA off v.cells).map fun b' => h.put id (.cells b')) none⟩ := by kernel_rfl
attribute [go_sem] st_11
theorem part_11 (cs : List CV) (off : Nat) : partT Go.Proofs.Tryd.prog 11 cs off = nth cs off := by kernel_rfl
attribute [go_sem] part_11
theorem ze_11 : zeroT Go.Proofs.Tryd.prog 11 = some (.str []) := by kernel_rfl
attribute [go_sem] ze_11
theorem ix_11 (s : List Nat) (k : Nat) (kd : IntKind) : indexT Go.Proofs.Tryd.prog 11 (.str s) (.int kd (Int.ofNat k)) = (nth s k).map fun b => .int .u8 (Int.ofNat b) := by kernel_rfl
attribute [go_sem] ix_11
theorem len_11 (h : H) (ts : List TypeId) (az : List CV) (s : List Nat) : builtinT Go.Proofs.Tryd.prog h .len (11 :: ts) (.str s :: az) = some (.val (.int .i64 (Int.ofNat s.length))) := by kernel_rfl
attribute [go_sem] len_11
theorem sz_12 : szOf Go.Proofs.Tryd.prog 12 = some 1 := by kernel_rfl
attribute [go_sem] sz_12
theorem ld_12 (h : H) (id off : Nat) : loadT Go.Proofs.Tryd.prog h 12 id off = @thn _ _ (h.blk id) ⟨fun b => b.get off⟩ := by kernel_rfl
attribute [go_sem] ld_12
theorem st_12 (h : H) (id off : Nat) (v : CV) : storeT Go.Proofs.Tryd.prog h 12 id off v = @thn _ _ (h.blk id) ⟨fun b => cond (Nat.beq v.cells.length 1 && !b.ro) ((b.storeA off v.cells).map fun b' => h.put id (.cells b')) none⟩ := by kernel_rfl
attribute [go_sem] st_12
theorem part_12 (cs : List CV) (off : Nat) : partT Go.Proofs.Tryd.prog 12 cs off = nth cs off := by kernel_rfl
attribute [go_sem] part_12
theorem ze_12 : zeroT Go.Proofs.Tryd.prog 12 = some (.int .u64 0) := by kernel_rfl
attribute [go_sem] ze_12
theorem sz_13 : szOf Go.Proofs.Tryd.prog 13 = some 2 := by kernel_rfl
attribute [go_sem] sz_13
theorem ld_13 (h : H) (id off : Nat) : loadT Go.Proofs.Tryd.prog h 13 id off = @thn _ _ (h.blk id) ⟨fun b => (b.loadN off 2).map .agg⟩ := by kernel_rfl
attribute [go_sem] ld_13
theorem st_13 (h : H) (id off : Nat) (v : CV) : storeT Go.Proofs.Tryd.prog h 13 id off v = @thn _ _ (h.blk id) ⟨fun b => cond (Nat.beq v.cells.length 2 && !b.ro) ((b.storeA off v.cells).map fun b' => h.put id (.cells b')) none⟩ := by kernel_rfl
attribute [go_sem] st_13
theorem part_13 (cs : List CV) (off : Nat) : partT Go.Proofs.Tryd.prog 13 cs off = some (.agg ((cs.drop off).take 2)) := by kernel_rfl
attribute [go_sem] part_13
theorem ze_13 : zeroT Go.Proofs.Tryd.prog 13 = some (.agg [.str [], .int .u64 0]) := by kernel_rfl
attribute [go_sem] ze_13
theorem bt_13 (parts : List (Nat × CV)) : buildT Go.Proofs.Tryd.prog 13 parts = finB (CV.cells (.agg [.str [], .int .u64 0])) (nth [(0, 1), (1, 1)]) parts := by kernel_rfl
attribute [go_sem] bt_13
theorem fa_13_0 (id off : Nat) : fieldAddrT Go.Proofs.Tryd.prog 13 (.ptr id off) 0 = some (.ptr id (off)) := by kernel_rfl
attribute [go_sem] fa_13_0
theorem fd_13_0 (cs : List CV) : fieldT Go.Proofs.Tryd.prog 13 (.agg cs) 0 = partT Go.Proofs.Tryd.prog 9 cs 0 := by kernel_rfl
attribute [go_sem] fd_13_0
theorem fa_13_1 (id off : Nat) : fieldAddrT Go.Proofs.Tryd.prog 13 (.ptr id off) 1 = some (.ptr id (off + 1)) := by kernel_rfl
attribute [go_sem] fa_13_1
theorem fd_13_1 (cs : List CV) : fieldT Go.Proofs.Tryd.prog 13 (.agg cs) 1 = partT Go.Proofs.Tryd.prog 12 cs 1 := by kernel_rfl
attribute [go_sem] fd_13_1
theorem sz_14 : szOf Go.Proofs.Tryd.prog 14 = some 2 := by kernel_rfl
attribute [go_sem] sz_14
theorem ld_14 (h : H) (id off : Nat) : loadT Go.Proofs.Tryd.prog h 14 id off = @thn _ _ (h.blk id) ⟨fun b => (b.loadN off 2).map .agg⟩ := by kernel_rfl
attribute [go_sem] ld_14
theorem st_14 (h : H) (id off : Nat) (v : CV) : storeT Go.Proofs.Tryd.prog h 14 id off v = @thn _ _ (h.blk id) ⟨fun b => cond (Nat.beq v.cells.length 2 && !b.ro) ((b.storeA off v.cells).map fun b' => h.put id (.cells b')) none⟩ := by kernel_rfl
attribute [go_sem] st_14
theorem part_14 (cs : List CV) (off : Nat) : partT Go.Proofs.Tryd.prog 14 cs off = some (.agg ((cs.drop off).take 2)) := by kernel_rfl
attribute [go_sem] part_14
theorem ze_14 : zeroT Go.Proofs.Tryd.prog 14 = some (.agg [.str [], .int .u64 0]) := by kernel_rfl
attribute [go_sem] ze_14
theorem bt_14 (parts : List (Nat × CV)) : buildT Go.Proofs.Tryd.prog 14 parts = finB (CV.cells (.agg [.str [], .int .u64 0])) (nth [(0, 1), (1, 1)]) parts := by kernel_rfl
attribute [go_sem] bt_14
theorem fa_14_0 (id off : Nat) : fieldAddrT Go.Proofs.Tryd.prog 14 (.ptr id off) 0 = some (.ptr id (off)) := by kernel_rfl
attribute [go_sem] fa_14_0
theorem fd_14_0 (cs : List CV) : fieldT Go.Proofs.Tryd.prog 14 (.agg cs) 0 = partT Go.Proofs.Tryd.prog 9 cs 0 := by kernel_rfl
attribute [go_sem] fd_14_0
theorem fa_14_1 (id off : Nat) : fieldAddrT Go.Proofs.Tryd.prog 14 (.ptr id off) 1 = some (.ptr id (off + 1)) := by kernel_rfl
attribute [go_sem] fa_14_1
theorem fd_14_1 (cs : List CV) : fieldT Go.Proofs.Tryd.prog 14 (.agg cs) 1 = partT Go.Proofs.Tryd.prog 12 cs 1 := by kernel_rfl
attribute [go_sem] fd_14_1
theorem sz_15 : szOf Go.Proofs.Tryd.prog 15 = some 1 := by kernel_rfl
attribute [go_sem] sz_15
theorem ld_15 (h : H) (id off : Nat) : loadT Go.Proofs.Tryd.prog h 15 id off = @thn _ _ (h.blk id) ⟨fun b => b.get off⟩ := by kernel_rfl
attribute [go_sem] ld_15
theorem st_15 (h : H) (id off : Nat) (v : CV) : storeT Go.Proofs.Tryd.prog h 15 id off v = @thn _ _ (h.blk id) ⟨fun b => cond (Nat.beq v.cells.length 1 && !b.ro) ((b.storeA off v.cells).map fun b' => h.put id (.cells b')) none⟩ := by kernel_rfl
attribute [go_sem] st_15
theorem part_15 (cs : List CV) (off : Nat) : partT Go.Proofs.Tryd.prog 15 cs off = nth cs off := by kernel_rfl
attribute [go_sem] part_15
theorem ze_15 : zeroT Go.Proofs.Tryd.prog 15 = some (.nilp) := by kernel_rfl
attribute [go_sem] ze_15
theorem eq_15 (xo yo : Operand) (a b : Nat) : binT Go.Proofs.Tryd.prog .eql 15 xo yo (.ptr a b) .nilp = some (.bool false) := by kernel_rfl
attribute [go_sem] eq_15
theorem eq_15_n (xo yo : Operand) : binT Go.Proofs.Tryd.prog .eql 15 xo yo .nilp .nilp = some (.bool true) := by kernel_rfl
attribute [go_sem] eq_15_n
theorem ne_15 (xo yo : Operand) (a b : Nat) : binT Go.Proofs.Tryd.prog .neq 15 xo yo (.ptr a b) .nilp = some (.bool true) := by kernel_rfl
attribute [go_sem] ne_15
theorem ne_15_n (xo yo : Operand) : binT Go.Proofs.Tryd.prog .neq 15 xo yo .nilp .nilp = some (.bool false) := by kernel_rfl
attribute [go_sem] ne_15_n
theorem sz_16 : szOf Go.Proofs.Tryd.prog 16 = some 1 := by kernel_rfl
attribute [go_sem] sz_16
theorem ld_16 (h : H) (id off : Nat) : loadT Go.Proofs.Tryd.prog h 16 id off = @thn _ _ (h.blk id) ⟨fun b => b.get off⟩ := by kernel_rfl
attribute [go_sem] ld_16
theorem st_16 (h : H) (id off : Nat) (v : CV) : storeT Go.Proofs.Tryd.prog h 16 id off v = @thn _ _ (h.blk id) ⟨fun b => cond (Nat.beq v.cells.length 1 && !b.ro) ((b.storeA off v.cells).map fun b' => h.put id (.cells b')) none⟩ := by kernel_rfl
attribute [go_sem] st_16
theorem part_16 (cs : List CV) (off : Nat) : partT Go.Proofs.Tryd.prog 16 cs off = nth cs off := by kernel_rfl
attribute [go_sem] part_16
theorem ze_16 : zeroT Go.Proofs.Tryd.prog 16 = some (.nilp) := by kernel_rfl
attribute [go_sem] ze_16
theorem eq_16 (xo yo : Operand) (a b : Nat) : binT Go.Proofs.Tryd.prog .eql 16 xo yo (.ptr a b) .nilp = some (.bool false) := by kernel_rfl
attribute [go_sem] eq_16
theorem eq_16_n (xo yo : Operand) : binT Go.Proofs.Tryd.prog .eql 16 xo yo .nilp .nilp = some (.bool true) := by kernel_rfl
attribute [go_sem] eq_16_n
theorem ne_16 (xo yo : Operand) (a b : Nat) : binT Go.Proofs.Tryd.prog .neq 16 xo yo (.ptr a b) .nilp = some (.bool true) := by kernel_rfl
attribute [go_sem] ne_16
theorem ne_16_n (xo yo : Operand) : binT Go.Proofs.Tryd.prog .neq 16 xo yo .nilp .nilp = some (.bool false) := by kernel_rfl
attribute [go_sem] ne_16_n
theorem sz_17 : szOf Go.Proofs.Tryd.prog 17 = some 1 := by kernel_rfl
attribute [go_sem] sz_17
theorem ld_17 (h : H) (id off : Nat) : loadT Go.Proofs.Tryd.prog h 17 id off = @thn _ _ (h.blk id) ⟨fun b => b.get off⟩ := by kernel_rfl
attribute [go_sem] ld_17
theorem st_17 (h : H) (id off : Nat) (v : CV) : storeT Go.Proofs.Tryd.prog h 17 id off v = @thn _ _ (h.blk id) ⟨fun b => cond (Nat.beq v.cells.length 1 && !b.ro) ((b.storeA off v.cells).map fun b' => h.put id (.cells b')) none⟩ := by kernel_rfl
attribute [go_sem] st_17
theorem part_17 (cs : List CV) (off : Nat) : partT Go.Proofs.Tryd.prog 17 cs off = nth cs off := by kernel_rfl
attribute [go_sem] part_17
theorem ze_17 : zeroT Go.Proofs.Tryd.prog 17 = some (.nilp) := by kernel_rfl
attribute [go_sem] ze_17
theorem eq_17 (xo yo : Operand) (a b : Nat) : binT Go.Proofs.Tryd.prog .eql 17 xo yo (.ptr a b) .nilp = some (.bool false) := by kernel_rfl
attribute [go_sem] eq_17
theorem eq_17_n (xo yo : Operand) : binT Go.Proofs.Tryd.prog .eql 17 xo yo .nilp .nilp = some (.bool true) := by kernel_rfl
attribute [go_sem] eq_17_n
theorem ne_17 (xo yo : Operand) (a b : Nat) : binT Go.Proofs.Tryd.prog .neq 17 xo yo (.ptr a b) .nilp = some (.bool true) := by kernel_rfl
attribute [go_sem] ne_17
theorem ne_17_n (xo yo : Operand) : binT Go.Proofs.Tryd.prog .neq 17 xo yo .nilp .nilp = some (.bool false) := by kernel_rfl
attribute [go_sem] ne_17_n
theorem sz_18 : szOf Go.Proofs.Tryd.prog 18 = some 1 := by kernel_rfl
attribute [go_sem] sz_18
theorem ld_18 (h : H) (id off : Nat) : loadT Go.Proofs.Tryd.prog h 18 id off = @thn _ _ (h.blk id) ⟨fun b => (b.loadN off 1).map .agg⟩ := by kernel_rfl
attribute [go_sem] ld_18
theorem st_18 (h : H) (id off : Nat) (v : CV) : storeT Go.Proofs.Tryd.prog h 18 id off v = @thn _ _ (h.blk id) ⟨fun b => cond (Nat.beq v.cells.length 1 && !b.ro) ((b.storeA off v.cells).map fun b' => h.put id (.cells b')) none⟩ := by kernel_rfl
attribute [go_sem] st_18
theorem part_18 (cs : List CV) (off : Nat) : partT Go.Proofs.Tryd.prog 18 cs off = some (.agg ((cs.drop off).take 1)) := by kernel_rfl
attribute [go_sem] part_18
theorem ze_18 : zeroT Go.Proofs.Tryd.prog 18 = some (.agg [.nilp]) := by kernel_rfl
attribute [go_sem] ze_18
theorem bt_18 (parts : List (Nat × CV)) : buildT Go.Proofs.Tryd.prog 18 parts = finB (CV.cells (.agg [.nilp])) (nth [(0, 1)]) parts := by kernel_rfl
attribute [go_sem] bt_18
theorem fa_18_0 (id off : Nat) : fieldAddrT Go.Proofs.Tryd.prog 18 (.ptr id off) 0 = some (.ptr id (off)) := by kernel_rfl
attribute [go_sem] fa_18_0
theorem fd_18_0 (cs : List CV) : fieldT Go.Proofs.Tryd.prog 18 (.agg cs) 0 = partT Go.Proofs.Tryd.prog 17 cs 0 := by kernel_rfl
attribute [go_sem] fd_18_0
theorem sz_19 : szOf Go.Proofs.Tryd.prog 19 = some 1 := by kernel_rfl
attribute [go_sem] sz_19
theorem ld_19 (h : H) (id off : Nat) : loadT Go.Proofs.Tryd.prog h 19 id off = @thn _ _ (h.blk id) ⟨fun b => (b.loadN off 1).map .agg⟩ := by kernel_rfl
attribute [go_sem] ld_19
theorem st_19 (h : H) (id off : Nat) (v : CV) : storeT Go.Proofs.Tryd.prog h 19 id off v = @thn _ _ (h.blk id) ⟨fun b => cond (Nat.beq v.cells.length 1 && !b.ro) ((b.storeA off v.cells).map fun b' => h.put id (.cells b')) none⟩ := by kernel_rfl
attribute [go_sem] st_19
theorem part_19 (cs : List CV) (off : Nat) : partT Go.Proofs.Tryd.prog 19 cs off = some (.agg ((cs.drop off).take 1)) := by kernel_rfl
attribute [go_sem] part_19
theorem ze_19 : zeroT Go.Proofs.Tryd.prog 19 = some (.agg [.nilp]) := by kernel_rfl
attribute [go_sem] ze_19
theorem bt_19 (parts : List (Nat × CV)) : buildT Go.Proofs.Tryd.prog 19 parts = finB (CV.cells (.agg [.nilp])) (nth [(0, 1)]) parts := by kernel_rfl
attribute [go_sem] bt_19
theorem fa_19_0 (id off : Nat) : fieldAddrT Go.Proofs.Tryd.prog 19 (.ptr id off) 0 = some (.ptr id (off)) := by kernel_rfl
attribute [go_sem] fa_19_0
theorem fd_19_0 (cs : List CV) : fieldT Go.Proofs.Tryd.prog 19 (.agg cs) 0 = partT Go.Proofs.Tryd.prog 17 cs 0 := by kernel_rfl
attribute [go_sem] fd_19_0
theorem sz_20 : szOf Go.Proofs.Tryd.prog 20 = some 1 := by kernel_rfl
attribute [go_sem] sz_20
theorem ld_20 (h : H) (id off : Nat) : loadT Go.Proofs.Tryd.prog h 20 id off = @thn _ _ (h.blk id) ⟨fun b => b.get off⟩ := by kernel_rfl
attribute [go_sem] ld_20
theorem st_20 (h : H) (id off : Nat) (v : CV) : storeT Go.Proofs.Tryd.prog h 20 id off v = @thn _ _ (h.blk id) ⟨fun b => cond (Nat.beq v.cells.length 1 && !b.ro) ((b.storeA off v.cells).map fun b' => h.put id (.cells b')) none⟩ := by kernel_rfl
attribute [go_sem] st_20
theorem part_20 (cs : List CV) (off : Nat) : partT Go.Proofs.Tryd.prog 20 cs off = nth cs off := by kernel_rfl
attribute [go_sem] part_20
theorem ze_20 : zeroT Go.Proofs.Tryd.prog 20 = some (.nili) := by kernel_rfl
attribute [go_sem] ze_20
theorem sz_21 : szOf Go.Proofs.Tryd.prog 21 = some 1 := by kernel_rfl
attribute [go_sem] sz_21
theorem ld_21 (h : H) (id off : Nat) : loadT Go.Proofs.Tryd.prog h 21 id off = @thn _ _ (h.blk id) ⟨fun b => b.get off⟩ := by kernel_rfl
attribute [go_sem] ld_21
theorem st_21 (h : H) (id off : Nat) (v : CV) : storeT Go.Proofs.Tryd.prog h 21 id off v = @thn _ _ (h.blk id) ⟨fun b => cond (Nat.beq v.cells.length 1 && !b.ro) ((b.storeA off v.cells).map fun b' => h.put id (.cells b')) none⟩ := by kernel_rfl
attribute [go_sem] st_21
theorem part_21 (cs : List CV) (off : Nat) : partT Go.Proofs.Tryd.prog 21 cs off = nth cs off := by kernel_rfl
attribute [go_sem] part_21
theorem ze_21 : zeroT Go.Proofs.Tryd.prog 21 = some (.int .i32 0) := by kernel_rfl
attribute [go_sem] ze_21
theorem sz_23 : szOf Go.Proofs.Tryd.prog 23 = some 1 := by kernel_rfl
attribute [go_sem] sz_23
theorem ld_23 (h : H) (id off : Nat) : loadT Go.Proofs.Tryd.prog h 23 id off = @thn _ _ (h.blk id) ⟨fun b => b.get off⟩ := by kernel_rfl
attribute [go_sem] ld_23
theorem st_23 (h : H) (id off : Nat) (v : CV) : storeT Go.Proofs.Tryd.prog h 23 id off v = @thn _ _ (h.blk id) ⟨fun b => cond (Nat.beq v.cells.length 1 && !b.ro) ((b.storeA off v.cells).map fun b' => h.put id (.cells b')) none⟩ := by kernel_rfl
attribute [go_sem] st_23
theorem part_23 (cs : List CV) (off : Nat) : partT Go.Proofs.Tryd.prog 23 cs off = nth cs off := by kernel_rfl
attribute [go_sem] part_23
theorem ze_23 : zeroT Go.Proofs.Tryd.prog 23 = some (.int .u64 0) := by kernel_rfl
attribute [go_sem] ze_23
theorem sz_38 : szOf Go.Proofs.Tryd.prog 38 = some 1 := by kernel_rfl
attribute [go_sem] sz_38
theorem ld_38 (h : H) (id off : Nat) : loadT Go.Proofs.Tryd.prog h 38 id off = @thn _ _ (h.blk id) ⟨fun b => b.get off⟩ := by kernel_rfl
attribute [go_sem] ld_38
theorem st_38 (h : H) (id off : Nat) (v : CV) : storeT Go.Proofs.Tryd.prog h 38 id off v = @thn _ _ (h.blk id) ⟨fun b => cond (Nat.beq v.cells.length 1 && !b.ro) ((b.storeA off v.cells).map fun b' => h.put id (.cells b')) none⟩ := by kernel_rfl
attribute [go_sem] st_38
theorem part_38 (cs : List CV) (off : Nat) : partT Go.Proofs.Tryd.prog 38 cs off = nth cs off := by kernel_rfl
attribute [go_sem] part_38
theorem ze_38 : zeroT Go.Proofs.Tryd.prog 38 = some (.nilf) := by kernel_rfl
attribute [go_sem] ze_38
theorem eq_38 (xo yo : Operand) (f : Fn) (a b : List CV) : binT Go.Proofs.Tryd.prog .eql 38 xo yo (.fn f a b) .nilf = some (.bool false) := by kernel_rfl
attribute [go_sem] eq_38
theorem eq_38_n (xo yo : Operand) : binT Go.Proofs.Tryd.prog .eql 38 xo yo .nilf .nilf = some (.bool true) := by kernel_rfl
attribute [go_sem] eq_38_n
theorem ne_38 (xo yo : Operand) (f : Fn) (a b : List CV) : binT Go.Proofs.Tryd.prog .neq 38 xo yo (.fn f a b) .nilf = some (.bool true) := by kernel_rfl
attribute [go_sem] ne_38
theorem ne_38_n (xo yo : Operand) : binT Go.Proofs.Tryd.prog .neq 38 xo yo .nilf .nilf = some (.bool false) := by kernel_rfl
attribute [go_sem] ne_38_n
theorem sz_49 : szOf Go.Proofs.Tryd.prog 49 = some 1 := by kernel_rfl
attribute [go_sem] sz_49
theorem ld_49 (h : H) (id off : Nat) : loadT Go.Proofs.Tryd.prog h 49 id off = @thn _ _ (h.blk id) ⟨fun b => b.get off⟩ := by kernel_rfl
attribute [go_sem] ld_49
theorem st_49 (h : H) (id off : Nat) (v : CV) : storeT Go.Proofs.Tryd.prog h 49 id off v = @thn _ _ (h.blk id) ⟨fun b => cond (Nat.beq v.cells.length 1 && !b.ro) ((b.storeA off v.cells).map fun b' => h.put id (.cells b')) none⟩ := by kernel_rfl
attribute [go_sem] st_49
theorem part_49 (cs : List CV) (off : Nat) : partT Go.Proofs.Tryd.prog 49 cs off = nth cs off := by kernel_rfl
attribute [go_sem] part_49
theorem ze_49 : zeroT Go.Proofs.Tryd.prog 49 = some (.nilf) := by kernel_rfl
attribute [go_sem] ze_49
theorem eq_49 (xo yo : Operand) (f : Fn) (a b : List CV) : binT Go.Proofs.Tryd.prog .eql 49 xo yo (.fn f a b) .nilf = some (.bool false) := by kernel_rfl
attribute [go_sem] eq_49
theorem eq_49_n (xo yo : Operand) : binT Go.Proofs.Tryd.prog .eql 49 xo yo .nilf .nilf = some (.bool true) := by kernel_rfl
attribute [go_sem] eq_49_n
theorem ne_49 (xo yo : Operand) (f : Fn) (a b : List CV) : binT Go.Proofs.Tryd.prog .neq 49 xo yo (.fn f a b) .nilf = some (.bool true) := by kernel_rfl
attribute [go_sem] ne_49
theorem ne_49_n (xo yo : Operand) : binT Go.Proofs.Tryd.prog .neq 49 xo yo .nilf .nilf = some (.bool false) := by kernel_rfl
attribute [go_sem] ne_49_n
theorem sz_69 : szOf Go.Proofs.Tryd.prog 69 = some 1 := by kernel_rfl
attribute [go_sem] sz_69
theorem ld_69 (h : H) (id off : Nat) : loadT Go.Proofs.Tryd.prog h 69 id off = @thn _ _ (h.blk id) ⟨fun b => b.get off⟩ := by kernel_rfl
attribute [go_sem] ld_69
theorem st_69 (h : H) (id off : Nat) (v : CV) : storeT Go.Proofs.Tryd.prog h 69 id off v = @thn _ _ (h.blk id) ⟨fun b => cond (Nat.beq v.cells.length 1 && !b.ro) ((b.storeA off v.cells).map fun b' => h.put id (.cells b')) none⟩ := by kernel_rfl
attribute [go_sem] st_69
theorem part_69 (cs : List CV) (off : Nat) : partT Go.Proofs.Tryd.prog 69 cs off = nth cs off := by kernel_rfl
attribute [go_sem] part_69
theorem ze_69 : zeroT Go.Proofs.Tryd.prog 69 = some (.nilf) := by kernel_rfl
attribute [go_sem] ze_69
theorem eq_69 (xo yo : Operand) (f : Fn) (a b : List CV) : binT Go.Proofs.Tryd.prog .eql 69 xo yo (.fn f a b) .nilf = some (.bool false) := by kernel_rfl
attribute [go_sem] eq_69
theorem eq_69_n (xo yo : Operand) : binT Go.Proofs.Tryd.prog .eql 69 xo yo .nilf .nilf = some (.bool true) := by kernel_rfl
attribute [go_sem] eq_69_n
theorem ne_69 (xo yo : Operand) (f : Fn) (a b : List CV) : binT Go.Proofs.Tryd.prog .neq 69 xo yo (.fn f a b) .nilf = some (.bool true) := by kernel_rfl
attribute [go_sem] ne_69
theorem ne_69_n (xo yo : Operand) : binT Go.Proofs.Tryd.prog .neq 69 xo yo .nilf .nilf = some (.bool false) := by kernel_rfl
attribute [go_sem] ne_69_n
theorem sz_101 : szOf Go.Proofs.Tryd.prog 101 = some 1 := by kernel_rfl
attribute [go_sem] sz_101
theorem ld_101 (h : H) (id off : Nat) : loadT Go.Proofs.Tryd.prog h 101 id off = @thn _ _ (h.blk id) ⟨fun b => b.get off⟩ := by kernel_rfl
attribute [go_sem] ld_101
theorem st_101 (h : H) (id off : Nat) (v : CV) : storeT Go.Proofs.Tryd.prog h 101 id off v = @thn _ _ (h.blk id) ⟨fun b => cond (Nat.beq v.cells.length 1 && !b.ro) ((b.storeA off v.cells).map fun b' => h.put id (.cells b')) none⟩ := by kernel_rfl
attribute [go_sem] st_101
theorem part_101 (cs : List CV) (off : Nat) : partT Go.Proofs.Tryd.prog 101 cs off = nth cs off := by kernel_rfl
attribute [go_sem] part_101
theorem ze_101 : zeroT Go.Proofs.Tryd.prog 101 = some (.nils) := by kernel_rfl
attribute [go_sem] ze_101
theorem ia_101 (id off len k : Nat) (c : Cap) (kd : IntKind) : indexAddrT Go.Proofs.Tryd.prog 101 (.sl id off len c) (.int kd (Int.ofNat k)) = cond (Nat.blt k len) (some (.ptr id (off + k * 1))) none := by kernel_rfl
attribute [go_sem] ia_101
theorem len_101 (h : H) (id off len : Nat) (c : Cap) (ts : List TypeId) (az : List CV) : builtinT Go.Proofs.Tryd.prog h .len (101 :: ts) (.sl id off len c :: az) = some (.val (.int .i64 (Int.ofNat len))) := by kernel_rfl
attribute [go_sem] len_101
theorem len_101_n (h : H) (ts : List TypeId) (az : List CV) : builtinT Go.Proofs.Tryd.prog h .len (101 :: ts) (.nils :: az) = some (.val (.int .i64 0)) := by kernel_rfl
attribute [go_sem] len_101_n
theorem app_101 (h : H) (s : CV) (id off len : Nat) (c : Cap) (ts : List TypeId) (az : List CV) : builtinT Go.Proofs.Tryd.prog h .append (101 :: 101 :: ts) (s :: .sl id off len c :: az) = uv (appendT Go.Proofs.Tryd.prog h 101 s (.sl id off len c)) := by kernel_rfl
attribute [go_sem] app_101
theorem app_101_n (h : H) (s : CV) (ts : List TypeId) (az : List CV) : builtinT Go.Proofs.Tryd.prog h .append (101 :: 101 :: ts) (s :: .nils :: az) = uv (appendT Go.Proofs.Tryd.prog h 101 s .nils) := by kernel_rfl
attribute [go_sem] app_101_n
theorem ap_101 (h : H) (s : CV) (id off len : Nat) (c : Cap) : appendT Go.Proofs.Tryd.prog h 101 s (.sl id off len c) = appS h 1 1 1 s len (firstC h 1 len (.sl id off len c)) := by kernel_rfl
attribute [go_sem] ap_101
theorem ap_101_n (h : H) (s : CV) : appendT Go.Proofs.Tryd.prog h 101 s .nils = appS h 1 1 1 s 0 (some []) := by kernel_rfl
attribute [go_sem] ap_101_n
theorem ap_101_z (h : H) (s : CV) (a b c d : Nat) : appendT Go.Proofs.Tryd.prog h 101 s (.sl0 a b c d) = appS h 1 1 1 s 0 (some []) := by kernel_rfl
attribute [go_sem] ap_101_z
theorem bs_101 (h : H) (n : Nat) (parts : List (Nat × CV)) : buildSliceT Go.Proofs.Tryd.prog h 101 n parts = bslS h 1 (CV.cells (.int .u8 0)) n parts := by kernel_rfl
attribute [go_sem] bs_101
theorem ms_101 (h : H) (l c : Nat) (k k' : IntKind) : makeSliceT Go.Proofs.Tryd.prog h 101 (.int k (Int.ofNat l)) (.int k' (Int.ofNat c)) = mkS h 1 1 (zeroT Go.Proofs.Tryd.prog 5) l c := by kernel_rfl
attribute [go_sem] ms_101
theorem eq_101 (xo yo : Operand) (a b c : Nat) (d : Cap) : binT Go.Proofs.Tryd.prog .eql 101 xo yo (.sl a b c d) .nils = some (.bool false) := by kernel_rfl
attribute [go_sem] eq_101
theorem eq_101_n (xo yo : Operand) : binT Go.Proofs.Tryd.prog .eql 101 xo yo .nils .nils = some (.bool true) := by kernel_rfl
attribute [go_sem] eq_101_n
theorem eq_101_z (xo yo : Operand) (a b c d : Nat) : binT Go.Proofs.Tryd.prog .eql 101 xo yo (.sl0 a b c d) .nils = some (.bool false) := by kernel_rfl
attribute [go_sem] eq_101_z
theorem ne_101 (xo yo : Operand) (a b c : Nat) (d : Cap) : binT Go.Proofs.Tryd.prog .neq 101 xo yo (.sl a b c d) .nils = some (.bool true) := by kernel_rfl
attribute [go_sem] ne_101
theorem ne_101_n (xo yo : Operand) : binT Go.Proofs.Tryd.prog .neq 101 xo yo .nils .nils = some (.bool false) := by kernel_rfl
attribute [go_sem] ne_101_n
theorem ne_101_z (xo yo : Operand) (a b c d : Nat) : binT Go.Proofs.Tryd.prog .neq 101 xo yo (.sl0 a b c d) .nils = some (.bool true) := by kernel_rfl
attribute [go_sem] ne_101_z
theorem len_101_z (h : H) (a b c d : Nat) (ts : List TypeId) (az : List CV) : builtinT Go.Proofs.Tryd.prog h .len (101 :: ts) (.sl0 a b c d :: az) = some (.val (.int .i64 0)) := by kernel_rfl
attribute [go_sem] len_101_z
theorem app_101_z (h : H) (s : CV) (a b c d : Nat) (ts : List TypeId) (az : List CV) : builtinT Go.Proofs.Tryd.prog h .append (101 :: 101 :: ts) (s :: .sl0 a b c d :: az) = uv (appendT Go.Proofs.Tryd.prog h 101 s (.sl0 a b c d)) := by kernel_rfl
attribute [go_sem] app_101_z
theorem sz_104 : szOf Go.Proofs.Tryd.prog 104 = some 1 := by kernel_rfl
attribute [go_sem] sz_104
theorem ld_104 (h : H) (id off : Nat) : loadT Go.Proofs.Tryd.prog h 104 id off = @thn _ _ (h.blk id) ⟨fun b => b.get off⟩ := by kernel_rfl
attribute [go_sem] ld_104
theorem st_104 (h : H) (id off : Nat) (v : CV) : storeT Go.Proofs.Tryd.prog h 104 id off v = @thn _ _ (h.blk id) ⟨fun b => cond (Nat.beq v.cells.length 1 && !b.ro) ((b.storeA off v.cells).map fun b' => h.put id (.cells b')) none⟩ := by kernel_rfl
attribute [go_sem] st_104
theorem part_104 (cs : List CV) (off : Nat) : partT Go.Proofs.Tryd.prog 104 cs off = nth cs off := by kernel_rfl
attribute [go_sem] part_104
theorem ze_104 : zeroT Go.Proofs.Tryd.prog 104 = some (.nilf) := by kernel_rfl
attribute [go_sem] ze_104
theorem eq_104 (xo yo : Operand) (f : Fn) (a b : List CV) : binT Go.Proofs.Tryd.prog .eql 104 xo yo (.fn f a b) .nilf = some (.bool false) := by kernel_rfl
attribute [go_sem] eq_104
theorem eq_104_n (xo yo : Operand) : binT Go.Proofs.Tryd.prog .eql 104 xo yo .nilf .nilf = some (.bool true) := by kernel_rfl
attribute [go_sem] eq_104_n
theorem ne_104 (xo yo : Operand) (f : Fn) (a b : List CV) : binT Go.Proofs.Tryd.prog .neq 104 xo yo (.fn f a b) .nilf = some (.bool true) := by kernel_rfl
attribute [go_sem] ne_104
theorem ne_104_n (xo yo : Operand) : binT Go.Proofs.Tryd.prog .neq 104 xo yo .nilf .nilf = some (.bool false) := by kernel_rfl
attribute [go_sem] ne_104_n
theorem sz_122 : szOf Go.Proofs.Tryd.prog 122 = some 32 := by kernel_rfl
attribute [go_sem] sz_122
theorem ld_122 (h : H) (id off : Nat) : loadT Go.Proofs.Tryd.prog h 122 id off = @thn _ _ (h.blk id) ⟨fun b => (b.loadN off 32).map .agg⟩ := by kernel_rfl
attribute [go_sem] ld_122
theorem st_122 (h : H) (id off : Nat) (v : CV) : storeT Go.Proofs.Tryd.prog h 122 id off v = @thn _ _ (h.blk id) ⟨fun b => cond (Nat.beq v.cells.length 32 && !b.ro) ((b.storeA off v.cells).map fun b' => h.put id (.cells b')) none⟩ := by kernel_rfl
attribute [go_sem] st_122
theorem part_122 (cs : List CV) (off : Nat) : partT Go.Proofs.Tryd.prog 122 cs off = some (.agg ((cs.drop off).take 32)) := by kernel_rfl
attribute [go_sem] part_122
theorem ze_122 : zeroT Go.Proofs.Tryd.prog 122 = some (.agg [.int .u8 0, .int .u8 0, .int .u8 0, .int .u8 0, .int .u8 0, .int .u8 0, .int .u8 0, .int .u8 0, .int .u8 0, .int .u8 0, .int .u8 0, .int .u8 0, .int .u8 0, .int .u8 0, .int .u8 0, .int .u8 0, .int .u8 0, .int .u8 0, .int .u8 0, .int .u8 0, .int .u8 0, .int .u8 0, .int .u8 0, .int .u8 0, .int .u8 0, .int .u8 0, .int .u8 0, .int .u8 0, .int .u8 0, .int .u8 0, .int .u8 0, .int .u8 0]) := by kernel_rfl
attribute [go_sem] ze_122
theorem ia_122 (id off k : Nat) (kd : IntKind) : indexAddrT Go.Proofs.Tryd.prog 122 (.ptr id off) (.int kd (Int.ofNat k)) = cond (Nat.blt k 32) (some (.ptr id (off + k * 1))) none := by kernel_rfl
attribute [go_sem] ia_122
theorem ix_122 (cs : List CV) (k : Nat) (kd : IntKind) : indexT Go.Proofs.Tryd.prog 122 (.agg cs) (.int kd (Int.ofNat k)) = cond (Nat.blt k 32) (partT Go.Proofs.Tryd.prog 5 cs (k * 1)) none := by kernel_rfl
attribute [go_sem] ix_122
theorem len_122 (h : H) (ts : List TypeId) (az : List CV) (a : CV) : builtinT Go.Proofs.Tryd.prog h .len (122 :: ts) (a :: az) = some (.val (.int .i64 32)) := by kernel_rfl
attribute [go_sem] len_122
theorem bt_122 (parts : List (Nat × CV)) : buildT Go.Proofs.Tryd.prog 122 parts = finB (CV.cells (.agg [.int .u8 0, .int .u8 0, .int .u8 0, .int .u8 0, .int .u8 0, .int .u8 0, .int .u8 0, .int .u8 0, .int .u8 0, .int .u8 0, .int .u8 0, .int .u8 0, .int .u8 0, .int .u8 0, .int .u8 0, .int .u8 0, .int .u8 0, .int .u8 0, .int .u8 0, .int .u8 0, .int .u8 0, .int .u8 0, .int .u8 0, .int .u8 0, .int .u8 0, .int .u8 0, .int .u8 0, .int .u8 0, .int .u8 0, .int .u8 0, .int .u8 0, .int .u8 0])) (fun i => some (i * 1, 1)) parts := by kernel_rfl
attribute [go_sem] bt_122
theorem sz_123 : szOf Go.Proofs.Tryd.prog 123 = some 1 := by kernel_rfl
attribute [go_sem] sz_123
theorem ld_123 (h : H) (id off : Nat) : loadT Go.Proofs.Tryd.prog h 123 id off = @thn _ _ (h.blk id) ⟨fun b => b.get off⟩ := by kernel_rfl
attribute [go_sem] ld_123
theorem st_123 (h : H) (id off : Nat) (v : CV) : storeT Go.Proofs.Tryd.prog h 123 id off v = @thn _ _ (h.blk id) ⟨fun b => cond (Nat.beq v.cells.length 1 && !b.ro) ((b.storeA off v.cells).map fun b' => h.put id (.cells b')) none⟩ := by kernel_rfl
attribute [go_sem] st_123
theorem part_123 (cs : List CV) (off : Nat) : partT Go.Proofs.Tryd.prog 123 cs off = nth cs off := by kernel_rfl
attribute [go_sem] part_123
theorem ze_123 : zeroT Go.Proofs.Tryd.prog 123 = some (.nilf) := by kernel_rfl
attribute [go_sem] ze_123
theorem eq_123 (xo yo : Operand) (f : Fn) (a b : List CV) : binT Go.Proofs.Tryd.prog .eql 123 xo yo (.fn f a b) .nilf = some (.bool false) := by kernel_rfl
attribute [go_sem] eq_123
theorem eq_123_n (xo yo : Operand) : binT Go.Proofs.Tryd.prog .eql 123 xo yo .nilf .nilf = some (.bool true) := by kernel_rfl
attribute [go_sem] eq_123_n
theorem ne_123 (xo yo : Operand) (f : Fn) (a b : List CV) : binT Go.Proofs.Tryd.prog .neq 123 xo yo (.fn f a b) .nilf = some (.bool true) := by kernel_rfl
attribute [go_sem] ne_123
theorem ne_123_n (xo yo : Operand) : binT Go.Proofs.Tryd.prog .neq 123 xo yo .nilf .nilf = some (.bool false) := by kernel_rfl
attribute [go_sem] ne_123_n
theorem sz_124 : szOf Go.Proofs.Tryd.prog 124 = some 1 := by kernel_rfl
attribute [go_sem] sz_124
theorem ld_124 (h : H) (id off : Nat) : loadT Go.Proofs.Tryd.prog h 124 id off = @thn _ _ (h.blk id) ⟨fun b => b.get off⟩ := by kernel_rfl
attribute [go_sem] ld_124
theorem st_124 (h : H) (id off : Nat) (v : CV) : storeT Go.Proofs.Tryd.prog h 124 id off v = @thn _ _ (h.blk id) ⟨fun b => cond (Nat.beq v.cells.length 1 && !b.ro) ((b.storeA off v.cells).map fun b' => h.put id (.cells b')) none⟩ := by kernel_rfl
attribute [go_sem] st_124
theorem part_124 (cs : List CV) (off : Nat) : partT Go.Proofs.Tryd.prog 124 cs off = nth cs off := by kernel_rfl
attribute [go_sem] part_124
theorem ze_124 : zeroT Go.Proofs.Tryd.prog 124 = some (.int .u64 0) := by kernel_rfl
attribute [go_sem] ze_124
theorem sz_141 : szOf Go.Proofs.Tryd.prog 141 = some 1 := by kernel_rfl
attribute [go_sem] sz_141
theorem ld_141 (h : H) (id off : Nat) : loadT Go.Proofs.Tryd.prog h 141 id off = @thn _ _ (h.blk id) ⟨fun b => b.get off⟩ := by kernel_rfl
attribute [go_sem] ld_141
theorem st_141 (h : H) (id off : Nat) (v : CV) : storeT Go.Proofs.Tryd.prog h 141 id off v = @thn _ _ (h.blk id) ⟨fun b => cond (Nat.beq v.cells.length 1 && !b.ro) ((b.storeA off v.cells).map fun b' => h.put id (.cells b')) none⟩ := by kernel_rfl
attribute [go_sem] st_141
theorem part_141 (cs : List CV) (off : Nat) : partT Go.Proofs.Tryd.prog 141 cs off = nth cs off := by kernel_rfl
attribute [go_sem] part_141
theorem ze_141 : zeroT Go.Proofs.Tryd.prog 141 = some (.nils) := by kernel_rfl
attribute [go_sem] ze_141
theorem ia_141 (id off len k : Nat) (c : Cap) (kd : IntKind) : indexAddrT Go.Proofs.Tryd.prog 141 (.sl id off len c) (.int kd (Int.ofNat k)) = cond (Nat.blt k len) (some (.ptr id (off + k * 1))) none := by kernel_rfl
attribute [go_sem] ia_141
theorem len_141 (h : H) (id off len : Nat) (c : Cap) (ts : List TypeId) (az : List CV) : builtinT Go.Proofs.Tryd.prog h .len (141 :: ts) (.sl id off len c :: az) = some (.val (.int .i64 (Int.ofNat len))) := by kernel_rfl
attribute [go_sem] len_141
theorem len_141_n (h : H) (ts : List TypeId) (az : List CV) : builtinT Go.Proofs.Tryd.prog h .len (141 :: ts) (.nils :: az) = some (.val (.int .i64 0)) := by kernel_rfl
attribute [go_sem] len_141_n
theorem app_141 (h : H) (s : CV) (id off len : Nat) (c : Cap) (ts : List TypeId) (az : List CV) : builtinT Go.Proofs.Tryd.prog h .append (141 :: 141 :: ts) (s :: .sl id off len c :: az) = uv (appendT Go.Proofs.Tryd.prog h 141 s (.sl id off len c)) := by kernel_rfl
attribute [go_sem] app_141
theorem app_141_n (h : H) (s : CV) (ts : List TypeId) (az : List CV) : builtinT Go.Proofs.Tryd.prog h .append (141 :: 141 :: ts) (s :: .nils :: az) = uv (appendT Go.Proofs.Tryd.prog h 141 s .nils) := by kernel_rfl
attribute [go_sem] app_141_n
theorem ap_141 (h : H) (s : CV) (id off len : Nat) (c : Cap) : appendT Go.Proofs.Tryd.prog h 141 s (.sl id off len c) = appS h 1 8 1 s len (firstC h 1 len (.sl id off len c)) := by kernel_rfl
attribute [go_sem] ap_141
theorem ap_141_n (h : H) (s : CV) : appendT Go.Proofs.Tryd.prog h 141 s .nils = appS h 1 8 1 s 0 (some []) := by kernel_rfl
attribute [go_sem] ap_141_n
theorem ap_141_z (h : H) (s : CV) (a b c d : Nat) : appendT Go.Proofs.Tryd.prog h 141 s (.sl0 a b c d) = appS h 1 8 1 s 0 (some []) := by kernel_rfl
attribute [go_sem] ap_141_z
theorem bs_141 (h : H) (n : Nat) (parts : List (Nat × CV)) : buildSliceT Go.Proofs.Tryd.prog h 141 n parts = bslS h 1 (CV.cells (.int .u64 0)) n parts := by kernel_rfl
attribute [go_sem] bs_141
theorem ms_141 (h : H) (l c : Nat) (k k' : IntKind) : makeSliceT Go.Proofs.Tryd.prog h 141 (.int k (Int.ofNat l)) (.int k' (Int.ofNat c)) = mkS h 1 8 (zeroT Go.Proofs.Tryd.prog 23) l c := by kernel_rfl
attribute [go_sem] ms_141
theorem eq_141 (xo yo : Operand) (a b c : Nat) (d : Cap) : binT Go.Proofs.Tryd.prog .eql 141 xo yo (.sl a b c d) .nils = some (.bool false) := by kernel_rfl
attribute [go_sem] eq_141
theorem eq_141_n (xo yo : Operand) : binT Go.Proofs.Tryd.prog .eql 141 xo yo .nils .nils = some (.bool true) := by kernel_rfl
attribute [go_sem] eq_141_n
theorem eq_141_z (xo yo : Operand) (a b c d : Nat) : binT Go.Proofs.Tryd.prog .eql 141 xo yo (.sl0 a b c d) .nils = some (.bool false) := by kernel_rfl
attribute [go_sem] eq_141_z
theorem ne_141 (xo yo : Operand) (a b c : Nat) (d : Cap) : binT Go.Proofs.Tryd.prog .neq 141 xo yo (.sl a b c d) .nils = some (.bool true) := by kernel_rfl
attribute [go_sem] ne_141
theorem ne_141_n (xo yo : Operand) : binT Go.Proofs.Tryd.prog .neq 141 xo yo .nils .nils = some (.bool false) := by kernel_rfl
attribute [go_sem] ne_141_n
theorem ne_141_z (xo yo : Operand) (a b c d : Nat) : binT Go.Proofs.Tryd.prog .neq 141 xo yo (.sl0 a b c d) .nils = some (.bool true) := by kernel_rfl
attribute [go_sem] ne_141_z
theorem len_141_z (h : H) (a b c d : Nat) (ts : List TypeId) (az : List CV) : builtinT Go.Proofs.Tryd.prog h .len (141 :: ts) (.sl0 a b c d :: az) = some (.val (.int .i64 0)) := by kernel_rfl
attribute [go_sem] len_141_z
theorem app_141_z (h : H) (s : CV) (a b c d : Nat) (ts : List TypeId) (az : List CV) : builtinT Go.Proofs.Tryd.prog h .append (141 :: 141 :: ts) (s :: .sl0 a b c d :: az) = uv (appendT Go.Proofs.Tryd.prog h 141 s (.sl0 a b c d)) := by kernel_rfl
attribute [go_sem] app_141_z
theorem sz_142 : szOf Go.Proofs.Tryd.prog 142 = some 1 := by kernel_rfl
attribute [go_sem] sz_142
theorem ld_142 (h : H) (id off : Nat) : loadT Go.Proofs.Tryd.prog h 142 id off = @thn _ _ (h.blk id) ⟨fun b => b.get off⟩ := by kernel_rfl
attribute [go_sem] ld_142
theorem st_142 (h : H) (id off : Nat) (v : CV) : storeT Go.Proofs.Tryd.prog h 142 id off v = @thn _ _ (h.blk id) ⟨fun b => cond (Nat.beq v.cells.length 1 && !b.ro) ((b.storeA off v.cells).map fun b' => h.put id (.cells b')) none⟩ := by kernel_rfl
attribute [go_sem] st_142
theorem part_142 (cs : List CV) (off : Nat) : partT Go.Proofs.Tryd.prog 142 cs off = nth cs off := by kernel_rfl
attribute [go_sem] part_142
theorem ze_142 : zeroT Go.Proofs.Tryd.prog 142 = some (.int .u32 0) := by kernel_rfl
attribute [go_sem] ze_142
theorem sz_143 : szOf Go.Proofs.Tryd.prog 143 = some 8 := by kernel_rfl
attribute [go_sem] sz_143
theorem ld_143 (h : H) (id off : Nat) : loadT Go.Proofs.Tryd.prog h 143 id off = @thn _ _ (h.blk id) ⟨fun b => (b.loadN off 8).map .agg⟩ := by kernel_rfl
attribute [go_sem] ld_143
theorem st_143 (h : H) (id off : Nat) (v : CV) : storeT Go.Proofs.Tryd.prog h 143 id off v = @thn _ _ (h.blk id) ⟨fun b => cond (Nat.beq v.cells.length 8 && !b.ro) ((b.storeA off v.cells).map fun b' => h.put id (.cells b')) none⟩ := by kernel_rfl
attribute [go_sem] st_143
theorem part_143 (cs : List CV) (off : Nat) : partT Go.Proofs.Tryd.prog 143 cs off = some (.agg ((cs.drop off).take 8)) := by kernel_rfl
attribute [go_sem] part_143
theorem ze_143 : zeroT Go.Proofs.Tryd.prog 143 = some (.agg [.int .u32 0, .int .u32 0, .int .u32 0, .int .u32 0, .int .u32 0, .int .u32 0, .int .u32 0, .int .u32 0]) := by kernel_rfl
attribute [go_sem] ze_143
theorem ia_143 (id off k : Nat) (kd : IntKind) : indexAddrT Go.Proofs.Tryd.prog 143 (.ptr id off) (.int kd (Int.ofNat k)) = cond (Nat.blt k 8) (some (.ptr id (off + k * 1))) none := by kernel_rfl
attribute [go_sem] ia_143
theorem ix_143 (cs : List CV) (k : Nat) (kd : IntKind) : indexT Go.Proofs.Tryd.prog 143 (.agg cs) (.int kd (Int.ofNat k)) = cond (Nat.blt k 8) (partT Go.Proofs.Tryd.prog 142 cs (k * 1)) none := by kernel_rfl
attribute [go_sem] ix_143
theorem len_143 (h : H) (ts : List TypeId) (az : List CV) (a : CV) : builtinT Go.Proofs.Tryd.prog h .len (143 :: ts) (a :: az) = some (.val (.int .i64 8)) := by kernel_rfl
attribute [go_sem] len_143
theorem bt_143 (parts : List (Nat × CV)) : buildT Go.Proofs.Tryd.prog 143 parts = finB (CV.cells (.agg [.int .u32 0, .int .u32 0, .int .u32 0, .int .u32 0, .int .u32 0, .int .u32 0, .int .u32 0, .int .u32 0])) (fun i => some (i * 1, 1)) parts := by kernel_rfl
attribute [go_sem] bt_143
theorem sz_144 : szOf Go.Proofs.Tryd.prog 144 = some 64 := by kernel_rfl
attribute [go_sem] sz_144
theorem ld_144 (h : H) (id off : Nat) : loadT Go.Proofs.Tryd.prog h 144 id off = @thn _ _ (h.blk id) ⟨fun b => (b.loadN off 64).map .agg⟩ := by kernel_rfl
attribute [go_sem] ld_144
theorem st_144 (h : H) (id off : Nat) (v : CV) : storeT Go.Proofs.Tryd.prog h 144 id off v = @thn _ _ (h.blk id) ⟨fun b => cond (Nat.beq v.cells.length 64 && !b.ro) ((b.storeA off v.cells).map fun b' => h.put id (.cells b')) none⟩ := by kernel_rfl
attribute [go_sem] st_144
theorem part_144 (cs : List CV) (off : Nat) : partT Go.Proofs.Tryd.prog 144 cs off = some (.agg ((cs.drop off).take 64)) := by kernel_rfl
attribute [go_sem] part_144
theorem ze_144 : zeroT Go.Proofs.Tryd.prog 144 = some (.agg [.int .u32 0, .int .u32 0, .int .u32 0, .int .u32 0, .int .u32 0, .int .u32 0, .int .u32 0, .int .u32 0, .int .u32 0, .int .u32 0, .int .u32 0, .int .u32 0, .int .u32 0, .int .u32 0, .int .u32 0, .int .u32 0, .int .u32 0, .int .u32 0, .int .u32 0, .int .u32 0, .int .u32 0, .int .u32 0, .int .u32 0, .int .u32 0, .int .u32 0, .int .u32 0, .int .u32 0, .int .u32 0, .int .u32 0, .int .u32 0, .int .u32 0, .int .u32 0, .int .u32 0, .int .u32 0, .int .u32 0, .int .u32 0, .int .u32 0, .int .u32 0, .int .u32 0, .int .u32 0, .int .u32 0, .int .u32 0, .int .u32 0, .int .u32 0, .int .u32 0, .int .u32 0, .int .u32 0, .int .u32 0, .int .u32 0, .int .u32 0, .int .u32 0, .int .u32 0, .int .u32 0, .int .u32 0, .int .u32 0, .int .u32 0, .int .u32 0, .int .u32 0, .int .u32 0, .int .u32 0, .int .u32 0, .int .u32 0, .int .u32 0, .int .u32 0]) := by kernel_rfl
attribute [go_sem] ze_144
theorem ia_144 (id off k : Nat) (kd : IntKind) : indexAddrT Go.Proofs.Tryd.prog 144 (.ptr id off) (.int kd (Int.ofNat k)) = cond (Nat.blt k 64) (some (.ptr id (off + k * 1))) none := by kernel_rfl
attribute [go_sem] ia_144
theorem ix_144 (cs : List CV) (k : Nat) (kd : IntKind) : indexT Go.Proofs.Tryd.prog 144 (.agg cs) (.int kd (Int.ofNat k)) = cond (Nat.blt k 64) (partT Go.Proofs.Tryd.prog 142 cs (k * 1)) none := by kernel_rfl
attribute [go_sem] ix_144
theorem len_144 (h : H) (ts : List TypeId) (az : List CV) (a : CV) : builtinT Go.Proofs.Tryd.prog h .len (144 :: ts) (a :: az) = some (.val (.int .i64 64)) := by kernel_rfl
attribute [go_sem] len_144
theorem bt_144 (parts : List (Nat × CV)) : buildT Go.Proofs.Tryd.prog 144 parts = finB (CV.cells (.agg [.int .u32 0, .int .u32 0, .int .u32 0, .int .u32 0, .int .u32 0, .int .u32 0, .int .u32 0, .int .u32 0, .int .u32 0, .int .u32 0, .int .u32 0, .int .u32 0, .int .u32 0, .int .u32 0, .int .u32 0, .int .u32 0, .int .u32 0, .int .u32 0, .int .u32 0, .int .u32 0, .int .u32 0, .int .u32 0, .int .u32 0, .int .u32 0, .int .u32 0, .int .u32 0, .int .u32 0, .int .u32 0, .int .u32 0, .int .u32 0, .int .u32 0, .int .u32 0, .int .u32 0, .int .u32 0, .int .u32 0, .int .u32 0, .int .u32 0, .int .u32 0, .int .u32 0, .int .u32 0, .int .u32 0, .int .u32 0, .int .u32 0, .int .u32 0, .int .u32 0, .int .u32 0, .int .u32 0, .int .u32 0, .int .u32 0, .int .u32 0, .int .u32 0, .int .u32 0, .int .u32 0, .int .u32 0, .int .u32 0, .int .u32 0, .int .u32 0, .int .u32 0, .int .u32 0, .int .u32 0, .int .u32 0, .int .u32 0, .int .u32 0, .int .u32 0])) (fun i => some (i * 1, 1)) parts := by kernel_rfl
attribute [go_sem] bt_144
theorem sz_145 : szOf Go.Proofs.Tryd.prog 145 = some 1 := by kernel_rfl
attribute [go_sem] sz_145
theorem ld_145 (h : H) (id off : Nat) : loadT Go.Proofs.Tryd.prog h 145 id off = @thn _ _ (h.blk id) ⟨fun b => b.get off⟩ := by kernel_rfl
attribute [go_sem] ld_145
theorem st_145 (h : H) (id off : Nat) (v : CV) : storeT Go.Proofs.Tryd.prog h 145 id off v = @thn _ _ (h.blk id) ⟨fun b => cond (Nat.beq v.cells.length 1 && !b.ro) ((b.storeA off v.cells).map fun b' => h.put id (.cells b')) none⟩ := by kernel_rfl
attribute [go_sem] st_145
theorem part_145 (cs : List CV) (off : Nat) : partT Go.Proofs.Tryd.prog 145 cs off = nth cs off := by kernel_rfl
attribute [go_sem] part_145
theorem ze_145 : zeroT Go.Proofs.Tryd.prog 145 = some (.nilf) := by kernel_rfl
attribute [go_sem] ze_145
theorem eq_145 (xo yo : Operand) (f : Fn) (a b : List CV) : binT Go.Proofs.Tryd.prog .eql 145 xo yo (.fn f a b) .nilf = some (.bool false) := by kernel_rfl
attribute [go_sem] eq_145
theorem eq_145_n (xo yo : Operand) : binT Go.Proofs.Tryd.prog .eql 145 xo yo .nilf .nilf = some (.bool true) := by kernel_rfl
attribute [go_sem] eq_145_n
theorem ne_145 (xo yo : Operand) (f : Fn) (a b : List CV) : binT Go.Proofs.Tryd.prog .neq 145 xo yo (.fn f a b) .nilf = some (.bool true) := by kernel_rfl
attribute [go_sem] ne_145
theorem ne_145_n (xo yo : Operand) : binT Go.Proofs.Tryd.prog .neq 145 xo yo .nilf .nilf = some (.bool false) := by kernel_rfl
attribute [go_sem] ne_145_n
theorem sz_146 : szOf Go.Proofs.Tryd.prog 146 = some 1 := by kernel_rfl
attribute [go_sem] sz_146
theorem ld_146 (h : H) (id off : Nat) : loadT Go.Proofs.Tryd.prog h 146 id off = @thn _ _ (h.blk id) ⟨fun b => b.get off⟩ := by kernel_rfl
attribute [go_sem] ld_146
theorem st_146 (h : H) (id off : Nat) (v : CV) : storeT Go.Proofs.Tryd.prog h 146 id off v = @thn _ _ (h.blk id) ⟨fun b => cond (Nat.beq v.cells.length 1 && !b.ro) ((b.storeA off v.cells).map fun b' => h.put id (.cells b')) none⟩ := by kernel_rfl
attribute [go_sem] st_146
theorem part_146 (cs : List CV) (off : Nat) : partT Go.Proofs.Tryd.prog 146 cs off = nth cs off := by kernel_rfl
attribute [go_sem] part_146
theorem ze_146 : zeroT Go.Proofs.Tryd.prog 146 = some (.nilf) := by kernel_rfl
attribute [go_sem] ze_146
theorem eq_146 (xo yo : Operand) (f : Fn) (a b : List CV) : binT Go.Proofs.Tryd.prog .eql 146 xo yo (.fn f a b) .nilf = some (.bool false) := by kernel_rfl
attribute [go_sem] eq_146
theorem eq_146_n (xo yo : Operand) : binT Go.Proofs.Tryd.prog .eql 146 xo yo .nilf .nilf = some (.bool true) := by kernel_rfl
attribute [go_sem] eq_146_n
theorem ne_146 (xo yo : Operand) (f : Fn) (a b : List CV) : binT Go.Proofs.Tryd.prog .neq 146 xo yo (.fn f a b) .nilf = some (.bool true) := by kernel_rfl
attribute [go_sem] ne_146
theorem ne_146_n (xo yo : Operand) : binT Go.Proofs.Tryd.prog .neq 146 xo yo .nilf .nilf = some (.bool false) := by kernel_rfl
attribute [go_sem] ne_146_n
theorem sz_147 : szOf Go.Proofs.Tryd.prog 147 = some 1 := by kernel_rfl
attribute [go_sem] sz_147
theorem ld_147 (h : H) (id off : Nat) : loadT Go.Proofs.Tryd.prog h 147 id off = @thn _ _ (h.blk id) ⟨fun b => b.get off⟩ := by kernel_rfl
attribute [go_sem] ld_147
theorem st_147 (h : H) (id off : Nat) (v : CV) : storeT Go.Proofs.Tryd.prog h 147 id off v = @thn _ _ (h.blk id) ⟨fun b => cond (Nat.beq v.cells.length 1 && !b.ro) ((b.storeA off v.cells).map fun b' => h.put id (.cells b')) none⟩ := by kernel_rfl
attribute [go_sem] st_147
theorem part_147 (cs : List CV) (off : Nat) : partT Go.Proofs.Tryd.prog 147 cs off = nth cs off := by kernel_rfl
attribute [go_sem] part_147
theorem ze_147 : zeroT Go.Proofs.Tryd.prog 147 = some (.nilp) := by kernel_rfl
attribute [go_sem] ze_147
theorem eq_147 (xo yo : Operand) (a b : Nat) : binT Go.Proofs.Tryd.prog .eql 147 xo yo (.ptr a b) .nilp = some (.bool false) := by kernel_rfl
attribute [go_sem] eq_147
theorem eq_147_n (xo yo : Operand) : binT Go.Proofs.Tryd.prog .eql 147 xo yo .nilp .nilp = some (.bool true) := by kernel_rfl
attribute [go_sem] eq_147_n
theorem ne_147 (xo yo : Operand) (a b : Nat) : binT Go.Proofs.Tryd.prog .neq 147 xo yo (.ptr a b) .nilp = some (.bool true) := by kernel_rfl
attribute [go_sem] ne_147
theorem ne_147_n (xo yo : Operand) : binT Go.Proofs.Tryd.prog .neq 147 xo yo .nilp .nilp = some (.bool false) := by kernel_rfl
attribute [go_sem] ne_147_n
theorem sz_148 : szOf Go.Proofs.Tryd.prog 148 = some 1 := by kernel_rfl
attribute [go_sem] sz_148
theorem ld_148 (h : H) (id off : Nat) : loadT Go.Proofs.Tryd.prog h 148 id off = @thn _ _ (h.blk id) ⟨fun b => b.get off⟩ := by kernel_rfl
attribute [go_sem] ld_148
theorem st_148 (h : H) (id off : Nat) (v : CV) : storeT Go.Proofs.Tryd.prog h 148 id off v = @thn _ _ (h.blk id) ⟨fun b => cond (Nat.beq v.cells.length 1 && !b.ro) ((b.storeA off v.cells).map fun b' => h.put id (.cells b')) none⟩ := by kernel_rfl
attribute [go_sem] st_148
theorem part_148 (cs : List CV) (off : Nat) : partT Go.Proofs.Tryd.prog 148 cs off = nth cs off := by kernel_rfl
attribute [go_sem] part_148
theorem ze_148 : zeroT Go.Proofs.Tryd.prog 148 = some (.nilp) := by kernel_rfl
attribute [go_sem] ze_148
theorem eq_148 (xo yo : Operand) (a b : Nat) : binT Go.Proofs.Tryd.prog .eql 148 xo yo (.ptr a b) .nilp = some (.bool false) := by kernel_rfl
attribute [go_sem] eq_148
theorem eq_148_n (xo yo : Operand) : binT Go.Proofs.Tryd.prog .eql 148 xo yo .nilp .nilp = some (.bool true) := by kernel_rfl
attribute [go_sem] eq_148_n
theorem ne_148 (xo yo : Operand) (a b : Nat) : binT Go.Proofs.Tryd.prog .neq 148 xo yo (.ptr a b) .nilp = some (.bool true) := by kernel_rfl
attribute [go_sem] ne_148
theorem ne_148_n (xo yo : Operand) : binT Go.Proofs.Tryd.prog .neq 148 xo yo .nilp .nilp = some (.bool false) := by kernel_rfl
attribute [go_sem] ne_148_n
theorem sz_149 : szOf Go.Proofs.Tryd.prog 149 = some 1 := by kernel_rfl
attribute [go_sem] sz_149
theorem ld_149 (h : H) (id off : Nat) : loadT Go.Proofs.Tryd.prog h 149 id off = @thn _ _ (h.blk id) ⟨fun b => b.get off⟩ := by kernel_rfl
attribute [go_sem] ld_149
theorem st_149 (h : H) (id off : Nat) (v : CV) : storeT Go.Proofs.Tryd.prog h 149 id off v = @thn _ _ (h.blk id) ⟨fun b => cond (Nat.beq v.cells.length 1 && !b.ro) ((b.storeA off v.cells).map fun b' => h.put id (.cells b')) none⟩ := by kernel_rfl
attribute [go_sem] st_149
theorem part_149 (cs : List CV) (off : Nat) : partT Go.Proofs.Tryd.prog 149 cs off = nth cs off := by kernel_rfl
attribute [go_sem] part_149
theorem ze_149 : zeroT Go.Proofs.Tryd.prog 149 = some (.nilf) := by kernel_rfl
attribute [go_sem] ze_149
theorem eq_149 (xo yo : Operand) (f : Fn) (a b : List CV) : binT Go.Proofs.Tryd.prog .eql 149 xo yo (.fn f a b) .nilf = some (.bool false) := by kernel_rfl
attribute [go_sem] eq_149
theorem eq_149_n (xo yo : Operand) : binT Go.Proofs.Tryd.prog .eql 149 xo yo .nilf .nilf = some (.bool true) := by kernel_rfl
attribute [go_sem] eq_149_n
theorem ne_149 (xo yo : Operand) (f : Fn) (a b : List CV) : binT Go.Proofs.Tryd.prog .neq 149 xo yo (.fn f a b) .nilf = some (.bool true) := by kernel_rfl
attribute [go_sem] ne_149
theorem ne_149_n (xo yo : Operand) : binT Go.Proofs.Tryd.prog .neq 149 xo yo .nilf .nilf = some (.bool false) := by kernel_rfl
attribute [go_sem] ne_149_n
theorem sz_150 : szOf Go.Proofs.Tryd.prog 150 = some 1 := by kernel_rfl
attribute [go_sem] sz_150
theorem ld_150 (h : H) (id off : Nat) : loadT Go.Proofs.Tryd.prog h 150 id off = @thn _ _ (h.blk id) ⟨fun b => b.get off⟩ := by kernel_rfl
attribute [go_sem] ld_150
theorem st_150 (h : H) (id off : Nat) (v : CV) : storeT Go.Proofs.Tryd.prog h 150 id off v = @thn _ _ (h.blk id) ⟨fun b => cond (Nat.beq v.cells.length 1 && !b.ro) ((b.storeA off v.cells).map fun b' => h.put id (.cells b')) none⟩ := by kernel_rfl
attribute [go_sem] st_150
theorem part_150 (cs : List CV) (off : Nat) : partT Go.Proofs.Tryd.prog 150 cs off = nth cs off := by kernel_rfl
attribute [go_sem] part_150
theorem ze_150 : zeroT Go.Proofs.Tryd.prog 150 = some (.nilf) := by kernel_rfl
attribute [go_sem] ze_150
theorem eq_150 (xo yo : Operand) (f : Fn) (a b : List CV) : binT Go.Proofs.Tryd.prog .eql 150 xo yo (.fn f a b) .nilf = some (.bool false) := by kernel_rfl
attribute [go_sem] eq_150
theorem eq_150_n (xo yo : Operand) : binT Go.Proofs.Tryd.prog .eql 150 xo yo .nilf .nilf = some (.bool true) := by kernel_rfl
attribute [go_sem] eq_150_n
theorem ne_150 (xo yo : Operand) (f : Fn) (a b : List CV) : binT Go.Proofs.Tryd.prog .neq 150 xo yo (.fn f a b) .nilf = some (.bool true) := by kernel_rfl
attribute [go_sem] ne_150
theorem ne_150_n (xo yo : Operand) : binT Go.Proofs.Tryd.prog .neq 150 xo yo .nilf .nilf = some (.bool false) := by kernel_rfl
attribute [go_sem] ne_150_n
theorem sz_153 : szOf Go.Proofs.Tryd.prog 153 = some 64 := by kernel_rfl
attribute [go_sem] sz_153
theorem ld_153 (h : H) (id off : Nat) : loadT Go.Proofs.Tryd.prog h 153 id off = @thn _ _ (h.blk id) ⟨fun b => (b.loadN off 64).map .agg⟩ := by kernel_rfl
attribute [go_sem] ld_153
theorem st_153 (h : H) (id off : Nat) (v : CV) : storeT Go.Proofs.Tryd.prog h 153 id off v = @thn _ _ (h.blk id) ⟨fun b => cond (Nat.beq v.cells.length 64 && !b.ro) ((b.storeA off v.cells).map fun b' => h.put id (.cells b')) none⟩ := by kernel_rfl
attribute [go_sem] st_153
theorem part_153 (cs : List CV) (off : Nat) : partT Go.Proofs.Tryd.prog 153 cs off = some (.agg ((cs.drop off).take 64)) := by kernel_rfl
attribute [go_sem] part_153
theorem ze_153 : zeroT Go.Proofs.Tryd.prog 153 = some (.agg [.int .u64 0, .int .u64 0, .int .u64 0, .int .u64 0, .int .u64 0, .int .u64 0, .int .u64 0, .int .u64 0, .int .u64 0, .int .u64 0, .int .u64 0, .int .u64 0, .int .u64 0, .int .u64 0, .int .u64 0, .int .u64 0, .int .u64 0, .int .u64 0, .int .u64 0, .int .u64 0, .int .u64 0, .int .u64 0, .int .u64 0, .int .u64 0, .int .u64 0, .int .u64 0, .int .u64 0, .int .u64 0, .int .u64 0, .int .u64 0, .int .u64 0, .int .u64 0, .int .u64 0, .int .u64 0, .int .u64 0, .int .u64 0, .int .u64 0, .int .u64 0, .int .u64 0, .int .u64 0, .int .u64 0, .int .u64 0, .int .u64 0, .int .u64 0, .int .u64 0, .int .u64 0, .int .u64 0, .int .u64 0, .int .u64 0, .int .u64 0, .int .u64 0, .int .u64 0, .int .u64 0, .int .u64 0, .int .u64 0, .int .u64 0, .int .u64 0, .int .u64 0, .int .u64 0, .int .u64 0, .int .u64 0, .int .u64 0, .int .u64 0, .int .u64 0]) := by kernel_rfl
attribute [go_sem] ze_153
theorem ia_153 (id off k : Nat) (kd : IntKind) : indexAddrT Go.Proofs.Tryd.prog 153 (.ptr id off) (.int kd (Int.ofNat k)) = cond (Nat.blt k 64) (some (.ptr id (off + k * 1))) none := by kernel_rfl
attribute [go_sem] ia_153
theorem ix_153 (cs : List CV) (k : Nat) (kd : IntKind) : indexT Go.Proofs.Tryd.prog 153 (.agg cs) (.int kd (Int.ofNat k)) = cond (Nat.blt k 64) (partT Go.Proofs.Tryd.prog 23 cs (k * 1)) none := by kernel_rfl
attribute [go_sem] ix_153
theorem len_153 (h : H) (ts : List TypeId) (az : List CV) (a : CV) : builtinT Go.Proofs.Tryd.prog h .len (153 :: ts) (a :: az) = some (.val (.int .i64 64)) := by kernel_rfl
attribute [go_sem] len_153
theorem bt_153 (parts : List (Nat × CV)) : buildT Go.Proofs.Tryd.prog 153 parts = finB (CV.cells (.agg [.int .u64 0, .int .u64 0, .int .u64 0, .int .u64 0, .int .u64 0, .int .u64 0, .int .u64 0, .int .u64 0, .int .u64 0, .int .u64 0, .int .u64 0, .int .u64 0, .int .u64 0, .int .u64 0, .int .u64 0, .int .u64 0, .int .u64 0, .int .u64 0, .int .u64 0, .int .u64 0, .int .u64 0, .int .u64 0, .int .u64 0, .int .u64 0, .int .u64 0, .int .u64 0, .int .u64 0, .int .u64 0, .int .u64 0, .int .u64 0, .int .u64 0, .int .u64 0, .int .u64 0, .int .u64 0, .int .u64 0, .int .u64 0, .int .u64 0, .int .u64 0, .int .u64 0, .int .u64 0, .int .u64 0, .int .u64 0, .int .u64 0, .int .u64 0, .int .u64 0, .int .u64 0, .int .u64 0, .int .u64 0, .int .u64 0, .int .u64 0, .int .u64 0, .int .u64 0, .int .u64 0, .int .u64 0, .int .u64 0, .int .u64 0, .int .u64 0, .int .u64 0, .int .u64 0, .int .u64 0, .int .u64 0, .int .u64 0, .int .u64 0, .int .u64 0])) (fun i => some (i * 1, 1)) parts := by kernel_rfl
attribute [go_sem] bt_153
theorem sz_154 : szOf Go.Proofs.Tryd.prog 154 = some 1 := by kernel_rfl
attribute [go_sem] sz_154
theorem ld_154 (h : H) (id off : Nat) : loadT Go.Proofs.Tryd.prog h 154 id off = @thn _ _ (h.blk id) ⟨fun b => b.get off⟩ := by kernel_rfl
attribute [go_sem] ld_154
theorem st_154 (h : H) (id off : Nat) (v : CV) : storeT Go.Proofs.Tryd.prog h 154 id off v = @thn _ _ (h.blk id) ⟨fun b => cond (Nat.beq v.cells.length 1 && !b.ro) ((b.storeA off v.cells).map fun b' => h.put id (.cells b')) none⟩ := by kernel_rfl
attribute [go_sem] st_154
theorem part_154 (cs : List CV) (off : Nat) : partT Go.Proofs.Tryd.prog 154 cs off = nth cs off := by kernel_rfl
attribute [go_sem] part_154
theorem ze_154 : zeroT Go.Proofs.Tryd.prog 154 = some (.nilf) := by kernel_rfl
attribute [go_sem] ze_154
theorem eq_154 (xo yo : Operand) (f : Fn) (a b : List CV) : binT Go.Proofs.Tryd.prog .eql 154 xo yo (.fn f a b) .nilf = some (.bool false) := by kernel_rfl
attribute [go_sem] eq_154
theorem eq_154_n (xo yo : Operand) : binT Go.Proofs.Tryd.prog .eql 154 xo yo .nilf .nilf = some (.bool true) := by kernel_rfl
attribute [go_sem] eq_154_n
theorem ne_154 (xo yo : Operand) (f : Fn) (a b : List CV) : binT Go.Proofs.Tryd.prog .neq 154 xo yo (.fn f a b) .nilf = some (.bool true) := by kernel_rfl
attribute [go_sem] ne_154
theorem ne_154_n (xo yo : Operand) : binT Go.Proofs.Tryd.prog .neq 154 xo yo .nilf .nilf = some (.bool false) := by kernel_rfl
attribute [go_sem] ne_154_n
theorem sz_155 : szOf Go.Proofs.Tryd.prog 155 = some 1 := by kernel_rfl
attribute [go_sem] sz_155
theorem ld_155 (h : H) (id off : Nat) : loadT Go.Proofs.Tryd.prog h 155 id off = @thn _ _ (h.blk id) ⟨fun b => b.get off⟩ := by kernel_rfl
attribute [go_sem] ld_155
theorem st_155 (h : H) (id off : Nat) (v : CV) : storeT Go.Proofs.Tryd.prog h 155 id off v = @thn _ _ (h.blk id) ⟨fun b => cond (Nat.beq v.cells.length 1 && !b.ro) ((b.storeA off v.cells).map fun b' => h.put id (.cells b')) none⟩ := by kernel_rfl
attribute [go_sem] st_155
theorem part_155 (cs : List CV) (off : Nat) : partT Go.Proofs.Tryd.prog 155 cs off = nth cs off := by kernel_rfl
attribute [go_sem] part_155
theorem ze_155 : zeroT Go.Proofs.Tryd.prog 155 = some (.nilf) := by kernel_rfl
attribute [go_sem] ze_155
theorem eq_155 (xo yo : Operand) (f : Fn) (a b : List CV) : binT Go.Proofs.Tryd.prog .eql 155 xo yo (.fn f a b) .nilf = some (.bool false) := by kernel_rfl
attribute [go_sem] eq_155
theorem eq_155_n (xo yo : Operand) : binT Go.Proofs.Tryd.prog .eql 155 xo yo .nilf .nilf = some (.bool true) := by kernel_rfl
attribute [go_sem] eq_155_n
theorem ne_155 (xo yo : Operand) (f : Fn) (a b : List CV) : binT Go.Proofs.Tryd.prog .neq 155 xo yo (.fn f a b) .nilf = some (.bool true) := by kernel_rfl
attribute [go_sem] ne_155
theorem ne_155_n (xo yo : Operand) : binT Go.Proofs.Tryd.prog .neq 155 xo yo .nilf .nilf = some (.bool false) := by kernel_rfl
attribute [go_sem] ne_155_n
theorem sz_156 : szOf Go.Proofs.Tryd.prog 156 = some 1 := by kernel_rfl
attribute [go_sem] sz_156
theorem ld_156 (h : H) (id off : Nat) : loadT Go.Proofs.Tryd.prog h 156 id off = @thn _ _ (h.blk id) ⟨fun b => b.get off⟩ := by kernel_rfl
attribute [go_sem] ld_156
theorem st_156 (h : H) (id off : Nat) (v : CV) : storeT Go.Proofs.Tryd.prog h 156 id off v = @thn _ _ (h.blk id) ⟨fun b => cond (Nat.beq v.cells.length 1 && !b.ro) ((b.storeA off v.cells).map fun b' => h.put id (.cells b')) none⟩ := by kernel_rfl
attribute [go_sem] st_156
theorem part_156 (cs : List CV) (off : Nat) : partT Go.Proofs.Tryd.prog 156 cs off = nth cs off := by kernel_rfl
attribute [go_sem] part_156
theorem ze_156 : zeroT Go.Proofs.Tryd.prog 156 = some (.nilf) := by kernel_rfl
attribute [go_sem] ze_156
theorem eq_156 (xo yo : Operand) (f : Fn) (a b : List CV) : binT Go.Proofs.Tryd.prog .eql 156 xo yo (.fn f a b) .nilf = some (.bool false) := by kernel_rfl
attribute [go_sem] eq_156
theorem eq_156_n (xo yo : Operand) : binT Go.Proofs.Tryd.prog .eql 156 xo yo .nilf .nilf = some (.bool true) := by kernel_rfl
attribute [go_sem] eq_156_n
theorem ne_156 (xo yo : Operand) (f : Fn) (a b : List CV) : binT Go.Proofs.Tryd.prog .neq 156 xo yo (.fn f a b) .nilf = some (.bool true) := by kernel_rfl
attribute [go_sem] ne_156
theorem ne_156_n (xo yo : Operand) : binT Go.Proofs.Tryd.prog .neq 156 xo yo .nilf .nilf = some (.bool false) := by kernel_rfl
attribute [go_sem] ne_156_n
theorem sz_160 : szOf Go.Proofs.Tryd.prog 160 = some 1 := by kernel_rfl
attribute [go_sem] sz_160
theorem ld_160 (h : H) (id off : Nat) : loadT Go.Proofs.Tryd.prog h 160 id off = @thn _ _ (h.blk id) ⟨fun b => b.get off⟩ := by kernel_rfl
attribute [go_sem] ld_160
theorem st_160 (h : H) (id off : Nat) (v : CV) : storeT Go.Proofs.Tryd.prog h 160 id off v = @thn _ _ (h.blk id) ⟨fun b => cond (Nat.beq v.cells.length 1 && !b.ro) ((b.storeA off v.cells).map fun b' => h.put id (.cells b')) none⟩ := by kernel_rfl
attribute [go_sem] st_160
theorem part_160 (cs : List CV) (off : Nat) : partT Go.Proofs.Tryd.prog 160 cs off = nth cs off := by kernel_rfl
attribute [go_sem] part_160
theorem sz_161 : szOf Go.Proofs.Tryd.prog 161 = some 1 := by kernel_rfl
attribute [go_sem] sz_161
theorem ld_161 (h : H) (id off : Nat) : loadT Go.Proofs.Tryd.prog h 161 id off = @thn _ _ (h.blk id) ⟨fun b => b.get off⟩ := by kernel_rfl
attribute [go_sem] ld_161
theorem st_161 (h : H) (id off : Nat) (v : CV) : storeT Go.Proofs.Tryd.prog h 161 id off v = @thn _ _ (h.blk id) ⟨fun b => cond (Nat.beq v.cells.length 1 && !b.ro) ((b.storeA off v.cells).map fun b' => h.put id (.cells b')) none⟩ := by kernel_rfl
attribute [go_sem] st_161
theorem part_161 (cs : List CV) (off : Nat) : partT Go.Proofs.Tryd.prog 161 cs off = nth cs off := by kernel_rfl
attribute [go_sem] part_161
theorem ze_161 : zeroT Go.Proofs.Tryd.prog 161 = some (.nilf) := by kernel_rfl
attribute [go_sem] ze_161
theorem eq_161 (xo yo : Operand) (f : Fn) (a b : List CV) : binT Go.Proofs.Tryd.prog .eql 161 xo yo (.fn f a b) .nilf = some (.bool false) := by kernel_rfl
attribute [go_sem] eq_161
theorem eq_161_n (xo yo : Operand) : binT Go.Proofs.Tryd.prog .eql 161 xo yo .nilf .nilf = some (.bool true) := by kernel_rfl
attribute [go_sem] eq_161_n
theorem ne_161 (xo yo : Operand) (f : Fn) (a b : List CV) : binT Go.Proofs.Tryd.prog .neq 161 xo yo (.fn f a b) .nilf = some (.bool true) := by kernel_rfl
attribute [go_sem] ne_161
theorem ne_161_n (xo yo : Operand) : binT Go.Proofs.Tryd.prog .neq 161 xo yo .nilf .nilf = some (.bool false) := by kernel_rfl
attribute [go_sem] ne_161_n
theorem sz_162 : szOf Go.Proofs.Tryd.prog 162 = some 1 := by kernel_rfl
attribute [go_sem] sz_162
theorem ld_162 (h : H) (id off : Nat) : loadT Go.Proofs.Tryd.prog h 162 id off = @thn _ _ (h.blk id) ⟨fun b => b.get off⟩ := by kernel_rfl
attribute [go_sem] ld_162
theorem st_162 (h : H) (id off : Nat) (v : CV) : storeT Go.Proofs.Tryd.prog h 162 id off v = @thn _ _ (h.blk id) ⟨fun b => cond (Nat.beq v.cells.length 1 && !b.ro) ((b.storeA off v.cells).map fun b' => h.put id (.cells b')) none⟩ := by kernel_rfl
attribute [go_sem] st_162
theorem part_162 (cs : List CV) (off : Nat) : partT Go.Proofs.Tryd.prog 162 cs off = nth cs off := by kernel_rfl
attribute [go_sem] part_162
theorem ze_162 : zeroT Go.Proofs.Tryd.prog 162 = some (.nilf) := by kernel_rfl
attribute [go_sem] ze_162
theorem eq_162 (xo yo : Operand) (f : Fn) (a b : List CV) : binT Go.Proofs.Tryd.prog .eql 162 xo yo (.fn f a b) .nilf = some (.bool false) := by kernel_rfl
attribute [go_sem] eq_162
theorem eq_162_n (xo yo : Operand) : binT Go.Proofs.Tryd.prog .eql 162 xo yo .nilf .nilf = some (.bool true) := by kernel_rfl
attribute [go_sem] eq_162_n
theorem ne_162 (xo yo : Operand) (f : Fn) (a b : List CV) : binT Go.Proofs.Tryd.prog .neq 162 xo yo (.fn f a b) .nilf = some (.bool true) := by kernel_rfl
attribute [go_sem] ne_162
theorem ne_162_n (xo yo : Operand) : binT Go.Proofs.Tryd.prog .neq 162 xo yo .nilf .nilf = some (.bool false) := by kernel_rfl
attribute [go_sem] ne_162_n
theorem sz_181 : szOf Go.Proofs.Tryd.prog 181 = some 1 := by kernel_rfl
attribute [go_sem] sz_181
theorem ld_181 (h : H) (id off : Nat) : loadT Go.Proofs.Tryd.prog h 181 id off = @thn _ _ (h.blk id) ⟨fun b => b.get off⟩ := by kernel_rfl
attribute [go_sem] ld_181
theorem st_181 (h : H) (id off : Nat) (v : CV) : storeT Go.Proofs.Tryd.prog h 181 id off v = @thn _ _ (h.blk id) ⟨fun b => cond (Nat.beq v.cells.length 1 && !b.ro) ((b.storeA off v.cells).map fun b' => h.put id (.cells b')) none⟩ := by kernel_rfl
attribute [go_sem] st_181
theorem part_181 (cs : List CV) (off : Nat) : partT Go.Proofs.Tryd.prog 181 cs off = nth cs off := by kernel_rfl
attribute [go_sem] part_181
theorem ze_181 : zeroT Go.Proofs.Tryd.prog 181 = some (.nilf) := by kernel_rfl
attribute [go_sem] ze_181
theorem eq_181 (xo yo : Operand) (f : Fn) (a b : List CV) : binT Go.Proofs.Tryd.prog .eql 181 xo yo (.fn f a b) .nilf = some (.bool false) := by kernel_rfl
attribute [go_sem] eq_181
theorem eq_181_n (xo yo : Operand) : binT Go.Proofs.Tryd.prog .eql 181 xo yo .nilf .nilf = some (.bool true) := by kernel_rfl
attribute [go_sem] eq_181_n
theorem ne_181 (xo yo : Operand) (f : Fn) (a b : List CV) : binT Go.Proofs.Tryd.prog .neq 181 xo yo (.fn f a b) .nilf = some (.bool true) := by kernel_rfl
attribute [go_sem] ne_181
theorem ne_181_n (xo yo : Operand) : binT Go.Proofs.Tryd.prog .neq 181 xo yo .nilf .nilf = some (.bool false) := by kernel_rfl
attribute [go_sem] ne_181_n
theorem sz_182 : szOf Go.Proofs.Tryd.prog 182 = some 4 := by kernel_rfl
attribute [go_sem] sz_182
theorem ld_182 (h : H) (id off : Nat) : loadT Go.Proofs.Tryd.prog h 182 id off = @thn _ _ (h.blk id) ⟨fun b => (b.loadN off 4).map .agg⟩ := by kernel_rfl
attribute [go_sem] ld_182
theorem st_182 (h : H) (id off : Nat) (v : CV) : storeT Go.Proofs.Tryd.prog h 182 id off v = @thn _ _ (h.blk id) ⟨fun b => cond (Nat.beq v.cells.length 4 && !b.ro) ((b.storeA off v.cells).map fun b' => h.put id (.cells b')) none⟩ := by kernel_rfl
attribute [go_sem] st_182
theorem part_182 (cs : List CV) (off : Nat) : partT Go.Proofs.Tryd.prog 182 cs off = some (.agg ((cs.drop off).take 4)) := by kernel_rfl
attribute [go_sem] part_182
theorem ze_182 : zeroT Go.Proofs.Tryd.prog 182 = some (.agg [.nilp, .nilp, .nilp, .str []]) := by kernel_rfl
attribute [go_sem] ze_182
theorem bt_182 (parts : List (Nat × CV)) : buildT Go.Proofs.Tryd.prog 182 parts = finB (CV.cells (.agg [.nilp, .nilp, .nilp, .str []])) (nth [(0, 1), (1, 1), (2, 1), (3, 1)]) parts := by kernel_rfl
attribute [go_sem] bt_182
theorem fa_182_0 (id off : Nat) : fieldAddrT Go.Proofs.Tryd.prog 182 (.ptr id off) 0 = some (.ptr id (off)) := by kernel_rfl
attribute [go_sem] fa_182_0
theorem fd_182_0 (cs : List CV) : fieldT Go.Proofs.Tryd.prog 182 (.agg cs) 0 = partT Go.Proofs.Tryd.prog 17 cs 0 := by kernel_rfl
attribute [go_sem] fd_182_0
theorem fa_182_1 (id off : Nat) : fieldAddrT Go.Proofs.Tryd.prog 182 (.ptr id off) 1 = some (.ptr id (off + 1)) := by kernel_rfl
attribute [go_sem] fa_182_1
theorem fd_182_1 (cs : List CV) : fieldT Go.Proofs.Tryd.prog 182 (.agg cs) 1 = partT Go.Proofs.Tryd.prog 17 cs 1 := by kernel_rfl
attribute [go_sem] fd_182_1
theorem fa_182_2 (id off : Nat) : fieldAddrT Go.Proofs.Tryd.prog 182 (.ptr id off) 2 = some (.ptr id (off + 2)) := by kernel_rfl
attribute [go_sem] fa_182_2
theorem fd_182_2 (cs : List CV) : fieldT Go.Proofs.Tryd.prog 182 (.agg cs) 2 = partT Go.Proofs.Tryd.prog 17 cs 2 := by kernel_rfl
attribute [go_sem] fd_182_2
theorem fa_182_3 (id off : Nat) : fieldAddrT Go.Proofs.Tryd.prog 182 (.ptr id off) 3 = some (.ptr id (off + 3)) := by kernel_rfl
attribute [go_sem] fa_182_3
theorem fd_182_3 (cs : List CV) : fieldT Go.Proofs.Tryd.prog 182 (.agg cs) 3 = partT Go.Proofs.Tryd.prog 9 cs 3 := by kernel_rfl
attribute [go_sem] fd_182_3
theorem sz_183 : szOf Go.Proofs.Tryd.prog 183 = some 4 := by kernel_rfl
attribute [go_sem] sz_183
theorem ld_183 (h : H) (id off : Nat) : loadT Go.Proofs.Tryd.prog h 183 id off = @thn _ _ (h.blk id) ⟨fun b => (b.loadN off 4).map .agg⟩ := by kernel_rfl
attribute [go_sem] ld_183
theorem st_183 (h : H) (id off : Nat) (v : CV) : storeT Go.Proofs.Tryd.prog h 183 id off v = @thn _ _ (h.blk id) ⟨fun b => cond (Nat.beq v.cells.length 4 && !b.ro) ((b.storeA off v.cells).map fun b' => h.put id (.cells b')) none⟩ := by kernel_rfl
attribute [go_sem] st_183
theorem part_183 (cs : List CV) (off : Nat) : partT Go.Proofs.Tryd.prog 183 cs off = some (.agg ((cs.drop off).take 4)) := by kernel_rfl
attribute [go_sem] part_183
theorem ze_183 : zeroT Go.Proofs.Tryd.prog 183 = some (.agg [.nilp, .nilp, .nilp, .str []]) := by kernel_rfl
attribute [go_sem] ze_183
theorem bt_183 (parts : List (Nat × CV)) : buildT Go.Proofs.Tryd.prog 183 parts = finB (CV.cells (.agg [.nilp, .nilp, .nilp, .str []])) (nth [(0, 1), (1, 1), (2, 1), (3, 1)]) parts := by kernel_rfl
attribute [go_sem] bt_183
theorem fa_183_0 (id off : Nat) : fieldAddrT Go.Proofs.Tryd.prog 183 (.ptr id off) 0 = some (.ptr id (off)) := by kernel_rfl
attribute [go_sem] fa_183_0
theorem fd_183_0 (cs : List CV) : fieldT Go.Proofs.Tryd.prog 183 (.agg cs) 0 = partT Go.Proofs.Tryd.prog 17 cs 0 := by kernel_rfl
attribute [go_sem] fd_183_0
theorem fa_183_1 (id off : Nat) : fieldAddrT Go.Proofs.Tryd.prog 183 (.ptr id off) 1 = some (.ptr id (off + 1)) := by kernel_rfl
attribute [go_sem] fa_183_1
theorem fd_183_1 (cs : List CV) : fieldT Go.Proofs.Tryd.prog 183 (.agg cs) 1 = partT Go.Proofs.Tryd.prog 17 cs 1 := by kernel_rfl
attribute [go_sem] fd_183_1
theorem fa_183_2 (id off : Nat) : fieldAddrT Go.Proofs.Tryd.prog 183 (.ptr id off) 2 = some (.ptr id (off + 2)) := by kernel_rfl
attribute [go_sem] fa_183_2
theorem fd_183_2 (cs : List CV) : fieldT Go.Proofs.Tryd.prog 183 (.agg cs) 2 = partT Go.Proofs.Tryd.prog 17 cs 2 := by kernel_rfl
attribute [go_sem] fd_183_2
theorem fa_183_3 (id off : Nat) : fieldAddrT Go.Proofs.Tryd.prog 183 (.ptr id off) 3 = some (.ptr id (off + 3)) := by kernel_rfl
attribute [go_sem] fa_183_3
theorem fd_183_3 (cs : List CV) : fieldT Go.Proofs.Tryd.prog 183 (.agg cs) 3 = partT Go.Proofs.Tryd.prog 9 cs 3 := by kernel_rfl
attribute [go_sem] fd_183_3
theorem sz_184 : szOf Go.Proofs.Tryd.prog 184 = some 0 := by kernel_rfl
attribute [go_sem] sz_184
theorem ld_184 (h : H) (id off : Nat) : loadT Go.Proofs.Tryd.prog h 184 id off = @thn _ _ (h.blk id) ⟨fun b => (b.loadN off 0).map .agg⟩ := by kernel_rfl
attribute [go_sem] ld_184
theorem st_184 (h : H) (id off : Nat) (v : CV) : storeT Go.Proofs.Tryd.prog h 184 id off v = @thn _ _ (h.blk id) ⟨fun b => cond (Nat.beq v.cells.length 0 && !b.ro) ((b.storeA off v.cells).map fun b' => h.put id (.cells b')) none⟩ := by kernel_rfl
attribute [go_sem] st_184
theorem part_184 (cs : List CV) (off : Nat) : partT Go.Proofs.Tryd.prog 184 cs off = some (.agg ((cs.drop off).take 0)) := by kernel_rfl
attribute [go_sem] part_184
theorem ze_184 : zeroT Go.Proofs.Tryd.prog 184 = some (.agg []) := by kernel_rfl
attribute [go_sem] ze_184
theorem ia_184 (id off k : Nat) (kd : IntKind) : indexAddrT Go.Proofs.Tryd.prog 184 (.ptr id off) (.int kd (Int.ofNat k)) = cond (Nat.blt k 0) (some (.ptr id (off + k * 1))) none := by kernel_rfl
attribute [go_sem] ia_184
theorem ix_184 (cs : List CV) (k : Nat) (kd : IntKind) : indexT Go.Proofs.Tryd.prog 184 (.agg cs) (.int kd (Int.ofNat k)) = cond (Nat.blt k 0) (partT Go.Proofs.Tryd.prog 16 cs (k * 1)) none := by kernel_rfl
attribute [go_sem] ix_184
theorem len_184 (h : H) (ts : List TypeId) (az : List CV) (a : CV) : builtinT Go.Proofs.Tryd.prog h .len (184 :: ts) (a :: az) = some (.val (.int .i64 0)) := by kernel_rfl
attribute [go_sem] len_184
theorem bt_184 (parts : List (Nat × CV)) : buildT Go.Proofs.Tryd.prog 184 parts = finB (CV.cells (.agg [])) (fun i => some (i * 1, 1)) parts := by kernel_rfl
attribute [go_sem] bt_184
theorem sz_185 : szOf Go.Proofs.Tryd.prog 185 = some 0 := by kernel_rfl
attribute [go_sem] sz_185
theorem ld_185 (h : H) (id off : Nat) : loadT Go.Proofs.Tryd.prog h 185 id off = @thn _ _ (h.blk id) ⟨fun b => (b.loadN off 0).map .agg⟩ := by kernel_rfl
attribute [go_sem] ld_185
theorem st_185 (h : H) (id off : Nat) (v : CV) : storeT Go.Proofs.Tryd.prog h 185 id off v = @thn _ _ (h.blk id) ⟨fun b => cond (Nat.beq v.cells.length 0 && !b.ro) ((b.storeA off v.cells).map fun b' => h.put id (.cells b')) none⟩ := by kernel_rfl
attribute [go_sem] st_185
theorem part_185 (cs : List CV) (off : Nat) : partT Go.Proofs.Tryd.prog 185 cs off = some (.agg ((cs.drop off).take 0)) := by kernel_rfl
attribute [go_sem] part_185
theorem ze_185 : zeroT Go.Proofs.Tryd.prog 185 = some (.agg []) := by kernel_rfl
attribute [go_sem] ze_185
theorem bt_185 (parts : List (Nat × CV)) : buildT Go.Proofs.Tryd.prog 185 parts = finB (CV.cells (.agg [])) (nth [(0, 0)]) parts := by kernel_rfl
attribute [go_sem] bt_185
theorem fd_185_0 (cs : List CV) : fieldT Go.Proofs.Tryd.prog 185 (.agg cs) 0 = partT Go.Proofs.Tryd.prog 184 cs 0 := by kernel_rfl
attribute [go_sem] fd_185_0
theorem sz_186 : szOf Go.Proofs.Tryd.prog 186 = some 0 := by kernel_rfl
attribute [go_sem] sz_186
theorem ld_186 (h : H) (id off : Nat) : loadT Go.Proofs.Tryd.prog h 186 id off = @thn _ _ (h.blk id) ⟨fun b => (b.loadN off 0).map .agg⟩ := by kernel_rfl
attribute [go_sem] ld_186
theorem st_186 (h : H) (id off : Nat) (v : CV) : storeT Go.Proofs.Tryd.prog h 186 id off v = @thn _ _ (h.blk id) ⟨fun b => cond (Nat.beq v.cells.length 0 && !b.ro) ((b.storeA off v.cells).map fun b' => h.put id (.cells b')) none⟩ := by kernel_rfl
attribute [go_sem] st_186
theorem part_186 (cs : List CV) (off : Nat) : partT Go.Proofs.Tryd.prog 186 cs off = some (.agg ((cs.drop off).take 0)) := by kernel_rfl
attribute [go_sem] part_186
theorem ze_186 : zeroT Go.Proofs.Tryd.prog 186 = some (.agg []) := by kernel_rfl
attribute [go_sem] ze_186
theorem bt_186 (parts : List (Nat × CV)) : buildT Go.Proofs.Tryd.prog 186 parts = finB (CV.cells (.agg [])) (nth [(0, 0)]) parts := by kernel_rfl
attribute [go_sem] bt_186
theorem fd_186_0 (cs : List CV) : fieldT Go.Proofs.Tryd.prog 186 (.agg cs) 0 = partT Go.Proofs.Tryd.prog 184 cs 0 := by kernel_rfl
attribute [go_sem] fd_186_0
theorem sz_187 : szOf Go.Proofs.Tryd.prog 187 = some 1 := by kernel_rfl
attribute [go_sem] sz_187
theorem ld_187 (h : H) (id off : Nat) : loadT Go.Proofs.Tryd.prog h 187 id off = @thn _ _ (h.blk id) ⟨fun b => b.get off⟩ := by kernel_rfl
attribute [go_sem] ld_187
theorem st_187 (h : H) (id off : Nat) (v : CV) : storeT Go.Proofs.Tryd.prog h 187 id off v = @thn _ _ (h.blk id) ⟨fun b => cond (Nat.beq v.cells.length 1 && !b.ro) ((b.storeA off v.cells).map fun b' => h.put id (.cells b')) none⟩ := by kernel_rfl
attribute [go_sem] st_187
theorem part_187 (cs : List CV) (off : Nat) : partT Go.Proofs.Tryd.prog 187 cs off = nth cs off := by kernel_rfl
attribute [go_sem] part_187
theorem ze_187 : zeroT Go.Proofs.Tryd.prog 187 = some (.int .u8 0) := by kernel_rfl
attribute [go_sem] ze_187
theorem sz_188 : szOf Go.Proofs.Tryd.prog 188 = some 1 := by kernel_rfl
attribute [go_sem] sz_188
theorem ld_188 (h : H) (id off : Nat) : loadT Go.Proofs.Tryd.prog h 188 id off = @thn _ _ (h.blk id) ⟨fun b => b.get off⟩ := by kernel_rfl
attribute [go_sem] ld_188
theorem st_188 (h : H) (id off : Nat) (v : CV) : storeT Go.Proofs.Tryd.prog h 188 id off v = @thn _ _ (h.blk id) ⟨fun b => cond (Nat.beq v.cells.length 1 && !b.ro) ((b.storeA off v.cells).map fun b' => h.put id (.cells b')) none⟩ := by kernel_rfl
attribute [go_sem] st_188
theorem part_188 (cs : List CV) (off : Nat) : partT Go.Proofs.Tryd.prog 188 cs off = nth cs off := by kernel_rfl
attribute [go_sem] part_188
theorem ze_188 : zeroT Go.Proofs.Tryd.prog 188 = some (.int .u8 0) := by kernel_rfl
attribute [go_sem] ze_188
theorem sz_189 : szOf Go.Proofs.Tryd.prog 189 = some 1 := by kernel_rfl
attribute [go_sem] sz_189
theorem ld_189 (h : H) (id off : Nat) : loadT Go.Proofs.Tryd.prog h 189 id off = @thn _ _ (h.blk id) ⟨fun b => b.get off⟩ := by kernel_rfl
attribute [go_sem] ld_189
theorem st_189 (h : H) (id off : Nat) (v : CV) : storeT Go.Proofs.Tryd.prog h 189 id off v = @thn _ _ (h.blk id) ⟨fun b => cond (Nat.beq v.cells.length 1 && !b.ro) ((b.storeA off v.cells).map fun b' => h.put id (.cells b')) none⟩ := by kernel_rfl
attribute [go_sem] st_189
theorem part_189 (cs : List CV) (off : Nat) : partT Go.Proofs.Tryd.prog 189 cs off = nth cs off := by kernel_rfl
attribute [go_sem] part_189
theorem ze_189 : zeroT Go.Proofs.Tryd.prog 189 = some (.nilf) := by kernel_rfl
attribute [go_sem] ze_189
theorem eq_189 (xo yo : Operand) (f : Fn) (a b : List CV) : binT Go.Proofs.Tryd.prog .eql 189 xo yo (.fn f a b) .nilf = some (.bool false) := by kernel_rfl
attribute [go_sem] eq_189
theorem eq_189_n (xo yo : Operand) : binT Go.Proofs.Tryd.prog .eql 189 xo yo .nilf .nilf = some (.bool true) := by kernel_rfl
attribute [go_sem] eq_189_n
theorem ne_189 (xo yo : Operand) (f : Fn) (a b : List CV) : binT Go.Proofs.Tryd.prog .neq 189 xo yo (.fn f a b) .nilf = some (.bool true) := by kernel_rfl
attribute [go_sem] ne_189
theorem ne_189_n (xo yo : Operand) : binT Go.Proofs.Tryd.prog .neq 189 xo yo .nilf .nilf = some (.bool false) := by kernel_rfl
attribute [go_sem] ne_189_n
theorem sz_190 : szOf Go.Proofs.Tryd.prog 190 = some 1 := by kernel_rfl
attribute [go_sem] sz_190
theorem ld_190 (h : H) (id off : Nat) : loadT Go.Proofs.Tryd.prog h 190 id off = @thn _ _ (h.blk id) ⟨fun b => b.get off⟩ := by kernel_rfl
attribute [go_sem] ld_190
theorem st_190 (h : H) (id off : Nat) (v : CV) : storeT Go.Proofs.Tryd.prog h 190 id off v = @thn _ _ (h.blk id) ⟨fun b => cond (Nat.beq v.cells.length 1 && !b.ro) ((b.storeA off v.cells).map fun b' => h.put id (.cells b')) none⟩ := by kernel_rfl
attribute [go_sem] st_190
theorem part_190 (cs : List CV) (off : Nat) : partT Go.Proofs.Tryd.prog 190 cs off = nth cs off := by kernel_rfl
attribute [go_sem] part_190
theorem ze_190 : zeroT Go.Proofs.Tryd.prog 190 = some (.nilp) := by kernel_rfl
attribute [go_sem] ze_190
theorem eq_190 (xo yo : Operand) (a b : Nat) : binT Go.Proofs.Tryd.prog .eql 190 xo yo (.ptr a b) .nilp = some (.bool false) := by kernel_rfl
attribute [go_sem] eq_190
theorem eq_190_n (xo yo : Operand) : binT Go.Proofs.Tryd.prog .eql 190 xo yo .nilp .nilp = some (.bool true) := by kernel_rfl
attribute [go_sem] eq_190_n
theorem ne_190 (xo yo : Operand) (a b : Nat) : binT Go.Proofs.Tryd.prog .neq 190 xo yo (.ptr a b) .nilp = some (.bool true) := by kernel_rfl
attribute [go_sem] ne_190
theorem ne_190_n (xo yo : Operand) : binT Go.Proofs.Tryd.prog .neq 190 xo yo .nilp .nilp = some (.bool false) := by kernel_rfl
attribute [go_sem] ne_190_n
theorem sz_191 : szOf Go.Proofs.Tryd.prog 191 = some 1 := by kernel_rfl
attribute [go_sem] sz_191
theorem ld_191 (h : H) (id off : Nat) : loadT Go.Proofs.Tryd.prog h 191 id off = @thn _ _ (h.blk id) ⟨fun b => b.get off⟩ := by kernel_rfl
attribute [go_sem] ld_191
theorem st_191 (h : H) (id off : Nat) (v : CV) : storeT Go.Proofs.Tryd.prog h 191 id off v = @thn _ _ (h.blk id) ⟨fun b => cond (Nat.beq v.cells.length 1 && !b.ro) ((b.storeA off v.cells).map fun b' => h.put id (.cells b')) none⟩ := by kernel_rfl
attribute [go_sem] st_191
theorem part_191 (cs : List CV) (off : Nat) : partT Go.Proofs.Tryd.prog 191 cs off = nth cs off := by kernel_rfl
attribute [go_sem] part_191
theorem ze_191 : zeroT Go.Proofs.Tryd.prog 191 = some (.int .i32 0) := by kernel_rfl
attribute [go_sem] ze_191
theorem sz_192 : szOf Go.Proofs.Tryd.prog 192 = some 1 := by kernel_rfl
attribute [go_sem] sz_192
theorem ld_192 (h : H) (id off : Nat) : loadT Go.Proofs.Tryd.prog h 192 id off = @thn _ _ (h.blk id) ⟨fun b => b.get off⟩ := by kernel_rfl
attribute [go_sem] ld_192
theorem st_192 (h : H) (id off : Nat) (v : CV) : storeT Go.Proofs.Tryd.prog h 192 id off v = @thn _ _ (h.blk id) ⟨fun b => cond (Nat.beq v.cells.length 1 && !b.ro) ((b.storeA off v.cells).map fun b' => h.put id (.cells b')) none⟩ := by kernel_rfl
attribute [go_sem] st_192
theorem part_192 (cs : List CV) (off : Nat) : partT Go.Proofs.Tryd.prog 192 cs off = nth cs off := by kernel_rfl
attribute [go_sem] part_192
theorem ze_192 : zeroT Go.Proofs.Tryd.prog 192 = some (.int .i32 0) := by kernel_rfl
attribute [go_sem] ze_192
theorem sz_193 : szOf Go.Proofs.Tryd.prog 193 = some 11 := by kernel_rfl
attribute [go_sem] sz_193
theorem ld_193 (h : H) (id off : Nat) : loadT Go.Proofs.Tryd.prog h 193 id off = @thn _ _ (h.blk id) ⟨fun b => (b.loadN off 11).map .agg⟩ := by kernel_rfl
attribute [go_sem] ld_193
theorem st_193 (h : H) (id off : Nat) (v : CV) : storeT Go.Proofs.Tryd.prog h 193 id off v = @thn _ _ (h.blk id) ⟨fun b => cond (Nat.beq v.cells.length 11 && !b.ro) ((b.storeA off v.cells).map fun b' => h.put id (.cells b')) none⟩ := by kernel_rfl
attribute [go_sem] st_193
theorem part_193 (cs : List CV) (off : Nat) : partT Go.Proofs.Tryd.prog 193 cs off = some (.agg ((cs.drop off).take 11)) := by kernel_rfl
attribute [go_sem] part_193
theorem ze_193 : zeroT Go.Proofs.Tryd.prog 193 = some (.agg [.int .u64 0, .int .u64 0, .int .u32 0, .int .u8 0, .int .u8 0, .int .u8 0, .int .u8 0, .nilf, .nilp, .int .i32 0, .int .i32 0]) := by kernel_rfl
attribute [go_sem] ze_193
theorem bt_193 (parts : List (Nat × CV)) : buildT Go.Proofs.Tryd.prog 193 parts = finB (CV.cells (.agg [.int .u64 0, .int .u64 0, .int .u32 0, .int .u8 0, .int .u8 0, .int .u8 0, .int .u8 0, .nilf, .nilp, .int .i32 0, .int .i32 0])) (nth [(0, 1), (1, 1), (2, 1), (3, 1), (4, 1), (5, 1), (6, 1), (7, 1), (8, 1), (9, 1), (10, 1)]) parts := by kernel_rfl
attribute [go_sem] bt_193
theorem fa_193_0 (id off : Nat) : fieldAddrT Go.Proofs.Tryd.prog 193 (.ptr id off) 0 = some (.ptr id (off)) := by kernel_rfl
attribute [go_sem] fa_193_0
theorem fd_193_0 (cs : List CV) : fieldT Go.Proofs.Tryd.prog 193 (.agg cs) 0 = partT Go.Proofs.Tryd.prog 12 cs 0 := by kernel_rfl
attribute [go_sem] fd_193_0
theorem fa_193_1 (id off : Nat) : fieldAddrT Go.Proofs.Tryd.prog 193 (.ptr id off) 1 = some (.ptr id (off + 1)) := by kernel_rfl
attribute [go_sem] fa_193_1
theorem fd_193_1 (cs : List CV) : fieldT Go.Proofs.Tryd.prog 193 (.agg cs) 1 = partT Go.Proofs.Tryd.prog 12 cs 1 := by kernel_rfl
attribute [go_sem] fd_193_1
theorem fa_193_2 (id off : Nat) : fieldAddrT Go.Proofs.Tryd.prog 193 (.ptr id off) 2 = some (.ptr id (off + 2)) := by kernel_rfl
attribute [go_sem] fa_193_2
theorem fd_193_2 (cs : List CV) : fieldT Go.Proofs.Tryd.prog 193 (.agg cs) 2 = partT Go.Proofs.Tryd.prog 142 cs 2 := by kernel_rfl
attribute [go_sem] fd_193_2
theorem fa_193_3 (id off : Nat) : fieldAddrT Go.Proofs.Tryd.prog 193 (.ptr id off) 3 = some (.ptr id (off + 3)) := by kernel_rfl
attribute [go_sem] fa_193_3
theorem fd_193_3 (cs : List CV) : fieldT Go.Proofs.Tryd.prog 193 (.agg cs) 3 = partT Go.Proofs.Tryd.prog 187 cs 3 := by kernel_rfl
attribute [go_sem] fd_193_3
theorem fa_193_4 (id off : Nat) : fieldAddrT Go.Proofs.Tryd.prog 193 (.ptr id off) 4 = some (.ptr id (off + 4)) := by kernel_rfl
attribute [go_sem] fa_193_4
theorem fd_193_4 (cs : List CV) : fieldT Go.Proofs.Tryd.prog 193 (.agg cs) 4 = partT Go.Proofs.Tryd.prog 5 cs 4 := by kernel_rfl
attribute [go_sem] fd_193_4
theorem fa_193_5 (id off : Nat) : fieldAddrT Go.Proofs.Tryd.prog 193 (.ptr id off) 5 = some (.ptr id (off + 5)) := by kernel_rfl
attribute [go_sem] fa_193_5
theorem fd_193_5 (cs : List CV) : fieldT Go.Proofs.Tryd.prog 193 (.agg cs) 5 = partT Go.Proofs.Tryd.prog 5 cs 5 := by kernel_rfl
attribute [go_sem] fd_193_5
theorem fa_193_6 (id off : Nat) : fieldAddrT Go.Proofs.Tryd.prog 193 (.ptr id off) 6 = some (.ptr id (off + 6)) := by kernel_rfl
attribute [go_sem] fa_193_6
theorem fd_193_6 (cs : List CV) : fieldT Go.Proofs.Tryd.prog 193 (.agg cs) 6 = partT Go.Proofs.Tryd.prog 188 cs 6 := by kernel_rfl
attribute [go_sem] fd_193_6
theorem fa_193_7 (id off : Nat) : fieldAddrT Go.Proofs.Tryd.prog 193 (.ptr id off) 7 = some (.ptr id (off + 7)) := by kernel_rfl
attribute [go_sem] fa_193_7
theorem fd_193_7 (cs : List CV) : fieldT Go.Proofs.Tryd.prog 193 (.agg cs) 7 = partT Go.Proofs.Tryd.prog 189 cs 7 := by kernel_rfl
attribute [go_sem] fd_193_7
theorem fa_193_8 (id off : Nat) : fieldAddrT Go.Proofs.Tryd.prog 193 (.ptr id off) 8 = some (.ptr id (off + 8)) := by kernel_rfl
attribute [go_sem] fa_193_8
theorem fd_193_8 (cs : List CV) : fieldT Go.Proofs.Tryd.prog 193 (.agg cs) 8 = partT Go.Proofs.Tryd.prog 190 cs 8 := by kernel_rfl
attribute [go_sem] fd_193_8
theorem fa_193_9 (id off : Nat) : fieldAddrT Go.Proofs.Tryd.prog 193 (.ptr id off) 9 = some (.ptr id (off + 9)) := by kernel_rfl
attribute [go_sem] fa_193_9
theorem fd_193_9 (cs : List CV) : fieldT Go.Proofs.Tryd.prog 193 (.agg cs) 9 = partT Go.Proofs.Tryd.prog 191 cs 9 := by kernel_rfl
attribute [go_sem] fd_193_9
theorem fa_193_10 (id off : Nat) : fieldAddrT Go.Proofs.Tryd.prog 193 (.ptr id off) 10 = some (.ptr id (off + 10)) := by kernel_rfl
attribute [go_sem] fa_193_10
theorem fd_193_10 (cs : List CV) : fieldT Go.Proofs.Tryd.prog 193 (.agg cs) 10 = partT Go.Proofs.Tryd.prog 192 cs 10 := by kernel_rfl
attribute [go_sem] fd_193_10
theorem sz_194 : szOf Go.Proofs.Tryd.prog 194 = some 11 := by kernel_rfl
attribute [go_sem] sz_194
theorem ld_194 (h : H) (id off : Nat) : loadT Go.Proofs.Tryd.prog h 194 id off = @thn _ _ (h.blk id) ⟨fun b => (b.loadN off 11).map .agg⟩ := by kernel_rfl
attribute [go_sem] ld_194
theorem st_194 (h : H) (id off : Nat) (v : CV) : storeT Go.Proofs.Tryd.prog h 194 id off v = @thn _ _ (h.blk id) ⟨fun b => cond (Nat.beq v.cells.length 11 && !b.ro) ((b.storeA off v.cells).map fun b' => h.put id (.cells b')) none⟩ := by kernel_rfl
attribute [go_sem] st_194
theorem part_194 (cs : List CV) (off : Nat) : partT Go.Proofs.Tryd.prog 194 cs off = some (.agg ((cs.drop off).take 11)) := by kernel_rfl
attribute [go_sem] part_194
theorem ze_194 : zeroT Go.Proofs.Tryd.prog 194 = some (.agg [.int .u64 0, .int .u64 0, .int .u32 0, .int .u8 0, .int .u8 0, .int .u8 0, .int .u8 0, .nilf, .nilp, .int .i32 0, .int .i32 0]) := by kernel_rfl
attribute [go_sem] ze_194
theorem bt_194 (parts : List (Nat × CV)) : buildT Go.Proofs.Tryd.prog 194 parts = finB (CV.cells (.agg [.int .u64 0, .int .u64 0, .int .u32 0, .int .u8 0, .int .u8 0, .int .u8 0, .int .u8 0, .nilf, .nilp, .int .i32 0, .int .i32 0])) (nth [(0, 1), (1, 1), (2, 1), (3, 1), (4, 1), (5, 1), (6, 1), (7, 1), (8, 1), (9, 1), (10, 1)]) parts := by kernel_rfl
attribute [go_sem] bt_194
theorem fa_194_0 (id off : Nat) : fieldAddrT Go.Proofs.Tryd.prog 194 (.ptr id off) 0 = some (.ptr id (off)) := by kernel_rfl
attribute [go_sem] fa_194_0
theorem fd_194_0 (cs : List CV) : fieldT Go.Proofs.Tryd.prog 194 (.agg cs) 0 = partT Go.Proofs.Tryd.prog 12 cs 0 := by kernel_rfl
attribute [go_sem] fd_194_0
theorem fa_194_1 (id off : Nat) : fieldAddrT Go.Proofs.Tryd.prog 194 (.ptr id off) 1 = some (.ptr id (off + 1)) := by kernel_rfl
attribute [go_sem] fa_194_1
theorem fd_194_1 (cs : List CV) : fieldT Go.Proofs.Tryd.prog 194 (.agg cs) 1 = partT Go.Proofs.Tryd.prog 12 cs 1 := by kernel_rfl
attribute [go_sem] fd_194_1
theorem fa_194_2 (id off : Nat) : fieldAddrT Go.Proofs.Tryd.prog 194 (.ptr id off) 2 = some (.ptr id (off + 2)) := by kernel_rfl
attribute [go_sem] fa_194_2
theorem fd_194_2 (cs : List CV) : fieldT Go.Proofs.Tryd.prog 194 (.agg cs) 2 = partT Go.Proofs.Tryd.prog 142 cs 2 := by kernel_rfl
attribute [go_sem] fd_194_2
theorem fa_194_3 (id off : Nat) : fieldAddrT Go.Proofs.Tryd.prog 194 (.ptr id off) 3 = some (.ptr id (off + 3)) := by kernel_rfl
attribute [go_sem] fa_194_3
theorem fd_194_3 (cs : List CV) : fieldT Go.Proofs.Tryd.prog 194 (.agg cs) 3 = partT Go.Proofs.Tryd.prog 187 cs 3 := by kernel_rfl
attribute [go_sem] fd_194_3
theorem fa_194_4 (id off : Nat) : fieldAddrT Go.Proofs.Tryd.prog 194 (.ptr id off) 4 = some (.ptr id (off + 4)) := by kernel_rfl
attribute [go_sem] fa_194_4
theorem fd_194_4 (cs : List CV) : fieldT Go.Proofs.Tryd.prog 194 (.agg cs) 4 = partT Go.Proofs.Tryd.prog 5 cs 4 := by kernel_rfl
attribute [go_sem] fd_194_4
theorem fa_194_5 (id off : Nat) : fieldAddrT Go.Proofs.Tryd.prog 194 (.ptr id off) 5 = some (.ptr id (off + 5)) := by kernel_rfl
attribute [go_sem] fa_194_5
theorem fd_194_5 (cs : List CV) : fieldT Go.Proofs.Tryd.prog 194 (.agg cs) 5 = partT Go.Proofs.Tryd.prog 5 cs 5 := by kernel_rfl
attribute [go_sem] fd_194_5
theorem fa_194_6 (id off : Nat) : fieldAddrT Go.Proofs.Tryd.prog 194 (.ptr id off) 6 = some (.ptr id (off + 6)) := by kernel_rfl
attribute [go_sem] fa_194_6
theorem fd_194_6 (cs : List CV) : fieldT Go.Proofs.Tryd.prog 194 (.agg cs) 6 = partT Go.Proofs.Tryd.prog 188 cs 6 := by kernel_rfl
attribute [go_sem] fd_194_6
theorem fa_194_7 (id off : Nat) : fieldAddrT Go.Proofs.Tryd.prog 194 (.ptr id off) 7 = some (.ptr id (off + 7)) := by kernel_rfl
attribute [go_sem] fa_194_7
theorem fd_194_7 (cs : List CV) : fieldT Go.Proofs.Tryd.prog 194 (.agg cs) 7 = partT Go.Proofs.Tryd.prog 189 cs 7 := by kernel_rfl
attribute [go_sem] fd_194_7
theorem fa_194_8 (id off : Nat) : fieldAddrT Go.Proofs.Tryd.prog 194 (.ptr id off) 8 = some (.ptr id (off + 8)) := by kernel_rfl
attribute [go_sem] fa_194_8
theorem fd_194_8 (cs : List CV) : fieldT Go.Proofs.Tryd.prog 194 (.agg cs) 8 = partT Go.Proofs.Tryd.prog 190 cs 8 := by kernel_rfl
attribute [go_sem] fd_194_8
theorem fa_194_9 (id off : Nat) : fieldAddrT Go.Proofs.Tryd.prog 194 (.ptr id off) 9 = some (.ptr id (off + 9)) := by kernel_rfl
attribute [go_sem] fa_194_9
theorem fd_194_9 (cs : List CV) : fieldT Go.Proofs.Tryd.prog 194 (.agg cs) 9 = partT Go.Proofs.Tryd.prog 191 cs 9 := by kernel_rfl
attribute [go_sem] fd_194_9
theorem fa_194_10 (id off : Nat) : fieldAddrT Go.Proofs.Tryd.prog 194 (.ptr id off) 10 = some (.ptr id (off + 10)) := by kernel_rfl
attribute [go_sem] fa_194_10
theorem fd_194_10 (cs : List CV) : fieldT Go.Proofs.Tryd.prog 194 (.agg cs) 10 = partT Go.Proofs.Tryd.prog 192 cs 10 := by kernel_rfl
attribute [go_sem] fd_194_10
theorem sz_196 : szOf Go.Proofs.Tryd.prog 196 = some 1 := by kernel_rfl
attribute [go_sem] sz_196
theorem ld_196 (h : H) (id off : Nat) : loadT Go.Proofs.Tryd.prog h 196 id off = @thn _ _ (h.blk id) ⟨fun b => b.get off⟩ := by kernel_rfl
attribute [go_sem] ld_196
theorem st_196 (h : H) (id off : Nat) (v : CV) : storeT Go.Proofs.Tryd.prog h 196 id off v = @thn _ _ (h.blk id) ⟨fun b => cond (Nat.beq v.cells.length 1 && !b.ro) ((b.storeA off v.cells).map fun b' => h.put id (.cells b')) none⟩ := by kernel_rfl
attribute [go_sem] st_196
theorem part_196 (cs : List CV) (off : Nat) : partT Go.Proofs.Tryd.prog 196 cs off = nth cs off := by kernel_rfl
attribute [go_sem] part_196
theorem ze_196 : zeroT Go.Proofs.Tryd.prog 196 = some (.nilp) := by kernel_rfl
attribute [go_sem] ze_196
theorem cv_3_23 (h : H) (k : IntKind) (x : Int) : convT Go.Proofs.Tryd.prog h 3 23 (.int k x) = some (.val (.int .u64 (IntKind.wrap .u64 x))) := by kernel_rfl
attribute [go_sem] cv_3_23
theorem cv_23_3 (h : H) (k : IntKind) (x : Int) : convT Go.Proofs.Tryd.prog h 23 3 (.int k x) = some (.val (.int .i64 (IntKind.wrap .i64 x))) := by kernel_rfl
attribute [go_sem] cv_23_3
theorem cv_23_5 (h : H) (k : IntKind) (x : Int) : convT Go.Proofs.Tryd.prog h 23 5 (.int k x) = some (.val (.int .u8 (IntKind.wrap .u8 x))) := by kernel_rfl
attribute [go_sem] cv_23_5
theorem cv_5_23 (h : H) (k : IntKind) (x : Int) : convT Go.Proofs.Tryd.prog h 5 23 (.int k x) = some (.val (.int .u64 (IntKind.wrap .u64 x))) := by kernel_rfl
attribute [go_sem] cv_5_23
theorem cv_5_142 (h : H) (k : IntKind) (x : Int) : convT Go.Proofs.Tryd.prog h 5 142 (.int k x) = some (.val (.int .u32 (IntKind.wrap .u32 x))) := by kernel_rfl
attribute [go_sem] cv_5_142
theorem cv_23_142 (h : H) (k : IntKind) (x : Int) : convT Go.Proofs.Tryd.prog h 23 142 (.int k x) = some (.val (.int .u32 (IntKind.wrap .u32 x))) := by kernel_rfl
attribute [go_sem] cv_23_142
theorem cv_142_5 (h : H) (k : IntKind) (x : Int) : convT Go.Proofs.Tryd.prog h 142 5 (.int k x) = some (.val (.int .u8 (IntKind.wrap .u8 x))) := by kernel_rfl
attribute [go_sem] cv_142_5
theorem cv_3_124 (h : H) (k : IntKind) (x : Int) : convT Go.Proofs.Tryd.prog h 3 124 (.int k x) = some (.val (.int .u64 (IntKind.wrap .u64 x))) := by kernel_rfl
attribute [go_sem] cv_3_124
theorem cv_124_142 (h : H) (k : IntKind) (x : Int) : convT Go.Proofs.Tryd.prog h 124 142 (.int k x) = some (.val (.int .u32 (IntKind.wrap .u32 x))) := by kernel_rfl
attribute [go_sem] cv_124_142
theorem cv_124_3 (h : H) (k : IntKind) (x : Int) : convT Go.Proofs.Tryd.prog h 124 3 (.int k x) = some (.val (.int .i64 (IntKind.wrap .i64 x))) := by kernel_rfl
attribute [go_sem] cv_124_3
theorem cv_5_3 (h : H) (k : IntKind) (x : Int) : convT Go.Proofs.Tryd.prog h 5 3 (.int k x) = some (.val (.int .i64 (IntKind.wrap .i64 x))) := by kernel_rfl
attribute [go_sem] cv_5_3
theorem eq_20 (xo yo : Operand) (u : TypeId) (v : CV) : binT Go.Proofs.Tryd.prog .eql 20 xo yo (.ifc u v) .nili = some (.bool false) := by kernel_rfl
attribute [go_sem] eq_20
theorem eq_20_n (n : Nat) (v : Value) : binT Go.Proofs.Tryd.prog .eql 20 (.tmp n) (.const v) .nili .nili = some (.bool true) := by kernel_rfl
attribute [go_sem] eq_20_n
theorem ne_20 (xo yo : Operand) (u : TypeId) (v : CV) : binT Go.Proofs.Tryd.prog .neq 20 xo yo (.ifc u v) .nili = some (.bool true) := by kernel_rfl
attribute [go_sem] ne_20
theorem ne_20_n (n : Nat) (v : Value) : binT Go.Proofs.Tryd.prog .neq 20 (.tmp n) (.const v) .nili .nili = some (.bool false) := by kernel_rfl
attribute [go_sem] ne_20_n
theorem fn_2 : nth Go.Proofs.Tryd.prog.funcs.toList 2 = some Go.Proofs.Tryd.f2 := by kernel_rfl
attribute [go_sem] fn_2
theorem tx_2 : isTextO Go.Proofs.Tryd.prog 2 = some () := by kernel_rfl
attribute [go_sem] tx_2
theorem fn_54 : nth Go.Proofs.Tryd.prog.funcs.toList 54 = some Go.Proofs.Tryd.f54 := by kernel_rfl
attribute [go_sem] fn_54
theorem tx_54 : isTextO Go.Proofs.Tryd.prog 54 = some () := by kernel_rfl
attribute [go_sem] tx_54
theorem fn_77 : nth Go.Proofs.Tryd.prog.funcs.toList 77 = some Go.Proofs.Tryd.f77 := by kernel_rfl
attribute [go_sem] fn_77
theorem tx_77 : isTextO Go.Proofs.Tryd.prog 77 = some () := by kernel_rfl
attribute [go_sem] tx_77
theorem fn_91 : nth Go.Proofs.Tryd.prog.funcs.toList 91 = some Go.Proofs.Tryd.f91 := by kernel_rfl
attribute [go_sem] fn_91
theorem tx_91 : isTextO Go.Proofs.Tryd.prog 91 = some () := by kernel_rfl
attribute [go_sem] tx_91
theorem fn_92 : nth Go.Proofs.Tryd.prog.funcs.toList 92 = some Go.Proofs.Tryd.f92 := by kernel_rfl
attribute [go_sem] fn_92
theorem tx_92 : isTextO Go.Proofs.Tryd.prog 92 = some () := by kernel_rfl
attribute [go_sem] tx_92
theorem fn_93 : nth Go.Proofs.Tryd.prog.funcs.toList 93 = some Go.Proofs.Tryd.f93 := by kernel_rfl
attribute [go_sem] fn_93
theorem tx_93 : isTextO Go.Proofs.Tryd.prog 93 = some () := by kernel_rfl
attribute [go_sem] tx_93
theorem fn_94 : nth Go.Proofs.Tryd.prog.funcs.toList 94 = some Go.Proofs.Tryd.f94 := by kernel_rfl
attribute [go_sem] fn_94
theorem tx_94 : isTextO Go.Proofs.Tryd.prog 94 = some () := by kernel_rfl
attribute [go_sem] tx_94
theorem fn_99 : nth Go.Proofs.Tryd.prog.funcs.toList 99 = some Go.Proofs.Tryd.f99 := by kernel_rfl
attribute [go_sem] fn_99
theorem tx_99 : isTextO Go.Proofs.Tryd.prog 99 = some () := by kernel_rfl
attribute [go_sem] tx_99
theorem fn_100 : nth Go.Proofs.Tryd.prog.funcs.toList 100 = some Go.Proofs.Tryd.f100 := by kernel_rfl
attribute [go_sem] fn_100
theorem tx_100 : isTextO Go.Proofs.Tryd.prog 100 = some () := by kernel_rfl
attribute [go_sem] tx_100
theorem fn_101 : nth Go.Proofs.Tryd.prog.funcs.toList 101 = some Go.Proofs.Tryd.f101 := by kernel_rfl
attribute [go_sem] fn_101
theorem tx_101 : isTextO Go.Proofs.Tryd.prog 101 = some () := by kernel_rfl
attribute [go_sem] tx_101
theorem fn_102 : nth Go.Proofs.Tryd.prog.funcs.toList 102 = some Go.Proofs.Tryd.f102 := by kernel_rfl
attribute [go_sem] fn_102
theorem tx_102 : isTextO Go.Proofs.Tryd.prog 102 = some () := by kernel_rfl
attribute [go_sem] tx_102
theorem fn_106 : nth Go.Proofs.Tryd.prog.funcs.toList 106 = some Go.Proofs.Tryd.f106 := by kernel_rfl
attribute [go_sem] fn_106
theorem tx_106 : isTextO Go.Proofs.Tryd.prog 106 = some () := by kernel_rfl
attribute [go_sem] tx_106
theorem fn_107 : nth Go.Proofs.Tryd.prog.funcs.toList 107 = some Go.Proofs.Tryd.f107 := by kernel_rfl
attribute [go_sem] fn_107
theorem tx_107 : isTextO Go.Proofs.Tryd.prog 107 = some () := by kernel_rfl
attribute [go_sem] tx_107
theorem fn_146 : nth Go.Proofs.Tryd.prog.funcs.toList 146 = some Go.Proofs.Tryd.f146 := by kernel_rfl
attribute [go_sem] fn_146
theorem tx_146 : isTextO Go.Proofs.Tryd.prog 146 = some () := by kernel_rfl
attribute [go_sem] tx_146
end Go.Cl.Sh
