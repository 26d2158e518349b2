/- Facts of the program's tables, each read off by the kernel. -/
import Derived.Attr
import Derived.KernelRfl
import Derived.Test.YteencmkompkkjaaDoorProg
import Derived.Test.YteencmkompkkjaaDoorClG
set_option linter.all false
namespace Go.Cl.Sh
open Go Go.Cl
theorem sz_0 : szOf Go.Proofs.Tryd.prog 0 = some 1 := by kernel_rfl
attribute [go_sem] sz_0
theorem ld_0 (h : H) (id off : Nat) : loadT Go.Proofs.Tryd.prog h 0 id off = @thn _ _ (h.blk id) ⟨fun b => b.get off⟩ := by kernel_rfl
attribute [go_sem] ld_0
theorem st_0 (h : H) (id off : Nat) (v : CV) : storeT Go.Proofs.Tryd.prog h 0 id off v = @thn _ _ (h.blk id) ⟨fun b => cond (Nat.beq v.cells.length 1 && !b.ro) ((b.storeA off v.cells).map fun b' => h.put id (.cells b')) none⟩ := by kernel_rfl
attribute [go_sem] st_0
theorem part_0 (cs : List CV) (off : Nat) : partT Go.Proofs.Tryd.prog 0 cs off = nth cs off := by kernel_rfl
attribute [go_sem] part_0
theorem sz_1 : szOf Go.Proofs.Tryd.prog 1 = some 1 := by kernel_rfl
attribute [go_sem] sz_1
theorem ld_1 (h : H) (id off : Nat) : loadT Go.Proofs.Tryd.prog h 1 id off = @thn _ _ (h.blk id) ⟨fun b => b.get off⟩ := by kernel_rfl
attribute [go_sem] ld_1
theorem st_1 (h : H) (id off : Nat) (v : CV) : storeT Go.Proofs.Tryd.prog h 1 id off v = @thn _ _ (h.blk id) ⟨fun b => cond (Nat.beq v.cells.length 1 && !b.ro) ((b.storeA off v.cells).map fun b' => h.put id (.cells b')) none⟩ := by kernel_rfl
attribute [go_sem] st_1
theorem part_1 (cs : List CV) (off : Nat) : partT Go.Proofs.Tryd.prog 1 cs off = nth cs off := by kernel_rfl
attribute [go_sem] part_1
theorem ze_1 : zeroT Go.Proofs.Tryd.prog 1 = some (.nilf) := by kernel_rfl
attribute [go_sem] ze_1
theorem eq_1 (xo yo : Operand) (f : Fn) (a b : List CV) : binT Go.Proofs.Tryd.prog .eql 1 xo yo (.fn f a b) .nilf = some (.bool false) := by kernel_rfl
attribute [go_sem] eq_1
theorem eq_1_n (xo yo : Operand) : binT Go.Proofs.Tryd.prog .eql 1 xo yo .nilf .nilf = some (.bool true) := by kernel_rfl
attribute [go_sem] eq_1_n
theorem ne_1 (xo yo : Operand) (f : Fn) (a b : List CV) : binT Go.Proofs.Tryd.prog .neq 1 xo yo (.fn f a b) .nilf = some (.bool true) := by kernel_rfl
attribute [go_sem] ne_1
theorem ne_1_n (xo yo : Operand) : binT Go.Proofs.Tryd.prog .neq 1 xo yo .nilf .nilf = some (.bool false) := by kernel_rfl
attribute [go_sem] ne_1_n
theorem sz_2 : szOf Go.Proofs.Tryd.prog 2 = some 1 := by kernel_rfl
attribute [go_sem] sz_2
theorem ld_2 (h : H) (id off : Nat) : loadT Go.Proofs.Tryd.prog h 2 id off = @thn _ _ (h.blk id) ⟨fun b => b.get off⟩ := by kernel_rfl
attribute [go_sem] ld_2
theorem st_2 (h : H) (id off : Nat) (v : CV) : storeT Go.Proofs.Tryd.prog h 2 id off v = @thn _ _ (h.blk id) ⟨fun b => cond (Nat.beq v.cells.length 1 && !b.ro) ((b.storeA off v.cells).map fun b' => h.put id (.cells b')) none⟩ := by kernel_rfl
attribute [go_sem] st_2
theorem part_2 (cs : List CV) (off : Nat) : partT Go.Proofs.Tryd.prog 2 cs off = nth cs off := by kernel_rfl
attribute [go_sem] part_2
theorem ze_2 : zeroT Go.Proofs.Tryd.prog 2 = some (.int .i64 0) := by kernel_rfl
attribute [go_sem] ze_2
theorem sz_3 : szOf Go.Proofs.Tryd.prog 3 = some 1 := by kernel_rfl
attribute [go_sem] sz_3
theorem ld_3 (h : H) (id off : Nat) : loadT Go.Proofs.Tryd.prog h 3 id off = @thn _ _ (h.blk id) ⟨fun b => b.get off⟩ := by kernel_rfl
attribute [go_sem] ld_3
theorem st_3 (h : H) (id off : Nat) (v : CV) : storeT Go.Proofs.Tryd.prog h 3 id off v = @thn _ _ (h.blk id) ⟨fun b => cond (Nat.beq v.cells.length 1 && !b.ro) ((b.storeA off v.cells).map fun b' => h.put id (.cells b')) none⟩ := by kernel_rfl
attribute [go_sem] st_3
theorem part_3 (cs : List CV) (off : Nat) : partT Go.Proofs.Tryd.prog 3 cs off = nth cs off := by kernel_rfl
attribute [go_sem] part_3
theorem ze_3 : zeroT Go.Proofs.Tryd.prog 3 = some (.int .i64 0) := by kernel_rfl
attribute [go_sem] ze_3
theorem sz_4 : szOf Go.Proofs.Tryd.prog 4 = some 1 := by kernel_rfl
attribute [go_sem] sz_4
theorem ld_4 (h : H) (id off : Nat) : loadT Go.Proofs.Tryd.prog h 4 id off = @thn _ _ (h.blk id) ⟨fun b => b.get off⟩ := by kernel_rfl
attribute [go_sem] ld_4
theorem st_4 (h : H) (id off : Nat) (v : CV) : storeT Go.Proofs.Tryd.prog h 4 id off v = @thn _ _ (h.blk id) ⟨fun b => cond (Nat.beq v.cells.length 1 && !b.ro) ((b.storeA off v.cells).map fun b' => h.put id (.cells b')) none⟩ := by kernel_rfl
attribute [go_sem] st_4
theorem part_4 (cs : List CV) (off : Nat) : partT Go.Proofs.Tryd.prog 4 cs off = nth cs off := by kernel_rfl
attribute [go_sem] part_4
theorem ze_4 : zeroT Go.Proofs.Tryd.prog 4 = some (.bool false) := by kernel_rfl
attribute [go_sem] ze_4
theorem eq_4 (xo yo : Operand) (a b : Bool) : binT Go.Proofs.Tryd.prog .eql 4 xo yo (.bool a) (.bool b) = some (.bool (a == b)) := by kernel_rfl
attribute [go_sem] eq_4
theorem ne_4 (xo yo : Operand) (a b : Bool) : binT Go.Proofs.Tryd.prog .neq 4 xo yo (.bool a) (.bool b) = some (.bool (!(a == b))) := by kernel_rfl
attribute [go_sem] ne_4
theorem sz_5 : szOf Go.Proofs.Tryd.prog 5 = some 1 := by kernel_rfl
attribute [go_sem] sz_5
theorem ld_5 (h : H) (id off : Nat) : loadT Go.Proofs.Tryd.prog h 5 id off = @thn _ _ (h.blk id) ⟨fun b => b.get off⟩ := by kernel_rfl
attribute [go_sem] ld_5
theorem st_5 (h : H) (id off : Nat) (v : CV) : storeT Go.Proofs.Tryd.prog h 5 id off v = @thn _ _ (h.blk id) ⟨fun b => cond (Nat.beq v.cells.length 1 && !b.ro) ((b.storeA off v.cells).map fun b' => h.put id (.cells b')) none⟩ := by kernel_rfl
attribute [go_sem] st_5
theorem part_5 (cs : List CV) (off : Nat) : partT Go.Proofs.Tryd.prog 5 cs off = nth cs off := by kernel_rfl
attribute [go_sem] part_5
theorem ze_5 : zeroT Go.Proofs.Tryd.prog 5 = some (.int .u8 0) := by kernel_rfl
attribute [go_sem] ze_5
theorem sz_6 : szOf Go.Proofs.Tryd.prog 6 = some 1 := by kernel_rfl
attribute [go_sem] sz_6
theorem ld_6 (h : H) (id off : Nat) : loadT Go.Proofs.Tryd.prog h 6 id off = @thn _ _ (h.blk id) ⟨fun b => b.get off⟩ := by kernel_rfl
attribute [go_sem] ld_6
theorem st_6 (h : H) (id off : Nat) (v : CV) : storeT Go.Proofs.Tryd.prog h 6 id off v = @thn _ _ (h.blk id) ⟨fun b => cond (Nat.beq v.cells.length 1 && !b.ro) ((b.storeA off v.cells).map fun b' => h.put id (.cells b')) none⟩ := by kernel_rfl
attribute [go_sem] st_6
theorem part_6 (cs : List CV) (off : Nat) : partT Go.Proofs.Tryd.prog 6 cs off = nth cs off := by kernel_rfl
attribute [go_sem] part_6
theorem ze_6 : zeroT Go.Proofs.Tryd.prog 6 = some (.int .u8 0) := by kernel_rfl
attribute [go_sem] ze_6
theorem sz_7 : szOf Go.Proofs.Tryd.prog 7 = some 4 := by kernel_rfl
attribute [go_sem] sz_7
theorem ld_7 (h : H) (id off : Nat) : loadT Go.Proofs.Tryd.prog h 7 id off = @thn _ _ (h.blk id) ⟨fun b => (b.loadN off 4).map .agg⟩ := by kernel_rfl
attribute [go_sem] ld_7
theorem st_7 (h : H) (id off : Nat) (v : CV) : storeT Go.Proofs.Tryd.prog h 7 id off v = @thn _ _ (h.blk id) ⟨fun b => cond (Nat.beq v.cells.length 4 && !b.ro) ((b.storeA off v.cells).map fun b' => h.put id (.cells b')) none⟩ := by kernel_rfl
attribute [go_sem] st_7
theorem part_7 (cs : List CV) (off : Nat) : partT Go.Proofs.Tryd.prog 7 cs off = some (.agg ((cs.drop off).take 4)) := by kernel_rfl
attribute [go_sem] part_7
theorem ze_7 : zeroT Go.Proofs.Tryd.prog 7 = some (.agg [.int .i64 0, .int .i64 0, .bool false, .int .u8 0]) := by kernel_rfl
attribute [go_sem] ze_7
theorem bt_7 (parts : List (Nat × CV)) : buildT Go.Proofs.Tryd.prog 7 parts = finB (CV.cells (.agg [.int .i64 0, .int .i64 0, .bool false, .int .u8 0])) (nth [(0, 1), (1, 1), (2, 1), (3, 1)]) parts := by kernel_rfl
attribute [go_sem] bt_7
theorem fa_7_0 (id off : Nat) : fieldAddrT Go.Proofs.Tryd.prog 7 (.ptr id off) 0 = some (.ptr id (off)) := by kernel_rfl
attribute [go_sem] fa_7_0
theorem fd_7_0 (cs : List CV) : fieldT Go.Proofs.Tryd.prog 7 (.agg cs) 0 = partT Go.Proofs.Tryd.prog 2 cs 0 := by kernel_rfl
attribute [go_sem] fd_7_0
theorem fa_7_1 (id off : Nat) : fieldAddrT Go.Proofs.Tryd.prog 7 (.ptr id off) 1 = some (.ptr id (off + 1)) := by kernel_rfl
attribute [go_sem] fa_7_1
theorem fd_7_1 (cs : List CV) : fieldT Go.Proofs.Tryd.prog 7 (.agg cs) 1 = partT Go.Proofs.Tryd.prog 3 cs 1 := by kernel_rfl
attribute [go_sem] fd_7_1
theorem fa_7_2 (id off : Nat) : fieldAddrT Go.Proofs.Tryd.prog 7 (.ptr id off) 2 = some (.ptr id (off + 2)) := by kernel_rfl
attribute [go_sem] fa_7_2
theorem fd_7_2 (cs : List CV) : fieldT Go.Proofs.Tryd.prog 7 (.agg cs) 2 = partT Go.Proofs.Tryd.prog 4 cs 2 := by kernel_rfl
attribute [go_sem] fd_7_2
theorem fa_7_3 (id off : Nat) : fieldAddrT Go.Proofs.Tryd.prog 7 (.ptr id off) 3 = some (.ptr id (off + 3)) := by kernel_rfl
attribute [go_sem] fa_7_3
theorem fd_7_3 (cs : List CV) : fieldT Go.Proofs.Tryd.prog 7 (.agg cs) 3 = partT Go.Proofs.Tryd.prog 6 cs 3 := by kernel_rfl
attribute [go_sem] fd_7_3
theorem sz_8 : szOf Go.Proofs.Tryd.prog 8 = some 4 := by kernel_rfl
attribute [go_sem] sz_8
theorem ld_8 (h : H) (id off : Nat) : loadT Go.Proofs.Tryd.prog h 8 id off = @thn _ _ (h.blk id) ⟨fun b => (b.loadN off 4).map .agg⟩ := by kernel_rfl
attribute [go_sem] ld_8
theorem st_8 (h : H) (id off : Nat) (v : CV) : storeT Go.Proofs.Tryd.prog h 8 id off v = @thn _ _ (h.blk id) ⟨fun b => cond (Nat.beq v.cells.length 4 && !b.ro) ((b.storeA off v.cells).map fun b' => h.put id (.cells b')) none⟩ := by kernel_rfl
attribute [go_sem] st_8
theorem part_8 (cs : List CV) (off : Nat) : partT Go.Proofs.Tryd.prog 8 cs off = some (.agg ((cs.drop off).take 4)) := by kernel_rfl
attribute [go_sem] part_8
theorem ze_8 : zeroT Go.Proofs.Tryd.prog 8 = some (.agg [.int .i64 0, .int .i64 0, .bool false, .int .u8 0]) := by kernel_rfl
attribute [go_sem] ze_8
theorem bt_8 (parts : List (Nat × CV)) : buildT Go.Proofs.Tryd.prog 8 parts = finB (CV.cells (.agg [.int .i64 0, .int .i64 0, .bool false, .int .u8 0])) (nth [(0, 1), (1, 1), (2, 1), (3, 1)]) parts := by kernel_rfl
attribute [go_sem] bt_8
theorem fa_8_0 (id off : Nat) : fieldAddrT Go.Proofs.Tryd.prog 8 (.ptr id off) 0 = some (.ptr id (off)) := by kernel_rfl
attribute [go_sem] fa_8_0
theorem fd_8_0 (cs : List CV) : fieldT Go.Proofs.Tryd.prog 8 (.agg cs) 0 = partT Go.Proofs.Tryd.prog 2 cs 0 := by kernel_rfl
attribute [go_sem] fd_8_0
theorem fa_8_1 (id off : Nat) : fieldAddrT Go.Proofs.Tryd.prog 8 (.ptr id off) 1 = some (.ptr id (off + 1)) := by kernel_rfl
attribute [go_sem] fa_8_1
theorem fd_8_1 (cs : List CV) : fieldT Go.Proofs.Tryd.prog 8 (.agg cs) 1 = partT Go.Proofs.Tryd.prog 3 cs 1 := by kernel_rfl
attribute [go_sem] fd_8_1
theorem fa_8_2 (id off : Nat) : fieldAddrT Go.Proofs.Tryd.prog 8 (.ptr id off) 2 = some (.ptr id (off + 2)) := by kernel_rfl
attribute [go_sem] fa_8_2
theorem fd_8_2 (cs : List CV) : fieldT Go.Proofs.Tryd.prog 8 (.agg cs) 2 = partT Go.Proofs.Tryd.prog 4 cs 2 := by kernel_rfl
attribute [go_sem] fd_8_2
theorem fa_8_3 (id off : Nat) : fieldAddrT Go.Proofs.Tryd.prog 8 (.ptr id off) 3 = some (.ptr id (off + 3)) := by kernel_rfl
attribute [go_sem] fa_8_3
theorem fd_8_3 (cs : List CV) : fieldT Go.Proofs.Tryd.prog 8 (.agg cs) 3 = partT Go.Proofs.Tryd.prog 6 cs 3 := by kernel_rfl
attribute [go_sem] fd_8_3
theorem sz_9 : szOf Go.Proofs.Tryd.prog 9 = some 1 := by kernel_rfl
attribute [go_sem] sz_9
theorem ld_9 (h : H) (id off : Nat) : loadT Go.Proofs.Tryd.prog h 9 id off = @thn _ _ (h.blk id) ⟨fun b => b.get off⟩ := by kernel_rfl
attribute [go_sem] ld_9
theorem st_9 (h : H) (id off : Nat) (v : CV) : storeT Go.Proofs.Tryd.prog h 9 id off v = @thn _ _ (h.blk id) ⟨fun b => cond (Nat.beq v.cells.length 1 && !b.ro) ((b.storeA off v.cells).map fun b' => h.put id (.cells b')) none⟩ := by kernel_rfl
attribute [go_sem] st_9
theorem part_9 (cs : List CV) (off : Nat) : partT Go.Proofs.Tryd.prog 9 cs off = nth cs off := by kernel_rfl
attribute [go_sem] part_9
theorem ze_9 : zeroT Go.Proofs.Tryd.prog 9 = some (.str []) := by kernel_rfl
attribute [go_sem] ze_9
theorem ix_9 (s : List Nat) (k : Nat) (kd : IntKind) : indexT Go.Proofs.Tryd.prog 9 (.str s) (.int kd (Int.ofNat k)) = (nth s k).map fun b => .int .u8 (Int.ofNat b) := by kernel_rfl
attribute [go_sem] ix_9
theorem len_9 (h : H) (ts : List TypeId) (az : List CV) (s : List Nat) : builtinT Go.Proofs.Tryd.prog h .len (9 :: ts) (.str s :: az) = some (.val (.int .i64 (Int.ofNat s.length))) := by kernel_rfl
attribute [go_sem] len_9
theorem sz_10 : szOf Go.Proofs.Tryd.prog 10 = some 1 := by kernel_rfl
attribute [go_sem] sz_10
theorem ld_10 (h : H) (id off : Nat) : loadT Go.Proofs.Tryd.prog h 10 id off = @thn _ _ (h.blk id) ⟨fun b => b.get off⟩ := by kernel_rfl
attribute [go_sem] ld_10
theorem st_10 (h : H) (id off : Nat) (v : CV) : storeT Go.Proofs.Tryd.prog h 10 id off v = @thn _ _ (h.blk id) ⟨fun b => cond (Nat.beq v.cells.length 1 && !b.ro) ((b.storeA off v.cells).map fun b' => h.put id (.cells b')) none⟩ := by kernel_rfl
attribute [go_sem] st_10
theorem part_10 (cs : List CV) (off : Nat) : partT Go.Proofs.Tryd.prog 10 cs off = nth cs off := by kernel_rfl
attribute [go_sem] part_10
theorem ze_10 : zeroT Go.Proofs.Tryd.prog 10 = some (.str []) := by kernel_rfl
attribute [go_sem] ze_10
theorem ix_10 (s : List Nat) (k : Nat) (kd : IntKind) : indexT Go.Proofs.Tryd.prog 10 (.str s) (.int kd (Int.ofNat k)) = (nth s k).map fun b => .int .u8 (Int.ofNat b) := by kernel_rfl
attribute [go_sem] ix_10
theorem len_10 (h : H) (ts : List TypeId) (az : List CV) (s : List Nat) : builtinT Go.Proofs.Tryd.prog h .len (10 :: ts) (.str s :: az) = some (.val (.int .i64 (Int.ofNat s.length))) := by kernel_rfl
attribute [go_sem] len_10
theorem sz_11 : szOf Go.Proofs.Tryd.prog 11 = some 1 := by kernel_rfl
attribute [go_sem] sz_11
theorem ld_11 (h : H) (id off : Nat) : loadT Go.Proofs.Tryd.prog h 11 id off = @thn _ _ (h.blk id) ⟨fun b => b.get off⟩ := by kernel_rfl
attribute [go_sem] ld_11
theorem st_11 (h : H) (id off : Nat) (v : CV) : storeT Go.Proofs.Tryd.prog h 11 id off v = @thn _ _ (h.blk id) ⟨fun b => cond (Nat.beq v.cells.length 1 && !b.ro) ((b.storeA off v.cells).map fun b' => h.put id (.cells b')) none⟩ := by kernel_rfl
attribute [go_sem] st_11
theorem part_11 (cs : List CV) (off : Nat) : partT Go.Proofs.Tryd.prog 11 cs off = nth cs off := by kernel_rfl
attribute [go_sem] part_11
theorem ze_11 : zeroT Go.Proofs.Tryd.prog 11 = some (.str []) := by kernel_rfl
attribute [go_sem] ze_11
theorem ix_11 (s : List Nat) (k : Nat) (kd : IntKind) : indexT Go.Proofs.Tryd.prog 11 (.str s) (.int kd (Int.ofNat k)) = (nth s k).map fun b => .int .u8 (Int.ofNat b) := by kernel_rfl
attribute [go_sem] ix_11
theorem len_11 (h : H) (ts : List TypeId) (az : List CV) (s : List Nat) : builtinT Go.Proofs.Tryd.prog h .len (11 :: ts) (.str s :: az) = some (.val (.int .i64 (Int.ofNat s.length))) := by kernel_rfl
attribute [go_sem] len_11
theorem sz_12 : szOf Go.Proofs.Tryd.prog 12 = some 1 := by kernel_rfl
attribute [go_sem] sz_12
theorem ld_12 (h : H) (id off : Nat) : loadT Go.Proofs.Tryd.prog h 12 id off = @thn _ _ (h.blk id) ⟨fun b => b.get off⟩ := by kernel_rfl
attribute [go_sem] ld_12
theorem st_12 (h : H) (id off : Nat) (v : CV) : storeT Go.Proofs.Tryd.prog h 12 id off v = @thn _ _ (h.blk id) ⟨fun b => cond (Nat.beq v.cells.length 1 && !b.ro) ((b.storeA off v.cells).map fun b' => h.put id (.cells b')) none⟩ := by kernel_rfl
attribute [go_sem] st_12
theorem part_12 (cs : List CV) (off : Nat) : partT Go.Proofs.Tryd.prog 12 cs off = nth cs off := by kernel_rfl
attribute [go_sem] part_12
theorem ze_12 : zeroT Go.Proofs.Tryd.prog 12 = some (.int .u64 0) := by kernel_rfl
attribute [go_sem] ze_12
theorem sz_13 : szOf Go.Proofs.Tryd.prog 13 = some 2 := by kernel_rfl
attribute [go_sem] sz_13
theorem ld_13 (h : H) (id off : Nat) : loadT Go.Proofs.Tryd.prog h 13 id off = @thn _ _ (h.blk id) ⟨fun b => (b.loadN off 2).map .agg⟩ := by kernel_rfl
attribute [go_sem] ld_13
theorem st_13 (h : H) (id off : Nat) (v : CV) : storeT Go.Proofs.Tryd.prog h 13 id off v = @thn _ _ (h.blk id) ⟨fun b => cond (Nat.beq v.cells.length 2 && !b.ro) ((b.storeA off v.cells).map fun b' => h.put id (.cells b')) none⟩ := by kernel_rfl
attribute [go_sem] st_13
theorem part_13 (cs : List CV) (off : Nat) : partT Go.Proofs.Tryd.prog 13 cs off = some (.agg ((cs.drop off).take 2)) := by kernel_rfl
attribute [go_sem] part_13
theorem ze_13 : zeroT Go.Proofs.Tryd.prog 13 = some (.agg [.str [], .int .u64 0]) := by kernel_rfl
attribute [go_sem] ze_13
theorem bt_13 (parts : List (Nat × CV)) : buildT Go.Proofs.Tryd.prog 13 parts = finB (CV.cells (.agg [.str [], .int .u64 0])) (nth [(0, 1), (1, 1)]) parts := by kernel_rfl
attribute [go_sem] bt_13
theorem fa_13_0 (id off : Nat) : fieldAddrT Go.Proofs.Tryd.prog 13 (.ptr id off) 0 = some (.ptr id (off)) := by kernel_rfl
attribute [go_sem] fa_13_0
theorem fd_13_0 (cs : List CV) : fieldT Go.Proofs.Tryd.prog 13 (.agg cs) 0 = partT Go.Proofs.Tryd.prog 9 cs 0 := by kernel_rfl
attribute [go_sem] fd_13_0
theorem fa_13_1 (id off : Nat) : fieldAddrT Go.Proofs.Tryd.prog 13 (.ptr id off) 1 = some (.ptr id (off + 1)) := by kernel_rfl
attribute [go_sem] fa_13_1
theorem fd_13_1 (cs : List CV) : fieldT Go.Proofs.Tryd.prog 13 (.agg cs) 1 = partT Go.Proofs.Tryd.prog 12 cs 1 := by kernel_rfl
attribute [go_sem] fd_13_1
theorem sz_14 : szOf Go.Proofs.Tryd.prog 14 = some 2 := by kernel_rfl
attribute [go_sem] sz_14
theorem ld_14 (h : H) (id off : Nat) : loadT Go.Proofs.Tryd.prog h 14 id off = @thn _ _ (h.blk id) ⟨fun b => (b.loadN off 2).map .agg⟩ := by kernel_rfl
attribute [go_sem] ld_14
theorem st_14 (h : H) (id off : Nat) (v : CV) : storeT Go.Proofs.Tryd.prog h 14 id off v = @thn _ _ (h.blk id) ⟨fun b => cond (Nat.beq v.cells.length 2 && !b.ro) ((b.storeA off v.cells).map fun b' => h.put id (.cells b')) none⟩ := by kernel_rfl
attribute [go_sem] st_14
theorem part_14 (cs : List CV) (off : Nat) : partT Go.Proofs.Tryd.prog 14 cs off = some (.agg ((cs.drop off).take 2)) := by kernel_rfl
attribute [go_sem] part_14
theorem ze_14 : zeroT Go.Proofs.Tryd.prog 14 = some (.agg [.str [], .int .u64 0]) := by kernel_rfl
attribute [go_sem] ze_14
theorem bt_14 (parts : List (Nat × CV)) : buildT Go.Proofs.Tryd.prog 14 parts = finB (CV.cells (.agg [.str [], .int .u64 0])) (nth [(0, 1), (1, 1)]) parts := by kernel_rfl
attribute [go_sem] bt_14
theorem fa_14_0 (id off : Nat) : fieldAddrT Go.Proofs.Tryd.prog 14 (.ptr id off) 0 = some (.ptr id (off)) := by kernel_rfl
attribute [go_sem] fa_14_0
theorem fd_14_0 (cs : List CV) : fieldT Go.Proofs.Tryd.prog 14 (.agg cs) 0 = partT Go.Proofs.Tryd.prog 9 cs 0 := by kernel_rfl
attribute [go_sem] fd_14_0
theorem fa_14_1 (id off : Nat) : fieldAddrT Go.Proofs.Tryd.prog 14 (.ptr id off) 1 = some (.ptr id (off + 1)) := by kernel_rfl
attribute [go_sem] fa_14_1
theorem fd_14_1 (cs : List CV) : fieldT Go.Proofs.Tryd.prog 14 (.agg cs) 1 = partT Go.Proofs.Tryd.prog 12 cs 1 := by kernel_rfl
attribute [go_sem] fd_14_1
theorem sz_15 : szOf Go.Proofs.Tryd.prog 15 = some 1 := by kernel_rfl
attribute [go_sem] sz_15
theorem ld_15 (h : H) (id off : Nat) : loadT Go.Proofs.Tryd.prog h 15 id off = @thn _ _ (h.blk id) ⟨fun b => b.get off⟩ := by kernel_rfl
attribute [go_sem] ld_15
theorem st_15 (h : H) (id off : Nat) (v : CV) : storeT Go.Proofs.Tryd.prog h 15 id off v = @thn _ _ (h.blk id) ⟨fun b => cond (Nat.beq v.cells.length 1 && !b.ro) ((b.storeA off v.cells).map fun b' => h.put id (.cells b')) none⟩ := by kernel_rfl
attribute [go_sem] st_15
theorem part_15 (cs : List CV) (off : Nat) : partT Go.Proofs.Tryd.prog 15 cs off = nth cs off := by kernel_rfl
attribute [go_sem] part_15
theorem ze_15 : zeroT Go.Proofs.Tryd.prog 15 = some (.nilp) := by kernel_rfl
attribute [go_sem] ze_15
theorem eq_15 (xo yo : Operand) (a b : Nat) : binT Go.Proofs.Tryd.prog .eql 15 xo yo (.ptr a b) .nilp = some (.bool false) := by kernel_rfl
attribute [go_sem] eq_15
theorem eq_15_n (xo yo : Operand) : binT Go.Proofs.Tryd.prog .eql 15 xo yo .nilp .nilp = some (.bool true) := by kernel_rfl
attribute [go_sem] eq_15_n
theorem ne_15 (xo yo : Operand) (a b : Nat) : binT Go.Proofs.Tryd.prog .neq 15 xo yo (.ptr a b) .nilp = some (.bool true) := by kernel_rfl
attribute [go_sem] ne_15
theorem ne_15_n (xo yo : Operand) : binT Go.Proofs.Tryd.prog .neq 15 xo yo .nilp .nilp = some (.bool false) := by kernel_rfl
attribute [go_sem] ne_15_n
theorem sz_16 : szOf Go.Proofs.Tryd.prog 16 = some 1 := by kernel_rfl
attribute [go_sem] sz_16
theorem ld_16 (h : H) (id off : Nat) : loadT Go.Proofs.Tryd.prog h 16 id off = @thn _ _ (h.blk id) ⟨fun b => b.get off⟩ := by kernel_rfl
attribute [go_sem] ld_16
theorem st_16 (h : H) (id off : Nat) (v : CV) : storeT Go.Proofs.Tryd.prog h 16 id off v = @thn _ _ (h.blk id) ⟨fun b => cond (Nat.beq v.cells.length 1 && !b.ro) ((b.storeA off v.cells).map fun b' => h.put id (.cells b')) none⟩ := by kernel_rfl
attribute [go_sem] st_16
theorem part_16 (cs : List CV) (off : Nat) : partT Go.Proofs.Tryd.prog 16 cs off = nth cs off := by kernel_rfl
attribute [go_sem] part_16
theorem ze_16 : zeroT Go.Proofs.Tryd.prog 16 = some (.nilp) := by kernel_rfl
attribute [go_sem] ze_16
theorem eq_16 (xo yo : Operand) (a b : Nat) : binT Go.Proofs.Tryd.prog .eql 16 xo yo (.ptr a b) .nilp = some (.bool false) := by kernel_rfl
attribute [go_sem] eq_16
theorem eq_16_n (xo yo : Operand) : binT Go.Proofs.Tryd.prog .eql 16 xo yo .nilp .nilp = some (.bool true) := by kernel_rfl
attribute [go_sem] eq_16_n
theorem ne_16 (xo yo : Operand) (a b : Nat) : binT Go.Proofs.Tryd.prog .neq 16 xo yo (.ptr a b) .nilp = some (.bool true) := by kernel_rfl
attribute [go_sem] ne_16
theorem ne_16_n (xo yo : Operand) : binT Go.Proofs.Tryd.prog .neq 16 xo yo .nilp .nilp = some (.bool false) := by kernel_rfl
attribute [go_sem] ne_16_n
theorem sz_17 : szOf Go.Proofs.Tryd.prog 17 = some 1 := by kernel_rfl
attribute [go_sem] sz_17
theorem ld_17 (h : H) (id off : Nat) : loadT Go.Proofs.Tryd.prog h 17 id off = @thn _ _ (h.blk id) ⟨fun b => b.get off⟩ := by kernel_rfl
attribute [go_sem] ld_17
theorem st_17 (h : H) (id off : Nat) (v : CV) : storeT Go.Proofs.Tryd.prog h 17 id off v = @thn _ _ (h.blk id) ⟨fun b => cond (Nat.beq v.cells.length 1 && !b.ro) ((b.storeA off v.cells).map fun b' => h.put id (.cells b')) none⟩ := by kernel_rfl
attribute [go_sem] st_17
theorem part_17 (cs : List CV) (off : Nat) : partT Go.Proofs.Tryd.prog 17 cs off = nth cs off := by kernel_rfl
attribute [go_sem] part_17
theorem ze_17 : zeroT Go.Proofs.Tryd.prog 17 = some (.nilp) := by kernel_rfl
attribute [go_sem] ze_17
theorem eq_17 (xo yo : Operand) (a b : Nat) : binT Go.Proofs.Tryd.prog .eql 17 xo yo (.ptr a b) .nilp = some (.bool false) := by kernel_rfl
attribute [go_sem] eq_17
theorem eq_17_n (xo yo : Operand) : binT Go.Proofs.Tryd.prog .eql 17 xo yo .nilp .nilp = some (.bool true) := by kernel_rfl
attribute [go_sem] eq_17_n
theorem ne_17 (xo yo : Operand) (a b : Nat) : binT Go.Proofs.Tryd.prog .neq 17 xo yo (.ptr a b) .nilp = some (.bool true) := by kernel_rfl
attribute [go_sem] ne_17
theorem ne_17_n (xo yo : Operand) : binT Go.Proofs.Tryd.prog .neq 17 xo yo .nilp .nilp = some (.bool false) := by kernel_rfl
attribute [go_sem] ne_17_n
theorem sz_18 : szOf Go.Proofs.Tryd.prog 18 = some 1 := by kernel_rfl
attribute [go_sem] sz_18
theorem ld_18 (h : H) (id off : Nat) : loadT Go.Proofs.Tryd.prog h 18 id off = @thn _ _ (h.blk id) ⟨fun b => (b.loadN off 1).map .agg⟩ := by kernel_rfl
attribute [go_sem] ld_18
theorem st_18 (h : H) (id off : Nat) (v : CV) : storeT Go.Proofs.Tryd.prog h 18 id off v = @thn _ _ (h.blk id) ⟨fun b => cond (Nat.beq v.cells.length 1 && !b.ro) ((b.storeA off v.cells).map fun b' => h.put id (.cells b')) none⟩ := by kernel_rfl
attribute [go_sem] st_18
theorem part_18 (cs : List CV) (off : Nat) : partT Go.Proofs.Tryd.prog 18 cs off = some (.agg ((cs.drop off).take 1)) := by kernel_rfl
attribute [go_sem] part_18
theorem ze_18 : zeroT Go.Proofs.Tryd.prog 18 = some (.agg [.nilp]) := by kernel_rfl
attribute [go_sem] ze_18
theorem bt_18 (parts : List (Nat × CV)) : buildT Go.Proofs.Tryd.prog 18 parts = finB (CV.cells (.agg [.nilp])) (nth [(0, 1)]) parts := by kernel_rfl
attribute [go_sem] bt_18
theorem fa_18_0 (id off : Nat) : fieldAddrT Go.Proofs.Tryd.prog 18 (.ptr id off) 0 = some (.ptr id (off)) := by kernel_rfl
attribute [go_sem] fa_18_0
theorem fd_18_0 (cs : List CV) : fieldT Go.Proofs.Tryd.prog 18 (.agg cs) 0 = partT Go.Proofs.Tryd.prog 17 cs 0 := by kernel_rfl
attribute [go_sem] fd_18_0
theorem sz_19 : szOf Go.Proofs.Tryd.prog 19 = some 1 := by kernel_rfl
attribute [go_sem] sz_19
theorem ld_19 (h : H) (id off : Nat) : loadT Go.Proofs.Tryd.prog h 19 id off = @thn _ _ (h.blk id) ⟨fun b => (b.loadN off 1).map .agg⟩ := by kernel_rfl
attribute [go_sem] ld_19
theorem st_19 (h : H) (id off : Nat) (v : CV) : storeT Go.Proofs.Tryd.prog h 19 id off v = @thn _ _ (h.blk id) ⟨fun b => cond (Nat.beq v.cells.length 1 && !b.ro) ((b.storeA off v.cells).map fun b' => h.put id (.cells b')) none⟩ := by kernel_rfl
attribute [go_sem] st_19
theorem part_19 (cs : List CV) (off : Nat) : partT Go.Proofs.Tryd.prog 19 cs off = some (.agg ((cs.drop off).take 1)) := by kernel_rfl
attribute [go_sem] part_19
theorem ze_19 : zeroT Go.Proofs.Tryd.prog 19 = some (.agg [.nilp]) := by kernel_rfl
attribute [go_sem] ze_19
theorem bt_19 (parts : List (Nat × CV)) : buildT Go.Proofs.Tryd.prog 19 parts = finB (CV.cells (.agg [.nilp])) (nth [(0, 1)]) parts := by kernel_rfl
attribute [go_sem] bt_19
theorem fa_19_0 (id off : Nat) : fieldAddrT Go.Proofs.Tryd.prog 19 (.ptr id off) 0 = some (.ptr id (off)) := by kernel_rfl
attribute [go_sem] fa_19_0
theorem fd_19_0 (cs : List CV) : fieldT Go.Proofs.Tryd.prog 19 (.agg cs) 0 = partT Go.Proofs.Tryd.prog 17 cs 0 := by kernel_rfl
attribute [go_sem] fd_19_0
theorem sz_20 : szOf Go.Proofs.Tryd.prog 20 = some 1 := by kernel_rfl
attribute [go_sem] sz_20
theorem ld_20 (h : H) (id off : Nat) : loadT Go.Proofs.Tryd.prog h 20 id off = @thn _ _ (h.blk id) ⟨fun b => b.get off⟩ := by kernel_rfl
attribute [go_sem] ld_20
theorem st_20 (h : H) (id off : Nat) (v : CV) : storeT Go.Proofs.Tryd.prog h 20 id off v = @thn _ _ (h.blk id) ⟨fun b => cond (Nat.beq v.cells.length 1 && !b.ro) ((b.storeA off v.cells).map fun b' => h.put id (.cells b')) none⟩ := by kernel_rfl
attribute [go_sem] st_20
theorem part_20 (cs : List CV) (off : Nat) : partT Go.Proofs.Tryd.prog 20 cs off = nth cs off := by kernel_rfl
attribute [go_sem] part_20
theorem ze_20 : zeroT Go.Proofs.Tryd.prog 20 = some (.nili) := by kernel_rfl
attribute [go_sem] ze_20
theorem sz_21 : szOf Go.Proofs.Tryd.prog 21 = some 1 := by kernel_rfl
attribute [go_sem] sz_21
theorem ld_21 (h : H) (id off : Nat) : loadT Go.Proofs.Tryd.prog h 21 id off = @thn _ _ (h.blk id) ⟨fun b => b.get off⟩ := by kernel_rfl
attribute [go_sem] ld_21
theorem st_21 (h : H) (id off : Nat) (v : CV) : storeT Go.Proofs.Tryd.prog h 21 id off v = @thn _ _ (h.blk id) ⟨fun b => cond (Nat.beq v.cells.length 1 && !b.ro) ((b.storeA off v.cells).map fun b' => h.put id (.cells b')) none⟩ := by kernel_rfl
attribute [go_sem] st_21
theorem part_21 (cs : List CV) (off : Nat) : partT Go.Proofs.Tryd.prog 21 cs off = nth cs off := by kernel_rfl
attribute [go_sem] part_21
theorem ze_21 : zeroT Go.Proofs.Tryd.prog 21 = some (.int .i32 0) := by kernel_rfl
attribute [go_sem] ze_21
theorem sz_22 : szOf Go.Proofs.Tryd.prog 22 = some 1 := by kernel_rfl
attribute [go_sem] sz_22
theorem ld_22 (h : H) (id off : Nat) : loadT Go.Proofs.Tryd.prog h 22 id off = @thn _ _ (h.blk id) ⟨fun b => b.get off⟩ := by kernel_rfl
attribute [go_sem] ld_22
theorem st_22 (h : H) (id off : Nat) (v : CV) : storeT Go.Proofs.Tryd.prog h 22 id off v = @thn _ _ (h.blk id) ⟨fun b => cond (Nat.beq v.cells.length 1 && !b.ro) ((b.storeA off v.cells).map fun b' => h.put id (.cells b')) none⟩ := by kernel_rfl
attribute [go_sem] st_22
theorem part_22 (cs : List CV) (off : Nat) : partT Go.Proofs.Tryd.prog 22 cs off = nth cs off := by kernel_rfl
attribute [go_sem] part_22
theorem ze_22 : zeroT Go.Proofs.Tryd.prog 22 = some (.nils) := by kernel_rfl
attribute [go_sem] ze_22
theorem ia_22 (id off len k : Nat) (c : Cap) (kd : IntKind) : indexAddrT Go.Proofs.Tryd.prog 22 (.sl id off len c) (.int kd (Int.ofNat k)) = cond (Nat.blt k len) (some (.ptr id (off + k * 4))) none := by kernel_rfl
attribute [go_sem] ia_22
theorem len_22 (h : H) (id off len : Nat) (c : Cap) (ts : List TypeId) (az : List CV) : builtinT Go.Proofs.Tryd.prog h .len (22 :: ts) (.sl id off len c :: az) = some (.val (.int .i64 (Int.ofNat len))) := by kernel_rfl
attribute [go_sem] len_22
theorem len_22_n (h : H) (ts : List TypeId) (az : List CV) : builtinT Go.Proofs.Tryd.prog h .len (22 :: ts) (.nils :: az) = some (.val (.int .i64 0)) := by kernel_rfl
attribute [go_sem] len_22_n
theorem app_22 (h : H) (s : CV) (id off len : Nat) (c : Cap) (ts : List TypeId) (az : List CV) : builtinT Go.Proofs.Tryd.prog h .append (22 :: 22 :: ts) (s :: .sl id off len c :: az) = uv (appendT Go.Proofs.Tryd.prog h 22 s (.sl id off len c)) := by kernel_rfl
attribute [go_sem] app_22
theorem app_22_n (h : H) (s : CV) (ts : List TypeId) (az : List CV) : builtinT Go.Proofs.Tryd.prog h .append (22 :: 22 :: ts) (s :: .nils :: az) = uv (appendT Go.Proofs.Tryd.prog h 22 s .nils) := by kernel_rfl
attribute [go_sem] app_22_n
theorem ap_22 (h : H) (s : CV) (id off len : Nat) (c : Cap) : appendT Go.Proofs.Tryd.prog h 22 s (.sl id off len c) = appS h 4 48 4 s len (firstC h 4 len (.sl id off len c)) := by kernel_rfl
attribute [go_sem] ap_22
theorem ap_22_n (h : H) (s : CV) : appendT Go.Proofs.Tryd.prog h 22 s .nils = appS h 4 48 4 s 0 (some []) := by kernel_rfl
attribute [go_sem] ap_22_n
theorem ap_22_z (h : H) (s : CV) (a b c d : Nat) : appendT Go.Proofs.Tryd.prog h 22 s (.sl0 a b c d) = appS h 4 48 4 s 0 (some []) := by kernel_rfl
attribute [go_sem] ap_22_z
theorem bs_22 (h : H) (n : Nat) (parts : List (Nat × CV)) : buildSliceT Go.Proofs.Tryd.prog h 22 n parts = bslS h 4 (CV.cells (.agg [.int .i64 0, .int .i64 0, .int .i64 0, .nils])) n parts := by kernel_rfl
attribute [go_sem] bs_22
theorem ms_22 (h : H) (l c : Nat) (k k' : IntKind) : makeSliceT Go.Proofs.Tryd.prog h 22 (.int k (Int.ofNat l)) (.int k' (Int.ofNat c)) = mkS h 4 48 (zeroT Go.Proofs.Tryd.prog 30) l c := by kernel_rfl
attribute [go_sem] ms_22
theorem eq_22 (xo yo : Operand) (a b c : Nat) (d : Cap) : binT Go.Proofs.Tryd.prog .eql 22 xo yo (.sl a b c d) .nils = some (.bool false) := by kernel_rfl
attribute [go_sem] eq_22
theorem eq_22_n (xo yo : Operand) : binT Go.Proofs.Tryd.prog .eql 22 xo yo .nils .nils = some (.bool true) := by kernel_rfl
attribute [go_sem] eq_22_n
theorem eq_22_z (xo yo : Operand) (a b c d : Nat) : binT Go.Proofs.Tryd.prog .eql 22 xo yo (.sl0 a b c d) .nils = some (.bool false) := by kernel_rfl
attribute [go_sem] eq_22_z
theorem ne_22 (xo yo : Operand) (a b c : Nat) (d : Cap) : binT Go.Proofs.Tryd.prog .neq 22 xo yo (.sl a b c d) .nils = some (.bool true) := by kernel_rfl
attribute [go_sem] ne_22
theorem ne_22_n (xo yo : Operand) : binT Go.Proofs.Tryd.prog .neq 22 xo yo .nils .nils = some (.bool false) := by kernel_rfl
attribute [go_sem] ne_22_n
theorem ne_22_z (xo yo : Operand) (a b c d : Nat) : binT Go.Proofs.Tryd.prog .neq 22 xo yo (.sl0 a b c d) .nils = some (.bool true) := by kernel_rfl
attribute [go_sem] ne_22_z
theorem len_22_z (h : H) (a b c d : Nat) (ts : List TypeId) (az : List CV) : builtinT Go.Proofs.Tryd.prog h .len (22 :: ts) (.sl0 a b c d :: az) = some (.val (.int .i64 0)) := by kernel_rfl
attribute [go_sem] len_22_z
theorem app_22_z (h : H) (s : CV) (a b c d : Nat) (ts : List TypeId) (az : List CV) : builtinT Go.Proofs.Tryd.prog h .append (22 :: 22 :: ts) (s :: .sl0 a b c d :: az) = uv (appendT Go.Proofs.Tryd.prog h 22 s (.sl0 a b c d)) := by kernel_rfl
attribute [go_sem] app_22_z
theorem sz_23 : szOf Go.Proofs.Tryd.prog 23 = some 1 := by kernel_rfl
attribute [go_sem] sz_23
theorem ld_23 (h : H) (id off : Nat) : loadT Go.Proofs.Tryd.prog h 23 id off = @thn _ _ (h.blk id) ⟨fun b => b.get off⟩ := by kernel_rfl
attribute [go_sem] ld_23
theorem st_23 (h : H) (id off : Nat) (v : CV) : storeT Go.Proofs.Tryd.prog h 23 id off v = @thn _ _ (h.blk id) ⟨fun b => cond (Nat.beq v.cells.length 1 && !b.ro) ((b.storeA off v.cells).map fun b' => h.put id (.cells b')) none⟩ := by kernel_rfl
attribute [go_sem] st_23
theorem part_23 (cs : List CV) (off : Nat) : partT Go.Proofs.Tryd.prog 23 cs off = nth cs off := by kernel_rfl
attribute [go_sem] part_23
theorem ze_23 : zeroT Go.Proofs.Tryd.prog 23 = some (.nilf) := by kernel_rfl
attribute [go_sem] ze_23
theorem eq_23 (xo yo : Operand) (f : Fn) (a b : List CV) : binT Go.Proofs.Tryd.prog .eql 23 xo yo (.fn f a b) .nilf = some (.bool false) := by kernel_rfl
attribute [go_sem] eq_23
theorem eq_23_n (xo yo : Operand) : binT Go.Proofs.Tryd.prog .eql 23 xo yo .nilf .nilf = some (.bool true) := by kernel_rfl
attribute [go_sem] eq_23_n
theorem ne_23 (xo yo : Operand) (f : Fn) (a b : List CV) : binT Go.Proofs.Tryd.prog .neq 23 xo yo (.fn f a b) .nilf = some (.bool true) := by kernel_rfl
attribute [go_sem] ne_23
theorem ne_23_n (xo yo : Operand) : binT Go.Proofs.Tryd.prog .neq 23 xo yo .nilf .nilf = some (.bool false) := by kernel_rfl
attribute [go_sem] ne_23_n
theorem sz_24 : szOf Go.Proofs.Tryd.prog 24 = some 1 := by kernel_rfl
attribute [go_sem] sz_24
theorem ld_24 (h : H) (id off : Nat) : loadT Go.Proofs.Tryd.prog h 24 id off = @thn _ _ (h.blk id) ⟨fun b => b.get off⟩ := by kernel_rfl
attribute [go_sem] ld_24
theorem st_24 (h : H) (id off : Nat) (v : CV) : storeT Go.Proofs.Tryd.prog h 24 id off v = @thn _ _ (h.blk id) ⟨fun b => cond (Nat.beq v.cells.length 1 && !b.ro) ((b.storeA off v.cells).map fun b' => h.put id (.cells b')) none⟩ := by kernel_rfl
attribute [go_sem] st_24
theorem part_24 (cs : List CV) (off : Nat) : partT Go.Proofs.Tryd.prog 24 cs off = nth cs off := by kernel_rfl
attribute [go_sem] part_24
theorem ze_24 : zeroT Go.Proofs.Tryd.prog 24 = some (.nilf) := by kernel_rfl
attribute [go_sem] ze_24
theorem eq_24 (xo yo : Operand) (f : Fn) (a b : List CV) : binT Go.Proofs.Tryd.prog .eql 24 xo yo (.fn f a b) .nilf = some (.bool false) := by kernel_rfl
attribute [go_sem] eq_24
theorem eq_24_n (xo yo : Operand) : binT Go.Proofs.Tryd.prog .eql 24 xo yo .nilf .nilf = some (.bool true) := by kernel_rfl
attribute [go_sem] eq_24_n
theorem ne_24 (xo yo : Operand) (f : Fn) (a b : List CV) : binT Go.Proofs.Tryd.prog .neq 24 xo yo (.fn f a b) .nilf = some (.bool true) := by kernel_rfl
attribute [go_sem] ne_24
theorem ne_24_n (xo yo : Operand) : binT Go.Proofs.Tryd.prog .neq 24 xo yo .nilf .nilf = some (.bool false) := by kernel_rfl
attribute [go_sem] ne_24_n
theorem sz_25 : szOf Go.Proofs.Tryd.prog 25 = some 1 := by kernel_rfl
attribute [go_sem] sz_25
theorem ld_25 (h : H) (id off : Nat) : loadT Go.Proofs.Tryd.prog h 25 id off = @thn _ _ (h.blk id) ⟨fun b => b.get off⟩ := by kernel_rfl
attribute [go_sem] ld_25
theorem st_25 (h : H) (id off : Nat) (v : CV) : storeT Go.Proofs.Tryd.prog h 25 id off v = @thn _ _ (h.blk id) ⟨fun b => cond (Nat.beq v.cells.length 1 && !b.ro) ((b.storeA off v.cells).map fun b' => h.put id (.cells b')) none⟩ := by kernel_rfl
attribute [go_sem] st_25
theorem part_25 (cs : List CV) (off : Nat) : partT Go.Proofs.Tryd.prog 25 cs off = nth cs off := by kernel_rfl
attribute [go_sem] part_25
theorem ze_25 : zeroT Go.Proofs.Tryd.prog 25 = some (.nilp) := by kernel_rfl
attribute [go_sem] ze_25
theorem eq_25 (xo yo : Operand) (a b : Nat) : binT Go.Proofs.Tryd.prog .eql 25 xo yo (.ptr a b) .nilp = some (.bool false) := by kernel_rfl
attribute [go_sem] eq_25
theorem eq_25_n (xo yo : Operand) : binT Go.Proofs.Tryd.prog .eql 25 xo yo .nilp .nilp = some (.bool true) := by kernel_rfl
attribute [go_sem] eq_25_n
theorem ne_25 (xo yo : Operand) (a b : Nat) : binT Go.Proofs.Tryd.prog .neq 25 xo yo (.ptr a b) .nilp = some (.bool true) := by kernel_rfl
attribute [go_sem] ne_25
theorem ne_25_n (xo yo : Operand) : binT Go.Proofs.Tryd.prog .neq 25 xo yo .nilp .nilp = some (.bool false) := by kernel_rfl
attribute [go_sem] ne_25_n
theorem sz_26 : szOf Go.Proofs.Tryd.prog 26 = some 1 := by kernel_rfl
attribute [go_sem] sz_26
theorem ld_26 (h : H) (id off : Nat) : loadT Go.Proofs.Tryd.prog h 26 id off = @thn _ _ (h.blk id) ⟨fun b => b.get off⟩ := by kernel_rfl
attribute [go_sem] ld_26
theorem st_26 (h : H) (id off : Nat) (v : CV) : storeT Go.Proofs.Tryd.prog h 26 id off v = @thn _ _ (h.blk id) ⟨fun b => cond (Nat.beq v.cells.length 1 && !b.ro) ((b.storeA off v.cells).map fun b' => h.put id (.cells b')) none⟩ := by kernel_rfl
attribute [go_sem] st_26
theorem part_26 (cs : List CV) (off : Nat) : partT Go.Proofs.Tryd.prog 26 cs off = nth cs off := by kernel_rfl
attribute [go_sem] part_26
theorem ze_26 : zeroT Go.Proofs.Tryd.prog 26 = some (.nilf) := by kernel_rfl
attribute [go_sem] ze_26
theorem eq_26 (xo yo : Operand) (f : Fn) (a b : List CV) : binT Go.Proofs.Tryd.prog .eql 26 xo yo (.fn f a b) .nilf = some (.bool false) := by kernel_rfl
attribute [go_sem] eq_26
theorem eq_26_n (xo yo : Operand) : binT Go.Proofs.Tryd.prog .eql 26 xo yo .nilf .nilf = some (.bool true) := by kernel_rfl
attribute [go_sem] eq_26_n
theorem ne_26 (xo yo : Operand) (f : Fn) (a b : List CV) : binT Go.Proofs.Tryd.prog .neq 26 xo yo (.fn f a b) .nilf = some (.bool true) := by kernel_rfl
attribute [go_sem] ne_26
theorem ne_26_n (xo yo : Operand) : binT Go.Proofs.Tryd.prog .neq 26 xo yo .nilf .nilf = some (.bool false) := by kernel_rfl
attribute [go_sem] ne_26_n
theorem sz_27 : szOf Go.Proofs.Tryd.prog 27 = some 1 := by kernel_rfl
attribute [go_sem] sz_27
theorem ld_27 (h : H) (id off : Nat) : loadT Go.Proofs.Tryd.prog h 27 id off = @thn _ _ (h.blk id) ⟨fun b => b.get off⟩ := by kernel_rfl
attribute [go_sem] ld_27
theorem st_27 (h : H) (id off : Nat) (v : CV) : storeT Go.Proofs.Tryd.prog h 27 id off v = @thn _ _ (h.blk id) ⟨fun b => cond (Nat.beq v.cells.length 1 && !b.ro) ((b.storeA off v.cells).map fun b' => h.put id (.cells b')) none⟩ := by kernel_rfl
attribute [go_sem] st_27
theorem part_27 (cs : List CV) (off : Nat) : partT Go.Proofs.Tryd.prog 27 cs off = nth cs off := by kernel_rfl
attribute [go_sem] part_27
theorem ze_27 : zeroT Go.Proofs.Tryd.prog 27 = some (.nilf) := by kernel_rfl
attribute [go_sem] ze_27
theorem eq_27 (xo yo : Operand) (f : Fn) (a b : List CV) : binT Go.Proofs.Tryd.prog .eql 27 xo yo (.fn f a b) .nilf = some (.bool false) := by kernel_rfl
attribute [go_sem] eq_27
theorem eq_27_n (xo yo : Operand) : binT Go.Proofs.Tryd.prog .eql 27 xo yo .nilf .nilf = some (.bool true) := by kernel_rfl
attribute [go_sem] eq_27_n
theorem ne_27 (xo yo : Operand) (f : Fn) (a b : List CV) : binT Go.Proofs.Tryd.prog .neq 27 xo yo (.fn f a b) .nilf = some (.bool true) := by kernel_rfl
attribute [go_sem] ne_27
theorem ne_27_n (xo yo : Operand) : binT Go.Proofs.Tryd.prog .neq 27 xo yo .nilf .nilf = some (.bool false) := by kernel_rfl
attribute [go_sem] ne_27_n
theorem sz_28 : szOf Go.Proofs.Tryd.prog 28 = some 1 := by kernel_rfl
attribute [go_sem] sz_28
theorem ld_28 (h : H) (id off : Nat) : loadT Go.Proofs.Tryd.prog h 28 id off = @thn _ _ (h.blk id) ⟨fun b => b.get off⟩ := by kernel_rfl
attribute [go_sem] ld_28
theorem st_28 (h : H) (id off : Nat) (v : CV) : storeT Go.Proofs.Tryd.prog h 28 id off v = @thn _ _ (h.blk id) ⟨fun b => cond (Nat.beq v.cells.length 1 && !b.ro) ((b.storeA off v.cells).map fun b' => h.put id (.cells b')) none⟩ := by kernel_rfl
attribute [go_sem] st_28
theorem part_28 (cs : List CV) (off : Nat) : partT Go.Proofs.Tryd.prog 28 cs off = nth cs off := by kernel_rfl
attribute [go_sem] part_28
theorem ze_28 : zeroT Go.Proofs.Tryd.prog 28 = some (.nils) := by kernel_rfl
attribute [go_sem] ze_28
theorem ia_28 (id off len k : Nat) (c : Cap) (kd : IntKind) : indexAddrT Go.Proofs.Tryd.prog 28 (.sl id off len c) (.int kd (Int.ofNat k)) = cond (Nat.blt k len) (some (.ptr id (off + k * 1))) none := by kernel_rfl
attribute [go_sem] ia_28
theorem len_28 (h : H) (id off len : Nat) (c : Cap) (ts : List TypeId) (az : List CV) : builtinT Go.Proofs.Tryd.prog h .len (28 :: ts) (.sl id off len c :: az) = some (.val (.int .i64 (Int.ofNat len))) := by kernel_rfl
attribute [go_sem] len_28
theorem len_28_n (h : H) (ts : List TypeId) (az : List CV) : builtinT Go.Proofs.Tryd.prog h .len (28 :: ts) (.nils :: az) = some (.val (.int .i64 0)) := by kernel_rfl
attribute [go_sem] len_28_n
theorem app_28 (h : H) (s : CV) (id off len : Nat) (c : Cap) (ts : List TypeId) (az : List CV) : builtinT Go.Proofs.Tryd.prog h .append (28 :: 28 :: ts) (s :: .sl id off len c :: az) = uv (appendT Go.Proofs.Tryd.prog h 28 s (.sl id off len c)) := by kernel_rfl
attribute [go_sem] app_28
theorem app_28_n (h : H) (s : CV) (ts : List TypeId) (az : List CV) : builtinT Go.Proofs.Tryd.prog h .append (28 :: 28 :: ts) (s :: .nils :: az) = uv (appendT Go.Proofs.Tryd.prog h 28 s .nils) := by kernel_rfl
attribute [go_sem] app_28_n
theorem ap_28 (h : H) (s : CV) (id off len : Nat) (c : Cap) : appendT Go.Proofs.Tryd.prog h 28 s (.sl id off len c) = appS h 1 1 1 s len (firstC h 1 len (.sl id off len c)) := by kernel_rfl
attribute [go_sem] ap_28
theorem ap_28_n (h : H) (s : CV) : appendT Go.Proofs.Tryd.prog h 28 s .nils = appS h 1 1 1 s 0 (some []) := by kernel_rfl
attribute [go_sem] ap_28_n
theorem ap_28_z (h : H) (s : CV) (a b c d : Nat) : appendT Go.Proofs.Tryd.prog h 28 s (.sl0 a b c d) = appS h 1 1 1 s 0 (some []) := by kernel_rfl
attribute [go_sem] ap_28_z
theorem bs_28 (h : H) (n : Nat) (parts : List (Nat × CV)) : buildSliceT Go.Proofs.Tryd.prog h 28 n parts = bslS h 1 (CV.cells (.int .u8 0)) n parts := by kernel_rfl
attribute [go_sem] bs_28
theorem ms_28 (h : H) (l c : Nat) (k k' : IntKind) : makeSliceT Go.Proofs.Tryd.prog h 28 (.int k (Int.ofNat l)) (.int k' (Int.ofNat c)) = mkS h 1 1 (zeroT Go.Proofs.Tryd.prog 5) l c := by kernel_rfl
attribute [go_sem] ms_28
theorem eq_28 (xo yo : Operand) (a b c : Nat) (d : Cap) : binT Go.Proofs.Tryd.prog .eql 28 xo yo (.sl a b c d) .nils = some (.bool false) := by kernel_rfl
attribute [go_sem] eq_28
theorem eq_28_n (xo yo : Operand) : binT Go.Proofs.Tryd.prog .eql 28 xo yo .nils .nils = some (.bool true) := by kernel_rfl
attribute [go_sem] eq_28_n
theorem eq_28_z (xo yo : Operand) (a b c d : Nat) : binT Go.Proofs.Tryd.prog .eql 28 xo yo (.sl0 a b c d) .nils = some (.bool false) := by kernel_rfl
attribute [go_sem] eq_28_z
theorem ne_28 (xo yo : Operand) (a b c : Nat) (d : Cap) : binT Go.Proofs.Tryd.prog .neq 28 xo yo (.sl a b c d) .nils = some (.bool true) := by kernel_rfl
attribute [go_sem] ne_28
theorem ne_28_n (xo yo : Operand) : binT Go.Proofs.Tryd.prog .neq 28 xo yo .nils .nils = some (.bool false) := by kernel_rfl
attribute [go_sem] ne_28_n
theorem ne_28_z (xo yo : Operand) (a b c d : Nat) : binT Go.Proofs.Tryd.prog .neq 28 xo yo (.sl0 a b c d) .nils = some (.bool true) := by kernel_rfl
attribute [go_sem] ne_28_z
theorem len_28_z (h : H) (a b c d : Nat) (ts : List TypeId) (az : List CV) : builtinT Go.Proofs.Tryd.prog h .len (28 :: ts) (.sl0 a b c d :: az) = some (.val (.int .i64 0)) := by kernel_rfl
attribute [go_sem] len_28_z
theorem app_28_z (h : H) (s : CV) (a b c d : Nat) (ts : List TypeId) (az : List CV) : builtinT Go.Proofs.Tryd.prog h .append (28 :: 28 :: ts) (s :: .sl0 a b c d :: az) = uv (appendT Go.Proofs.Tryd.prog h 28 s (.sl0 a b c d)) := by kernel_rfl
attribute [go_sem] app_28_z
theorem sz_29 : szOf Go.Proofs.Tryd.prog 29 = some 4 := by kernel_rfl
attribute [go_sem] sz_29
theorem ld_29 (h : H) (id off : Nat) : loadT Go.Proofs.Tryd.prog h 29 id off = @thn _ _ (h.blk id) ⟨fun b => (b.loadN off 4).map .agg⟩ := by kernel_rfl
attribute [go_sem] ld_29
theorem st_29 (h : H) (id off : Nat) (v : CV) : storeT Go.Proofs.Tryd.prog h 29 id off v = @thn _ _ (h.blk id) ⟨fun b => cond (Nat.beq v.cells.length 4 && !b.ro) ((b.storeA off v.cells).map fun b' => h.put id (.cells b')) none⟩ := by kernel_rfl
attribute [go_sem] st_29
theorem part_29 (cs : List CV) (off : Nat) : partT Go.Proofs.Tryd.prog 29 cs off = some (.agg ((cs.drop off).take 4)) := by kernel_rfl
attribute [go_sem] part_29
theorem ze_29 : zeroT Go.Proofs.Tryd.prog 29 = some (.agg [.int .i64 0, .int .i64 0, .int .i64 0, .nils]) := by kernel_rfl
attribute [go_sem] ze_29
theorem bt_29 (parts : List (Nat × CV)) : buildT Go.Proofs.Tryd.prog 29 parts = finB (CV.cells (.agg [.int .i64 0, .int .i64 0, .int .i64 0, .nils])) (nth [(0, 1), (1, 1), (2, 1), (3, 1)]) parts := by kernel_rfl
attribute [go_sem] bt_29
theorem fa_29_0 (id off : Nat) : fieldAddrT Go.Proofs.Tryd.prog 29 (.ptr id off) 0 = some (.ptr id (off)) := by kernel_rfl
attribute [go_sem] fa_29_0
theorem fd_29_0 (cs : List CV) : fieldT Go.Proofs.Tryd.prog 29 (.agg cs) 0 = partT Go.Proofs.Tryd.prog 3 cs 0 := by kernel_rfl
attribute [go_sem] fd_29_0
theorem fa_29_1 (id off : Nat) : fieldAddrT Go.Proofs.Tryd.prog 29 (.ptr id off) 1 = some (.ptr id (off + 1)) := by kernel_rfl
attribute [go_sem] fa_29_1
theorem fd_29_1 (cs : List CV) : fieldT Go.Proofs.Tryd.prog 29 (.agg cs) 1 = partT Go.Proofs.Tryd.prog 3 cs 1 := by kernel_rfl
attribute [go_sem] fd_29_1
theorem fa_29_2 (id off : Nat) : fieldAddrT Go.Proofs.Tryd.prog 29 (.ptr id off) 2 = some (.ptr id (off + 2)) := by kernel_rfl
attribute [go_sem] fa_29_2
theorem fd_29_2 (cs : List CV) : fieldT Go.Proofs.Tryd.prog 29 (.agg cs) 2 = partT Go.Proofs.Tryd.prog 3 cs 2 := by kernel_rfl
attribute [go_sem] fd_29_2
theorem fa_29_3 (id off : Nat) : fieldAddrT Go.Proofs.Tryd.prog 29 (.ptr id off) 3 = some (.ptr id (off + 3)) := by kernel_rfl
attribute [go_sem] fa_29_3
theorem fd_29_3 (cs : List CV) : fieldT Go.Proofs.Tryd.prog 29 (.agg cs) 3 = partT Go.Proofs.Tryd.prog 28 cs 3 := by kernel_rfl
attribute [go_sem] fd_29_3
theorem sz_30 : szOf Go.Proofs.Tryd.prog 30 = some 4 := by kernel_rfl
attribute [go_sem] sz_30
theorem ld_30 (h : H) (id off : Nat) : loadT Go.Proofs.Tryd.prog h 30 id off = @thn _ _ (h.blk id) ⟨fun b => (b.loadN off 4).map .agg⟩ := by kernel_rfl
attribute [go_sem] ld_30
theorem st_30 (h : H) (id off : Nat) (v : CV) : storeT Go.Proofs.Tryd.prog h 30 id off v = @thn _ _ (h.blk id) ⟨fun b => cond (Nat.beq v.cells.length 4 && !b.ro) ((b.storeA off v.cells).map fun b' => h.put id (.cells b')) none⟩ := by kernel_rfl
attribute [go_sem] st_30
theorem part_30 (cs : List CV) (off : Nat) : partT Go.Proofs.Tryd.prog 30 cs off = some (.agg ((cs.drop off).take 4)) := by kernel_rfl
attribute [go_sem] part_30
theorem ze_30 : zeroT Go.Proofs.Tryd.prog 30 = some (.agg [.int .i64 0, .int .i64 0, .int .i64 0, .nils]) := by kernel_rfl
attribute [go_sem] ze_30
theorem bt_30 (parts : List (Nat × CV)) : buildT Go.Proofs.Tryd.prog 30 parts = finB (CV.cells (.agg [.int .i64 0, .int .i64 0, .int .i64 0, .nils])) (nth [(0, 1), (1, 1), (2, 1), (3, 1)]) parts := by kernel_rfl
attribute [go_sem] bt_30
theorem fa_30_0 (id off : Nat) : fieldAddrT Go.Proofs.Tryd.prog 30 (.ptr id off) 0 = some (.ptr id (off)) := by kernel_rfl
attribute [go_sem] fa_30_0
theorem fd_30_0 (cs : List CV) : fieldT Go.Proofs.Tryd.prog 30 (.agg cs) 0 = partT Go.Proofs.Tryd.prog 3 cs 0 := by kernel_rfl
attribute [go_sem] fd_30_0
theorem fa_30_1 (id off : Nat) : fieldAddrT Go.Proofs.Tryd.prog 30 (.ptr id off) 1 = some (.ptr id (off + 1)) := by kernel_rfl
attribute [go_sem] fa_30_1
theorem fd_30_1 (cs : List CV) : fieldT Go.Proofs.Tryd.prog 30 (.agg cs) 1 = partT Go.Proofs.Tryd.prog 3 cs 1 := by kernel_rfl
attribute [go_sem] fd_30_1
theorem fa_30_2 (id off : Nat) : fieldAddrT Go.Proofs.Tryd.prog 30 (.ptr id off) 2 = some (.ptr id (off + 2)) := by kernel_rfl
attribute [go_sem] fa_30_2
theorem fd_30_2 (cs : List CV) : fieldT Go.Proofs.Tryd.prog 30 (.agg cs) 2 = partT Go.Proofs.Tryd.prog 3 cs 2 := by kernel_rfl
attribute [go_sem] fd_30_2
theorem fa_30_3 (id off : Nat) : fieldAddrT Go.Proofs.Tryd.prog 30 (.ptr id off) 3 = some (.ptr id (off + 3)) := by kernel_rfl
attribute [go_sem] fa_30_3
theorem fd_30_3 (cs : List CV) : fieldT Go.Proofs.Tryd.prog 30 (.agg cs) 3 = partT Go.Proofs.Tryd.prog 28 cs 3 := by kernel_rfl
attribute [go_sem] fd_30_3
theorem sz_31 : szOf Go.Proofs.Tryd.prog 31 = some 1 := by kernel_rfl
attribute [go_sem] sz_31
theorem ld_31 (h : H) (id off : Nat) : loadT Go.Proofs.Tryd.prog h 31 id off = @thn _ _ (h.blk id) ⟨fun b => b.get off⟩ := by kernel_rfl
attribute [go_sem] ld_31
theorem st_31 (h : H) (id off : Nat) (v : CV) : storeT Go.Proofs.Tryd.prog h 31 id off v = @thn _ _ (h.blk id) ⟨fun b => cond (Nat.beq v.cells.length 1 && !b.ro) ((b.storeA off v.cells).map fun b' => h.put id (.cells b')) none⟩ := by kernel_rfl
attribute [go_sem] st_31
theorem part_31 (cs : List CV) (off : Nat) : partT Go.Proofs.Tryd.prog 31 cs off = nth cs off := by kernel_rfl
attribute [go_sem] part_31
theorem ze_31 : zeroT Go.Proofs.Tryd.prog 31 = some (.nilf) := by kernel_rfl
attribute [go_sem] ze_31
theorem eq_31 (xo yo : Operand) (f : Fn) (a b : List CV) : binT Go.Proofs.Tryd.prog .eql 31 xo yo (.fn f a b) .nilf = some (.bool false) := by kernel_rfl
attribute [go_sem] eq_31
theorem eq_31_n (xo yo : Operand) : binT Go.Proofs.Tryd.prog .eql 31 xo yo .nilf .nilf = some (.bool true) := by kernel_rfl
attribute [go_sem] eq_31_n
theorem ne_31 (xo yo : Operand) (f : Fn) (a b : List CV) : binT Go.Proofs.Tryd.prog .neq 31 xo yo (.fn f a b) .nilf = some (.bool true) := by kernel_rfl
attribute [go_sem] ne_31
theorem ne_31_n (xo yo : Operand) : binT Go.Proofs.Tryd.prog .neq 31 xo yo .nilf .nilf = some (.bool false) := by kernel_rfl
attribute [go_sem] ne_31_n
theorem sz_32 : szOf Go.Proofs.Tryd.prog 32 = some 1 := by kernel_rfl
attribute [go_sem] sz_32
theorem ld_32 (h : H) (id off : Nat) : loadT Go.Proofs.Tryd.prog h 32 id off = @thn _ _ (h.blk id) ⟨fun b => b.get off⟩ := by kernel_rfl
attribute [go_sem] ld_32
theorem st_32 (h : H) (id off : Nat) (v : CV) : storeT Go.Proofs.Tryd.prog h 32 id off v = @thn _ _ (h.blk id) ⟨fun b => cond (Nat.beq v.cells.length 1 && !b.ro) ((b.storeA off v.cells).map fun b' => h.put id (.cells b')) none⟩ := by kernel_rfl
attribute [go_sem] st_32
theorem part_32 (cs : List CV) (off : Nat) : partT Go.Proofs.Tryd.prog 32 cs off = nth cs off := by kernel_rfl
attribute [go_sem] part_32
theorem ze_32 : zeroT Go.Proofs.Tryd.prog 32 = some (.nilp) := by kernel_rfl
attribute [go_sem] ze_32
theorem eq_32 (xo yo : Operand) (a b : Nat) : binT Go.Proofs.Tryd.prog .eql 32 xo yo (.ptr a b) .nilp = some (.bool false) := by kernel_rfl
attribute [go_sem] eq_32
theorem eq_32_n (xo yo : Operand) : binT Go.Proofs.Tryd.prog .eql 32 xo yo .nilp .nilp = some (.bool true) := by kernel_rfl
attribute [go_sem] eq_32_n
theorem ne_32 (xo yo : Operand) (a b : Nat) : binT Go.Proofs.Tryd.prog .neq 32 xo yo (.ptr a b) .nilp = some (.bool true) := by kernel_rfl
attribute [go_sem] ne_32
theorem ne_32_n (xo yo : Operand) : binT Go.Proofs.Tryd.prog .neq 32 xo yo .nilp .nilp = some (.bool false) := by kernel_rfl
attribute [go_sem] ne_32_n
theorem sz_33 : szOf Go.Proofs.Tryd.prog 33 = some 2 := by kernel_rfl
attribute [go_sem] sz_33
theorem ld_33 (h : H) (id off : Nat) : loadT Go.Proofs.Tryd.prog h 33 id off = @thn _ _ (h.blk id) ⟨fun b => (b.loadN off 2).map .agg⟩ := by kernel_rfl
attribute [go_sem] ld_33
theorem st_33 (h : H) (id off : Nat) (v : CV) : storeT Go.Proofs.Tryd.prog h 33 id off v = @thn _ _ (h.blk id) ⟨fun b => cond (Nat.beq v.cells.length 2 && !b.ro) ((b.storeA off v.cells).map fun b' => h.put id (.cells b')) none⟩ := by kernel_rfl
attribute [go_sem] st_33
theorem part_33 (cs : List CV) (off : Nat) : partT Go.Proofs.Tryd.prog 33 cs off = some (.agg ((cs.drop off).take 2)) := by kernel_rfl
attribute [go_sem] part_33
theorem ze_33 : zeroT Go.Proofs.Tryd.prog 33 = some (.agg [.nilp, .nilp]) := by kernel_rfl
attribute [go_sem] ze_33
theorem ia_33 (id off k : Nat) (kd : IntKind) : indexAddrT Go.Proofs.Tryd.prog 33 (.ptr id off) (.int kd (Int.ofNat k)) = cond (Nat.blt k 2) (some (.ptr id (off + k * 1))) none := by kernel_rfl
attribute [go_sem] ia_33
theorem ix_33 (cs : List CV) (k : Nat) (kd : IntKind) : indexT Go.Proofs.Tryd.prog 33 (.agg cs) (.int kd (Int.ofNat k)) = cond (Nat.blt k 2) (partT Go.Proofs.Tryd.prog 32 cs (k * 1)) none := by kernel_rfl
attribute [go_sem] ix_33
theorem len_33 (h : H) (ts : List TypeId) (az : List CV) (a : CV) : builtinT Go.Proofs.Tryd.prog h .len (33 :: ts) (a :: az) = some (.val (.int .i64 2)) := by kernel_rfl
attribute [go_sem] len_33
theorem bt_33 (parts : List (Nat × CV)) : buildT Go.Proofs.Tryd.prog 33 parts = finB (CV.cells (.agg [.nilp, .nilp])) (fun i => some (i * 1, 1)) parts := by kernel_rfl
attribute [go_sem] bt_33
theorem sz_34 : szOf Go.Proofs.Tryd.prog 34 = some 1 := by kernel_rfl
attribute [go_sem] sz_34
theorem ld_34 (h : H) (id off : Nat) : loadT Go.Proofs.Tryd.prog h 34 id off = @thn _ _ (h.blk id) ⟨fun b => b.get off⟩ := by kernel_rfl
attribute [go_sem] ld_34
theorem st_34 (h : H) (id off : Nat) (v : CV) : storeT Go.Proofs.Tryd.prog h 34 id off v = @thn _ _ (h.blk id) ⟨fun b => cond (Nat.beq v.cells.length 1 && !b.ro) ((b.storeA off v.cells).map fun b' => h.put id (.cells b')) none⟩ := by kernel_rfl
attribute [go_sem] st_34
theorem part_34 (cs : List CV) (off : Nat) : partT Go.Proofs.Tryd.prog 34 cs off = nth cs off := by kernel_rfl
attribute [go_sem] part_34
theorem ze_34 : zeroT Go.Proofs.Tryd.prog 34 = some (.nils) := by kernel_rfl
attribute [go_sem] ze_34
theorem ia_34 (id off len k : Nat) (c : Cap) (kd : IntKind) : indexAddrT Go.Proofs.Tryd.prog 34 (.sl id off len c) (.int kd (Int.ofNat k)) = cond (Nat.blt k len) (some (.ptr id (off + k * 1))) none := by kernel_rfl
attribute [go_sem] ia_34
theorem len_34 (h : H) (id off len : Nat) (c : Cap) (ts : List TypeId) (az : List CV) : builtinT Go.Proofs.Tryd.prog h .len (34 :: ts) (.sl id off len c :: az) = some (.val (.int .i64 (Int.ofNat len))) := by kernel_rfl
attribute [go_sem] len_34
theorem len_34_n (h : H) (ts : List TypeId) (az : List CV) : builtinT Go.Proofs.Tryd.prog h .len (34 :: ts) (.nils :: az) = some (.val (.int .i64 0)) := by kernel_rfl
attribute [go_sem] len_34_n
theorem app_34 (h : H) (s : CV) (id off len : Nat) (c : Cap) (ts : List TypeId) (az : List CV) : builtinT Go.Proofs.Tryd.prog h .append (34 :: 34 :: ts) (s :: .sl id off len c :: az) = uv (appendT Go.Proofs.Tryd.prog h 34 s (.sl id off len c)) := by kernel_rfl
attribute [go_sem] app_34
theorem app_34_n (h : H) (s : CV) (ts : List TypeId) (az : List CV) : builtinT Go.Proofs.Tryd.prog h .append (34 :: 34 :: ts) (s :: .nils :: az) = uv (appendT Go.Proofs.Tryd.prog h 34 s .nils) := by kernel_rfl
attribute [go_sem] app_34_n
theorem ap_34 (h : H) (s : CV) (id off len : Nat) (c : Cap) : appendT Go.Proofs.Tryd.prog h 34 s (.sl id off len c) = appS h 1 24 1 s len (firstC h 1 len (.sl id off len c)) := by kernel_rfl
attribute [go_sem] ap_34
theorem ap_34_n (h : H) (s : CV) : appendT Go.Proofs.Tryd.prog h 34 s .nils = appS h 1 24 1 s 0 (some []) := by kernel_rfl
attribute [go_sem] ap_34_n
theorem ap_34_z (h : H) (s : CV) (a b c d : Nat) : appendT Go.Proofs.Tryd.prog h 34 s (.sl0 a b c d) = appS h 1 24 1 s 0 (some []) := by kernel_rfl
attribute [go_sem] ap_34_z
theorem bs_34 (h : H) (n : Nat) (parts : List (Nat × CV)) : buildSliceT Go.Proofs.Tryd.prog h 34 n parts = bslS h 1 (CV.cells (.nils)) n parts := by kernel_rfl
attribute [go_sem] bs_34
theorem ms_34 (h : H) (l c : Nat) (k k' : IntKind) : makeSliceT Go.Proofs.Tryd.prog h 34 (.int k (Int.ofNat l)) (.int k' (Int.ofNat c)) = mkS h 1 24 (zeroT Go.Proofs.Tryd.prog 28) l c := by kernel_rfl
attribute [go_sem] ms_34
theorem eq_34 (xo yo : Operand) (a b c : Nat) (d : Cap) : binT Go.Proofs.Tryd.prog .eql 34 xo yo (.sl a b c d) .nils = some (.bool false) := by kernel_rfl
attribute [go_sem] eq_34
theorem eq_34_n (xo yo : Operand) : binT Go.Proofs.Tryd.prog .eql 34 xo yo .nils .nils = some (.bool true) := by kernel_rfl
attribute [go_sem] eq_34_n
theorem eq_34_z (xo yo : Operand) (a b c d : Nat) : binT Go.Proofs.Tryd.prog .eql 34 xo yo (.sl0 a b c d) .nils = some (.bool false) := by kernel_rfl
attribute [go_sem] eq_34_z
theorem ne_34 (xo yo : Operand) (a b c : Nat) (d : Cap) : binT Go.Proofs.Tryd.prog .neq 34 xo yo (.sl a b c d) .nils = some (.bool true) := by kernel_rfl
attribute [go_sem] ne_34
theorem ne_34_n (xo yo : Operand) : binT Go.Proofs.Tryd.prog .neq 34 xo yo .nils .nils = some (.bool false) := by kernel_rfl
attribute [go_sem] ne_34_n
theorem ne_34_z (xo yo : Operand) (a b c d : Nat) : binT Go.Proofs.Tryd.prog .neq 34 xo yo (.sl0 a b c d) .nils = some (.bool true) := by kernel_rfl
attribute [go_sem] ne_34_z
theorem len_34_z (h : H) (a b c d : Nat) (ts : List TypeId) (az : List CV) : builtinT Go.Proofs.Tryd.prog h .len (34 :: ts) (.sl0 a b c d :: az) = some (.val (.int .i64 0)) := by kernel_rfl
attribute [go_sem] len_34_z
theorem app_34_z (h : H) (s : CV) (a b c d : Nat) (ts : List TypeId) (az : List CV) : builtinT Go.Proofs.Tryd.prog h .append (34 :: 34 :: ts) (s :: .sl0 a b c d :: az) = uv (appendT Go.Proofs.Tryd.prog h 34 s (.sl0 a b c d)) := by kernel_rfl
attribute [go_sem] app_34_z
theorem sz_35 : szOf Go.Proofs.Tryd.prog 35 = some 1 := by kernel_rfl
attribute [go_sem] sz_35
theorem ld_35 (h : H) (id off : Nat) : loadT Go.Proofs.Tryd.prog h 35 id off = @thn _ _ (h.blk id) ⟨fun b => b.get off⟩ := by kernel_rfl
attribute [go_sem] ld_35
theorem st_35 (h : H) (id off : Nat) (v : CV) : storeT Go.Proofs.Tryd.prog h 35 id off v = @thn _ _ (h.blk id) ⟨fun b => cond (Nat.beq v.cells.length 1 && !b.ro) ((b.storeA off v.cells).map fun b' => h.put id (.cells b')) none⟩ := by kernel_rfl
attribute [go_sem] st_35
theorem part_35 (cs : List CV) (off : Nat) : partT Go.Proofs.Tryd.prog 35 cs off = nth cs off := by kernel_rfl
attribute [go_sem] part_35
theorem ze_35 : zeroT Go.Proofs.Tryd.prog 35 = some (.nils) := by kernel_rfl
attribute [go_sem] ze_35
theorem ia_35 (id off len k : Nat) (c : Cap) (kd : IntKind) : indexAddrT Go.Proofs.Tryd.prog 35 (.sl id off len c) (.int kd (Int.ofNat k)) = cond (Nat.blt k len) (some (.ptr id (off + k * 1))) none := by kernel_rfl
attribute [go_sem] ia_35
theorem len_35 (h : H) (id off len : Nat) (c : Cap) (ts : List TypeId) (az : List CV) : builtinT Go.Proofs.Tryd.prog h .len (35 :: ts) (.sl id off len c :: az) = some (.val (.int .i64 (Int.ofNat len))) := by kernel_rfl
attribute [go_sem] len_35
theorem len_35_n (h : H) (ts : List TypeId) (az : List CV) : builtinT Go.Proofs.Tryd.prog h .len (35 :: ts) (.nils :: az) = some (.val (.int .i64 0)) := by kernel_rfl
attribute [go_sem] len_35_n
theorem app_35 (h : H) (s : CV) (id off len : Nat) (c : Cap) (ts : List TypeId) (az : List CV) : builtinT Go.Proofs.Tryd.prog h .append (35 :: 35 :: ts) (s :: .sl id off len c :: az) = uv (appendT Go.Proofs.Tryd.prog h 35 s (.sl id off len c)) := by kernel_rfl
attribute [go_sem] app_35
theorem app_35_n (h : H) (s : CV) (ts : List TypeId) (az : List CV) : builtinT Go.Proofs.Tryd.prog h .append (35 :: 35 :: ts) (s :: .nils :: az) = uv (appendT Go.Proofs.Tryd.prog h 35 s .nils) := by kernel_rfl
attribute [go_sem] app_35_n
theorem ap_35 (h : H) (s : CV) (id off len : Nat) (c : Cap) : appendT Go.Proofs.Tryd.prog h 35 s (.sl id off len c) = appS h 1 8 1 s len (firstC h 1 len (.sl id off len c)) := by kernel_rfl
attribute [go_sem] ap_35
theorem ap_35_n (h : H) (s : CV) : appendT Go.Proofs.Tryd.prog h 35 s .nils = appS h 1 8 1 s 0 (some []) := by kernel_rfl
attribute [go_sem] ap_35_n
theorem ap_35_z (h : H) (s : CV) (a b c d : Nat) : appendT Go.Proofs.Tryd.prog h 35 s (.sl0 a b c d) = appS h 1 8 1 s 0 (some []) := by kernel_rfl
attribute [go_sem] ap_35_z
theorem bs_35 (h : H) (n : Nat) (parts : List (Nat × CV)) : buildSliceT Go.Proofs.Tryd.prog h 35 n parts = bslS h 1 (CV.cells (.int .i64 0)) n parts := by kernel_rfl
attribute [go_sem] bs_35
theorem ms_35 (h : H) (l c : Nat) (k k' : IntKind) : makeSliceT Go.Proofs.Tryd.prog h 35 (.int k (Int.ofNat l)) (.int k' (Int.ofNat c)) = mkS h 1 8 (zeroT Go.Proofs.Tryd.prog 3) l c := by kernel_rfl
attribute [go_sem] ms_35
theorem eq_35 (xo yo : Operand) (a b c : Nat) (d : Cap) : binT Go.Proofs.Tryd.prog .eql 35 xo yo (.sl a b c d) .nils = some (.bool false) := by kernel_rfl
attribute [go_sem] eq_35
theorem eq_35_n (xo yo : Operand) : binT Go.Proofs.Tryd.prog .eql 35 xo yo .nils .nils = some (.bool true) := by kernel_rfl
attribute [go_sem] eq_35_n
theorem eq_35_z (xo yo : Operand) (a b c d : Nat) : binT Go.Proofs.Tryd.prog .eql 35 xo yo (.sl0 a b c d) .nils = some (.bool false) := by kernel_rfl
attribute [go_sem] eq_35_z
theorem ne_35 (xo yo : Operand) (a b c : Nat) (d : Cap) : binT Go.Proofs.Tryd.prog .neq 35 xo yo (.sl a b c d) .nils = some (.bool true) := by kernel_rfl
attribute [go_sem] ne_35
theorem ne_35_n (xo yo : Operand) : binT Go.Proofs.Tryd.prog .neq 35 xo yo .nils .nils = some (.bool false) := by kernel_rfl
attribute [go_sem] ne_35_n
theorem ne_35_z (xo yo : Operand) (a b c d : Nat) : binT Go.Proofs.Tryd.prog .neq 35 xo yo (.sl0 a b c d) .nils = some (.bool true) := by kernel_rfl
attribute [go_sem] ne_35_z
theorem len_35_z (h : H) (a b c d : Nat) (ts : List TypeId) (az : List CV) : builtinT Go.Proofs.Tryd.prog h .len (35 :: ts) (.sl0 a b c d :: az) = some (.val (.int .i64 0)) := by kernel_rfl
attribute [go_sem] len_35_z
theorem app_35_z (h : H) (s : CV) (a b c d : Nat) (ts : List TypeId) (az : List CV) : builtinT Go.Proofs.Tryd.prog h .append (35 :: 35 :: ts) (s :: .sl0 a b c d :: az) = uv (appendT Go.Proofs.Tryd.prog h 35 s (.sl0 a b c d)) := by kernel_rfl
attribute [go_sem] app_35_z
theorem sz_36 : szOf Go.Proofs.Tryd.prog 36 = some 1 := by kernel_rfl
attribute [go_sem] sz_36
theorem ld_36 (h : H) (id off : Nat) : loadT Go.Proofs.Tryd.prog h 36 id off = @thn _ _ (h.blk id) ⟨fun b => b.get off⟩ := by kernel_rfl
attribute [go_sem] ld_36
theorem st_36 (h : H) (id off : Nat) (v : CV) : storeT Go.Proofs.Tryd.prog h 36 id off v = @thn _ _ (h.blk id) ⟨fun b => cond (Nat.beq v.cells.length 1 && !b.ro) ((b.storeA off v.cells).map fun b' => h.put id (.cells b')) none⟩ := by kernel_rfl
attribute [go_sem] st_36
theorem part_36 (cs : List CV) (off : Nat) : partT Go.Proofs.Tryd.prog 36 cs off = nth cs off := by kernel_rfl
attribute [go_sem] part_36
theorem ze_36 : zeroT Go.Proofs.Tryd.prog 36 = some (.int .u64 0) := by kernel_rfl
attribute [go_sem] ze_36
theorem sz_37 : szOf Go.Proofs.Tryd.prog 37 = some 1 := by kernel_rfl
attribute [go_sem] sz_37
theorem ld_37 (h : H) (id off : Nat) : loadT Go.Proofs.Tryd.prog h 37 id off = @thn _ _ (h.blk id) ⟨fun b => b.get off⟩ := by kernel_rfl
attribute [go_sem] ld_37
theorem st_37 (h : H) (id off : Nat) (v : CV) : storeT Go.Proofs.Tryd.prog h 37 id off v = @thn _ _ (h.blk id) ⟨fun b => cond (Nat.beq v.cells.length 1 && !b.ro) ((b.storeA off v.cells).map fun b' => h.put id (.cells b')) none⟩ := by kernel_rfl
attribute [go_sem] st_37
theorem part_37 (cs : List CV) (off : Nat) : partT Go.Proofs.Tryd.prog 37 cs off = nth cs off := by kernel_rfl
attribute [go_sem] part_37
theorem ze_37 : zeroT Go.Proofs.Tryd.prog 37 = some (.nils) := by kernel_rfl
attribute [go_sem] ze_37
theorem ia_37 (id off len k : Nat) (c : Cap) (kd : IntKind) : indexAddrT Go.Proofs.Tryd.prog 37 (.sl id off len c) (.int kd (Int.ofNat k)) = cond (Nat.blt k len) (some (.ptr id (off + k * 3))) none := by kernel_rfl
attribute [go_sem] ia_37
theorem len_37 (h : H) (id off len : Nat) (c : Cap) (ts : List TypeId) (az : List CV) : builtinT Go.Proofs.Tryd.prog h .len (37 :: ts) (.sl id off len c :: az) = some (.val (.int .i64 (Int.ofNat len))) := by kernel_rfl
attribute [go_sem] len_37
theorem len_37_n (h : H) (ts : List TypeId) (az : List CV) : builtinT Go.Proofs.Tryd.prog h .len (37 :: ts) (.nils :: az) = some (.val (.int .i64 0)) := by kernel_rfl
attribute [go_sem] len_37_n
theorem app_37 (h : H) (s : CV) (id off len : Nat) (c : Cap) (ts : List TypeId) (az : List CV) : builtinT Go.Proofs.Tryd.prog h .append (37 :: 37 :: ts) (s :: .sl id off len c :: az) = uv (appendT Go.Proofs.Tryd.prog h 37 s (.sl id off len c)) := by kernel_rfl
attribute [go_sem] app_37
theorem app_37_n (h : H) (s : CV) (ts : List TypeId) (az : List CV) : builtinT Go.Proofs.Tryd.prog h .append (37 :: 37 :: ts) (s :: .nils :: az) = uv (appendT Go.Proofs.Tryd.prog h 37 s .nils) := by kernel_rfl
attribute [go_sem] app_37_n
theorem ap_37 (h : H) (s : CV) (id off len : Nat) (c : Cap) : appendT Go.Proofs.Tryd.prog h 37 s (.sl id off len c) = appS h 3 40 3 s len (firstC h 3 len (.sl id off len c)) := by kernel_rfl
attribute [go_sem] ap_37
theorem ap_37_n (h : H) (s : CV) : appendT Go.Proofs.Tryd.prog h 37 s .nils = appS h 3 40 3 s 0 (some []) := by kernel_rfl
attribute [go_sem] ap_37_n
theorem ap_37_z (h : H) (s : CV) (a b c d : Nat) : appendT Go.Proofs.Tryd.prog h 37 s (.sl0 a b c d) = appS h 3 40 3 s 0 (some []) := by kernel_rfl
attribute [go_sem] ap_37_z
theorem bs_37 (h : H) (n : Nat) (parts : List (Nat × CV)) : buildSliceT Go.Proofs.Tryd.prog h 37 n parts = bslS h 3 (CV.cells (.agg [.int .u64 0, .int .u64 0, .nils])) n parts := by kernel_rfl
attribute [go_sem] bs_37
theorem ms_37 (h : H) (l c : Nat) (k k' : IntKind) : makeSliceT Go.Proofs.Tryd.prog h 37 (.int k (Int.ofNat l)) (.int k' (Int.ofNat c)) = mkS h 3 40 (zeroT Go.Proofs.Tryd.prog 49) l c := by kernel_rfl
attribute [go_sem] ms_37
theorem eq_37 (xo yo : Operand) (a b c : Nat) (d : Cap) : binT Go.Proofs.Tryd.prog .eql 37 xo yo (.sl a b c d) .nils = some (.bool false) := by kernel_rfl
attribute [go_sem] eq_37
theorem eq_37_n (xo yo : Operand) : binT Go.Proofs.Tryd.prog .eql 37 xo yo .nils .nils = some (.bool true) := by kernel_rfl
attribute [go_sem] eq_37_n
theorem eq_37_z (xo yo : Operand) (a b c d : Nat) : binT Go.Proofs.Tryd.prog .eql 37 xo yo (.sl0 a b c d) .nils = some (.bool false) := by kernel_rfl
attribute [go_sem] eq_37_z
theorem ne_37 (xo yo : Operand) (a b c : Nat) (d : Cap) : binT Go.Proofs.Tryd.prog .neq 37 xo yo (.sl a b c d) .nils = some (.bool true) := by kernel_rfl
attribute [go_sem] ne_37
theorem ne_37_n (xo yo : Operand) : binT Go.Proofs.Tryd.prog .neq 37 xo yo .nils .nils = some (.bool false) := by kernel_rfl
attribute [go_sem] ne_37_n
theorem ne_37_z (xo yo : Operand) (a b c d : Nat) : binT Go.Proofs.Tryd.prog .neq 37 xo yo (.sl0 a b c d) .nils = some (.bool true) := by kernel_rfl
attribute [go_sem] ne_37_z
theorem len_37_z (h : H) (a b c d : Nat) (ts : List TypeId) (az : List CV) : builtinT Go.Proofs.Tryd.prog h .len (37 :: ts) (.sl0 a b c d :: az) = some (.val (.int .i64 0)) := by kernel_rfl
attribute [go_sem] len_37_z
theorem app_37_z (h : H) (s : CV) (a b c d : Nat) (ts : List TypeId) (az : List CV) : builtinT Go.Proofs.Tryd.prog h .append (37 :: 37 :: ts) (s :: .sl0 a b c d :: az) = uv (appendT Go.Proofs.Tryd.prog h 37 s (.sl0 a b c d)) := by kernel_rfl
attribute [go_sem] app_37_z
theorem sz_38 : szOf Go.Proofs.Tryd.prog 38 = some 7 := by kernel_rfl
attribute [go_sem] sz_38
theorem ld_38 (h : H) (id off : Nat) : loadT Go.Proofs.Tryd.prog h 38 id off = @thn _ _ (h.blk id) ⟨fun b => (b.loadN off 7).map .agg⟩ := by kernel_rfl
attribute [go_sem] ld_38
theorem st_38 (h : H) (id off : Nat) (v : CV) : storeT Go.Proofs.Tryd.prog h 38 id off v = @thn _ _ (h.blk id) ⟨fun b => cond (Nat.beq v.cells.length 7 && !b.ro) ((b.storeA off v.cells).map fun b' => h.put id (.cells b')) none⟩ := by kernel_rfl
attribute [go_sem] st_38
theorem part_38 (cs : List CV) (off : Nat) : partT Go.Proofs.Tryd.prog 38 cs off = some (.agg ((cs.drop off).take 7)) := by kernel_rfl
attribute [go_sem] part_38
theorem ze_38 : zeroT Go.Proofs.Tryd.prog 38 = some (.agg [.nilp, .nilp, .nils, .nils, .int .u64 0, .nils, .nils]) := by kernel_rfl
attribute [go_sem] ze_38
theorem bt_38 (parts : List (Nat × CV)) : buildT Go.Proofs.Tryd.prog 38 parts = finB (CV.cells (.agg [.nilp, .nilp, .nils, .nils, .int .u64 0, .nils, .nils])) (nth [(0, 2), (2, 1), (3, 1), (4, 1), (5, 1), (6, 1)]) parts := by kernel_rfl
attribute [go_sem] bt_38
theorem fa_38_0 (id off : Nat) : fieldAddrT Go.Proofs.Tryd.prog 38 (.ptr id off) 0 = some (.ptr id (off)) := by kernel_rfl
attribute [go_sem] fa_38_0
theorem fd_38_0 (cs : List CV) : fieldT Go.Proofs.Tryd.prog 38 (.agg cs) 0 = partT Go.Proofs.Tryd.prog 33 cs 0 := by kernel_rfl
attribute [go_sem] fd_38_0
theorem fa_38_1 (id off : Nat) : fieldAddrT Go.Proofs.Tryd.prog 38 (.ptr id off) 1 = some (.ptr id (off + 2)) := by kernel_rfl
attribute [go_sem] fa_38_1
theorem fd_38_1 (cs : List CV) : fieldT Go.Proofs.Tryd.prog 38 (.agg cs) 1 = partT Go.Proofs.Tryd.prog 34 cs 2 := by kernel_rfl
attribute [go_sem] fd_38_1
theorem fa_38_2 (id off : Nat) : fieldAddrT Go.Proofs.Tryd.prog 38 (.ptr id off) 2 = some (.ptr id (off + 3)) := by kernel_rfl
attribute [go_sem] fa_38_2
theorem fd_38_2 (cs : List CV) : fieldT Go.Proofs.Tryd.prog 38 (.agg cs) 2 = partT Go.Proofs.Tryd.prog 35 cs 3 := by kernel_rfl
attribute [go_sem] fd_38_2
theorem fa_38_3 (id off : Nat) : fieldAddrT Go.Proofs.Tryd.prog 38 (.ptr id off) 3 = some (.ptr id (off + 4)) := by kernel_rfl
attribute [go_sem] fa_38_3
theorem fd_38_3 (cs : List CV) : fieldT Go.Proofs.Tryd.prog 38 (.agg cs) 3 = partT Go.Proofs.Tryd.prog 36 cs 4 := by kernel_rfl
attribute [go_sem] fd_38_3
theorem fa_38_4 (id off : Nat) : fieldAddrT Go.Proofs.Tryd.prog 38 (.ptr id off) 4 = some (.ptr id (off + 5)) := by kernel_rfl
attribute [go_sem] fa_38_4
theorem fd_38_4 (cs : List CV) : fieldT Go.Proofs.Tryd.prog 38 (.agg cs) 4 = partT Go.Proofs.Tryd.prog 37 cs 5 := by kernel_rfl
attribute [go_sem] fd_38_4
theorem fa_38_5 (id off : Nat) : fieldAddrT Go.Proofs.Tryd.prog 38 (.ptr id off) 5 = some (.ptr id (off + 6)) := by kernel_rfl
attribute [go_sem] fa_38_5
theorem fd_38_5 (cs : List CV) : fieldT Go.Proofs.Tryd.prog 38 (.agg cs) 5 = partT Go.Proofs.Tryd.prog 37 cs 6 := by kernel_rfl
attribute [go_sem] fd_38_5
theorem sz_39 : szOf Go.Proofs.Tryd.prog 39 = some 7 := by kernel_rfl
attribute [go_sem] sz_39
theorem ld_39 (h : H) (id off : Nat) : loadT Go.Proofs.Tryd.prog h 39 id off = @thn _ _ (h.blk id) ⟨fun b => (b.loadN off 7).map .agg⟩ := by kernel_rfl
attribute [go_sem] ld_39
theorem st_39 (h : H) (id off : Nat) (v : CV) : storeT Go.Proofs.Tryd.prog h 39 id off v = @thn _ _ (h.blk id) ⟨fun b => cond (Nat.beq v.cells.length 7 && !b.ro) ((b.storeA off v.cells).map fun b' => h.put id (.cells b')) none⟩ := by kernel_rfl
attribute [go_sem] st_39
theorem part_39 (cs : List CV) (off : Nat) : partT Go.Proofs.Tryd.prog 39 cs off = some (.agg ((cs.drop off).take 7)) := by kernel_rfl
attribute [go_sem] part_39
theorem ze_39 : zeroT Go.Proofs.Tryd.prog 39 = some (.agg [.nilp, .nilp, .nils, .nils, .int .u64 0, .nils, .nils]) := by kernel_rfl
attribute [go_sem] ze_39
theorem bt_39 (parts : List (Nat × CV)) : buildT Go.Proofs.Tryd.prog 39 parts = finB (CV.cells (.agg [.nilp, .nilp, .nils, .nils, .int .u64 0, .nils, .nils])) (nth [(0, 2), (2, 1), (3, 1), (4, 1), (5, 1), (6, 1)]) parts := by kernel_rfl
attribute [go_sem] bt_39
theorem fa_39_0 (id off : Nat) : fieldAddrT Go.Proofs.Tryd.prog 39 (.ptr id off) 0 = some (.ptr id (off)) := by kernel_rfl
attribute [go_sem] fa_39_0
theorem fd_39_0 (cs : List CV) : fieldT Go.Proofs.Tryd.prog 39 (.agg cs) 0 = partT Go.Proofs.Tryd.prog 33 cs 0 := by kernel_rfl
attribute [go_sem] fd_39_0
theorem fa_39_1 (id off : Nat) : fieldAddrT Go.Proofs.Tryd.prog 39 (.ptr id off) 1 = some (.ptr id (off + 2)) := by kernel_rfl
attribute [go_sem] fa_39_1
theorem fd_39_1 (cs : List CV) : fieldT Go.Proofs.Tryd.prog 39 (.agg cs) 1 = partT Go.Proofs.Tryd.prog 34 cs 2 := by kernel_rfl
attribute [go_sem] fd_39_1
theorem fa_39_2 (id off : Nat) : fieldAddrT Go.Proofs.Tryd.prog 39 (.ptr id off) 2 = some (.ptr id (off + 3)) := by kernel_rfl
attribute [go_sem] fa_39_2
theorem fd_39_2 (cs : List CV) : fieldT Go.Proofs.Tryd.prog 39 (.agg cs) 2 = partT Go.Proofs.Tryd.prog 35 cs 3 := by kernel_rfl
attribute [go_sem] fd_39_2
theorem fa_39_3 (id off : Nat) : fieldAddrT Go.Proofs.Tryd.prog 39 (.ptr id off) 3 = some (.ptr id (off + 4)) := by kernel_rfl
attribute [go_sem] fa_39_3
theorem fd_39_3 (cs : List CV) : fieldT Go.Proofs.Tryd.prog 39 (.agg cs) 3 = partT Go.Proofs.Tryd.prog 36 cs 4 := by kernel_rfl
attribute [go_sem] fd_39_3
theorem fa_39_4 (id off : Nat) : fieldAddrT Go.Proofs.Tryd.prog 39 (.ptr id off) 4 = some (.ptr id (off + 5)) := by kernel_rfl
attribute [go_sem] fa_39_4
theorem fd_39_4 (cs : List CV) : fieldT Go.Proofs.Tryd.prog 39 (.agg cs) 4 = partT Go.Proofs.Tryd.prog 37 cs 5 := by kernel_rfl
attribute [go_sem] fd_39_4
theorem fa_39_5 (id off : Nat) : fieldAddrT Go.Proofs.Tryd.prog 39 (.ptr id off) 5 = some (.ptr id (off + 6)) := by kernel_rfl
attribute [go_sem] fa_39_5
theorem fd_39_5 (cs : List CV) : fieldT Go.Proofs.Tryd.prog 39 (.agg cs) 5 = partT Go.Proofs.Tryd.prog 37 cs 6 := by kernel_rfl
attribute [go_sem] fd_39_5
theorem sz_40 : szOf Go.Proofs.Tryd.prog 40 = some 1 := by kernel_rfl
attribute [go_sem] sz_40
theorem ld_40 (h : H) (id off : Nat) : loadT Go.Proofs.Tryd.prog h 40 id off = @thn _ _ (h.blk id) ⟨fun b => b.get off⟩ := by kernel_rfl
attribute [go_sem] ld_40
theorem st_40 (h : H) (id off : Nat) (v : CV) : storeT Go.Proofs.Tryd.prog h 40 id off v = @thn _ _ (h.blk id) ⟨fun b => cond (Nat.beq v.cells.length 1 && !b.ro) ((b.storeA off v.cells).map fun b' => h.put id (.cells b')) none⟩ := by kernel_rfl
attribute [go_sem] st_40
theorem part_40 (cs : List CV) (off : Nat) : partT Go.Proofs.Tryd.prog 40 cs off = nth cs off := by kernel_rfl
attribute [go_sem] part_40
theorem sz_41 : szOf Go.Proofs.Tryd.prog 41 = some 1 := by kernel_rfl
attribute [go_sem] sz_41
theorem ld_41 (h : H) (id off : Nat) : loadT Go.Proofs.Tryd.prog h 41 id off = @thn _ _ (h.blk id) ⟨fun b => b.get off⟩ := by kernel_rfl
attribute [go_sem] ld_41
theorem st_41 (h : H) (id off : Nat) (v : CV) : storeT Go.Proofs.Tryd.prog h 41 id off v = @thn _ _ (h.blk id) ⟨fun b => cond (Nat.beq v.cells.length 1 && !b.ro) ((b.storeA off v.cells).map fun b' => h.put id (.cells b')) none⟩ := by kernel_rfl
attribute [go_sem] st_41
theorem part_41 (cs : List CV) (off : Nat) : partT Go.Proofs.Tryd.prog 41 cs off = nth cs off := by kernel_rfl
attribute [go_sem] part_41
theorem ze_41 : zeroT Go.Proofs.Tryd.prog 41 = some (.nilf) := by kernel_rfl
attribute [go_sem] ze_41
theorem eq_41 (xo yo : Operand) (f : Fn) (a b : List CV) : binT Go.Proofs.Tryd.prog .eql 41 xo yo (.fn f a b) .nilf = some (.bool false) := by kernel_rfl
attribute [go_sem] eq_41
theorem eq_41_n (xo yo : Operand) : binT Go.Proofs.Tryd.prog .eql 41 xo yo .nilf .nilf = some (.bool true) := by kernel_rfl
attribute [go_sem] eq_41_n
theorem ne_41 (xo yo : Operand) (f : Fn) (a b : List CV) : binT Go.Proofs.Tryd.prog .neq 41 xo yo (.fn f a b) .nilf = some (.bool true) := by kernel_rfl
attribute [go_sem] ne_41
theorem ne_41_n (xo yo : Operand) : binT Go.Proofs.Tryd.prog .neq 41 xo yo .nilf .nilf = some (.bool false) := by kernel_rfl
attribute [go_sem] ne_41_n
theorem sz_42 : szOf Go.Proofs.Tryd.prog 42 = some 1 := by kernel_rfl
attribute [go_sem] sz_42
theorem ld_42 (h : H) (id off : Nat) : loadT Go.Proofs.Tryd.prog h 42 id off = @thn _ _ (h.blk id) ⟨fun b => b.get off⟩ := by kernel_rfl
attribute [go_sem] ld_42
theorem st_42 (h : H) (id off : Nat) (v : CV) : storeT Go.Proofs.Tryd.prog h 42 id off v = @thn _ _ (h.blk id) ⟨fun b => cond (Nat.beq v.cells.length 1 && !b.ro) ((b.storeA off v.cells).map fun b' => h.put id (.cells b')) none⟩ := by kernel_rfl
attribute [go_sem] st_42
theorem part_42 (cs : List CV) (off : Nat) : partT Go.Proofs.Tryd.prog 42 cs off = nth cs off := by kernel_rfl
attribute [go_sem] part_42
theorem ze_42 : zeroT Go.Proofs.Tryd.prog 42 = some (.int .i64 0) := by kernel_rfl
attribute [go_sem] ze_42
theorem sz_43 : szOf Go.Proofs.Tryd.prog 43 = some 1 := by kernel_rfl
attribute [go_sem] sz_43
theorem ld_43 (h : H) (id off : Nat) : loadT Go.Proofs.Tryd.prog h 43 id off = @thn _ _ (h.blk id) ⟨fun b => b.get off⟩ := by kernel_rfl
attribute [go_sem] ld_43
theorem st_43 (h : H) (id off : Nat) (v : CV) : storeT Go.Proofs.Tryd.prog h 43 id off v = @thn _ _ (h.blk id) ⟨fun b => cond (Nat.beq v.cells.length 1 && !b.ro) ((b.storeA off v.cells).map fun b' => h.put id (.cells b')) none⟩ := by kernel_rfl
attribute [go_sem] st_43
theorem part_43 (cs : List CV) (off : Nat) : partT Go.Proofs.Tryd.prog 43 cs off = nth cs off := by kernel_rfl
attribute [go_sem] part_43
theorem ze_43 : zeroT Go.Proofs.Tryd.prog 43 = some (.nilf) := by kernel_rfl
attribute [go_sem] ze_43
theorem eq_43 (xo yo : Operand) (f : Fn) (a b : List CV) : binT Go.Proofs.Tryd.prog .eql 43 xo yo (.fn f a b) .nilf = some (.bool false) := by kernel_rfl
attribute [go_sem] eq_43
theorem eq_43_n (xo yo : Operand) : binT Go.Proofs.Tryd.prog .eql 43 xo yo .nilf .nilf = some (.bool true) := by kernel_rfl
attribute [go_sem] eq_43_n
theorem ne_43 (xo yo : Operand) (f : Fn) (a b : List CV) : binT Go.Proofs.Tryd.prog .neq 43 xo yo (.fn f a b) .nilf = some (.bool true) := by kernel_rfl
attribute [go_sem] ne_43
theorem ne_43_n (xo yo : Operand) : binT Go.Proofs.Tryd.prog .neq 43 xo yo .nilf .nilf = some (.bool false) := by kernel_rfl
attribute [go_sem] ne_43_n
theorem sz_44 : szOf Go.Proofs.Tryd.prog 44 = some 1 := by kernel_rfl
attribute [go_sem] sz_44
theorem ld_44 (h : H) (id off : Nat) : loadT Go.Proofs.Tryd.prog h 44 id off = @thn _ _ (h.blk id) ⟨fun b => b.get off⟩ := by kernel_rfl
attribute [go_sem] ld_44
theorem st_44 (h : H) (id off : Nat) (v : CV) : storeT Go.Proofs.Tryd.prog h 44 id off v = @thn _ _ (h.blk id) ⟨fun b => cond (Nat.beq v.cells.length 1 && !b.ro) ((b.storeA off v.cells).map fun b' => h.put id (.cells b')) none⟩ := by kernel_rfl
attribute [go_sem] st_44
theorem part_44 (cs : List CV) (off : Nat) : partT Go.Proofs.Tryd.prog 44 cs off = nth cs off := by kernel_rfl
attribute [go_sem] part_44
theorem ze_44 : zeroT Go.Proofs.Tryd.prog 44 = some (.nilf) := by kernel_rfl
attribute [go_sem] ze_44
theorem eq_44 (xo yo : Operand) (f : Fn) (a b : List CV) : binT Go.Proofs.Tryd.prog .eql 44 xo yo (.fn f a b) .nilf = some (.bool false) := by kernel_rfl
attribute [go_sem] eq_44
theorem eq_44_n (xo yo : Operand) : binT Go.Proofs.Tryd.prog .eql 44 xo yo .nilf .nilf = some (.bool true) := by kernel_rfl
attribute [go_sem] eq_44_n
theorem ne_44 (xo yo : Operand) (f : Fn) (a b : List CV) : binT Go.Proofs.Tryd.prog .neq 44 xo yo (.fn f a b) .nilf = some (.bool true) := by kernel_rfl
attribute [go_sem] ne_44
theorem ne_44_n (xo yo : Operand) : binT Go.Proofs.Tryd.prog .neq 44 xo yo .nilf .nilf = some (.bool false) := by kernel_rfl
attribute [go_sem] ne_44_n
theorem sz_45 : szOf Go.Proofs.Tryd.prog 45 = some 1 := by kernel_rfl
attribute [go_sem] sz_45
theorem ld_45 (h : H) (id off : Nat) : loadT Go.Proofs.Tryd.prog h 45 id off = @thn _ _ (h.blk id) ⟨fun b => b.get off⟩ := by kernel_rfl
attribute [go_sem] ld_45
theorem st_45 (h : H) (id off : Nat) (v : CV) : storeT Go.Proofs.Tryd.prog h 45 id off v = @thn _ _ (h.blk id) ⟨fun b => cond (Nat.beq v.cells.length 1 && !b.ro) ((b.storeA off v.cells).map fun b' => h.put id (.cells b')) none⟩ := by kernel_rfl
attribute [go_sem] st_45
theorem part_45 (cs : List CV) (off : Nat) : partT Go.Proofs.Tryd.prog 45 cs off = nth cs off := by kernel_rfl
attribute [go_sem] part_45
theorem sz_46 : szOf Go.Proofs.Tryd.prog 46 = some 1 := by kernel_rfl
attribute [go_sem] sz_46
theorem ld_46 (h : H) (id off : Nat) : loadT Go.Proofs.Tryd.prog h 46 id off = @thn _ _ (h.blk id) ⟨fun b => b.get off⟩ := by kernel_rfl
attribute [go_sem] ld_46
theorem st_46 (h : H) (id off : Nat) (v : CV) : storeT Go.Proofs.Tryd.prog h 46 id off v = @thn _ _ (h.blk id) ⟨fun b => cond (Nat.beq v.cells.length 1 && !b.ro) ((b.storeA off v.cells).map fun b' => h.put id (.cells b')) none⟩ := by kernel_rfl
attribute [go_sem] st_46
theorem part_46 (cs : List CV) (off : Nat) : partT Go.Proofs.Tryd.prog 46 cs off = nth cs off := by kernel_rfl
attribute [go_sem] part_46
theorem ze_46 : zeroT Go.Proofs.Tryd.prog 46 = some (.nilf) := by kernel_rfl
attribute [go_sem] ze_46
theorem eq_46 (xo yo : Operand) (f : Fn) (a b : List CV) : binT Go.Proofs.Tryd.prog .eql 46 xo yo (.fn f a b) .nilf = some (.bool false) := by kernel_rfl
attribute [go_sem] eq_46
theorem eq_46_n (xo yo : Operand) : binT Go.Proofs.Tryd.prog .eql 46 xo yo .nilf .nilf = some (.bool true) := by kernel_rfl
attribute [go_sem] eq_46_n
theorem ne_46 (xo yo : Operand) (f : Fn) (a b : List CV) : binT Go.Proofs.Tryd.prog .neq 46 xo yo (.fn f a b) .nilf = some (.bool true) := by kernel_rfl
attribute [go_sem] ne_46
theorem ne_46_n (xo yo : Operand) : binT Go.Proofs.Tryd.prog .neq 46 xo yo .nilf .nilf = some (.bool false) := by kernel_rfl
attribute [go_sem] ne_46_n
theorem sz_47 : szOf Go.Proofs.Tryd.prog 47 = some 1 := by kernel_rfl
attribute [go_sem] sz_47
theorem ld_47 (h : H) (id off : Nat) : loadT Go.Proofs.Tryd.prog h 47 id off = @thn _ _ (h.blk id) ⟨fun b => b.get off⟩ := by kernel_rfl
attribute [go_sem] ld_47
theorem st_47 (h : H) (id off : Nat) (v : CV) : storeT Go.Proofs.Tryd.prog h 47 id off v = @thn _ _ (h.blk id) ⟨fun b => cond (Nat.beq v.cells.length 1 && !b.ro) ((b.storeA off v.cells).map fun b' => h.put id (.cells b')) none⟩ := by kernel_rfl
attribute [go_sem] st_47
theorem part_47 (cs : List CV) (off : Nat) : partT Go.Proofs.Tryd.prog 47 cs off = nth cs off := by kernel_rfl
attribute [go_sem] part_47
theorem ze_47 : zeroT Go.Proofs.Tryd.prog 47 = some (.nilf) := by kernel_rfl
attribute [go_sem] ze_47
theorem eq_47 (xo yo : Operand) (f : Fn) (a b : List CV) : binT Go.Proofs.Tryd.prog .eql 47 xo yo (.fn f a b) .nilf = some (.bool false) := by kernel_rfl
attribute [go_sem] eq_47
theorem eq_47_n (xo yo : Operand) : binT Go.Proofs.Tryd.prog .eql 47 xo yo .nilf .nilf = some (.bool true) := by kernel_rfl
attribute [go_sem] eq_47_n
theorem ne_47 (xo yo : Operand) (f : Fn) (a b : List CV) : binT Go.Proofs.Tryd.prog .neq 47 xo yo (.fn f a b) .nilf = some (.bool true) := by kernel_rfl
attribute [go_sem] ne_47
theorem ne_47_n (xo yo : Operand) : binT Go.Proofs.Tryd.prog .neq 47 xo yo .nilf .nilf = some (.bool false) := by kernel_rfl
attribute [go_sem] ne_47_n
theorem sz_48 : szOf Go.Proofs.Tryd.prog 48 = some 3 := by kernel_rfl
attribute [go_sem] sz_48
theorem ld_48 (h : H) (id off : Nat) : loadT Go.Proofs.Tryd.prog h 48 id off = @thn _ _ (h.blk id) ⟨fun b => (b.loadN off 3).map .agg⟩ := by kernel_rfl
attribute [go_sem] ld_48
theorem st_48 (h : H) (id off : Nat) (v : CV) : storeT Go.Proofs.Tryd.prog h 48 id off v = @thn _ _ (h.blk id) ⟨fun b => cond (Nat.beq v.cells.length 3 && !b.ro) ((b.storeA off v.cells).map fun b' => h.put id (.cells b')) none⟩ := by kernel_rfl
attribute [go_sem] st_48
theorem part_48 (cs : List CV) (off : Nat) : partT Go.Proofs.Tryd.prog 48 cs off = some (.agg ((cs.drop off).take 3)) := by kernel_rfl
attribute [go_sem] part_48
theorem ze_48 : zeroT Go.Proofs.Tryd.prog 48 = some (.agg [.int .u64 0, .int .u64 0, .nils]) := by kernel_rfl
attribute [go_sem] ze_48
theorem bt_48 (parts : List (Nat × CV)) : buildT Go.Proofs.Tryd.prog 48 parts = finB (CV.cells (.agg [.int .u64 0, .int .u64 0, .nils])) (nth [(0, 1), (1, 1), (2, 1)]) parts := by kernel_rfl
attribute [go_sem] bt_48
theorem fa_48_0 (id off : Nat) : fieldAddrT Go.Proofs.Tryd.prog 48 (.ptr id off) 0 = some (.ptr id (off)) := by kernel_rfl
attribute [go_sem] fa_48_0
theorem fd_48_0 (cs : List CV) : fieldT Go.Proofs.Tryd.prog 48 (.agg cs) 0 = partT Go.Proofs.Tryd.prog 36 cs 0 := by kernel_rfl
attribute [go_sem] fd_48_0
theorem fa_48_1 (id off : Nat) : fieldAddrT Go.Proofs.Tryd.prog 48 (.ptr id off) 1 = some (.ptr id (off + 1)) := by kernel_rfl
attribute [go_sem] fa_48_1
theorem fd_48_1 (cs : List CV) : fieldT Go.Proofs.Tryd.prog 48 (.agg cs) 1 = partT Go.Proofs.Tryd.prog 36 cs 1 := by kernel_rfl
attribute [go_sem] fd_48_1
theorem fa_48_2 (id off : Nat) : fieldAddrT Go.Proofs.Tryd.prog 48 (.ptr id off) 2 = some (.ptr id (off + 2)) := by kernel_rfl
attribute [go_sem] fa_48_2
theorem fd_48_2 (cs : List CV) : fieldT Go.Proofs.Tryd.prog 48 (.agg cs) 2 = partT Go.Proofs.Tryd.prog 34 cs 2 := by kernel_rfl
attribute [go_sem] fd_48_2
theorem sz_49 : szOf Go.Proofs.Tryd.prog 49 = some 3 := by kernel_rfl
attribute [go_sem] sz_49
theorem ld_49 (h : H) (id off : Nat) : loadT Go.Proofs.Tryd.prog h 49 id off = @thn _ _ (h.blk id) ⟨fun b => (b.loadN off 3).map .agg⟩ := by kernel_rfl
attribute [go_sem] ld_49
theorem st_49 (h : H) (id off : Nat) (v : CV) : storeT Go.Proofs.Tryd.prog h 49 id off v = @thn _ _ (h.blk id) ⟨fun b => cond (Nat.beq v.cells.length 3 && !b.ro) ((b.storeA off v.cells).map fun b' => h.put id (.cells b')) none⟩ := by kernel_rfl
attribute [go_sem] st_49
theorem part_49 (cs : List CV) (off : Nat) : partT Go.Proofs.Tryd.prog 49 cs off = some (.agg ((cs.drop off).take 3)) := by kernel_rfl
attribute [go_sem] part_49
theorem ze_49 : zeroT Go.Proofs.Tryd.prog 49 = some (.agg [.int .u64 0, .int .u64 0, .nils]) := by kernel_rfl
attribute [go_sem] ze_49
theorem bt_49 (parts : List (Nat × CV)) : buildT Go.Proofs.Tryd.prog 49 parts = finB (CV.cells (.agg [.int .u64 0, .int .u64 0, .nils])) (nth [(0, 1), (1, 1), (2, 1)]) parts := by kernel_rfl
attribute [go_sem] bt_49
theorem fa_49_0 (id off : Nat) : fieldAddrT Go.Proofs.Tryd.prog 49 (.ptr id off) 0 = some (.ptr id (off)) := by kernel_rfl
attribute [go_sem] fa_49_0
theorem fd_49_0 (cs : List CV) : fieldT Go.Proofs.Tryd.prog 49 (.agg cs) 0 = partT Go.Proofs.Tryd.prog 36 cs 0 := by kernel_rfl
attribute [go_sem] fd_49_0
theorem fa_49_1 (id off : Nat) : fieldAddrT Go.Proofs.Tryd.prog 49 (.ptr id off) 1 = some (.ptr id (off + 1)) := by kernel_rfl
attribute [go_sem] fa_49_1
theorem fd_49_1 (cs : List CV) : fieldT Go.Proofs.Tryd.prog 49 (.agg cs) 1 = partT Go.Proofs.Tryd.prog 36 cs 1 := by kernel_rfl
attribute [go_sem] fd_49_1
theorem fa_49_2 (id off : Nat) : fieldAddrT Go.Proofs.Tryd.prog 49 (.ptr id off) 2 = some (.ptr id (off + 2)) := by kernel_rfl
attribute [go_sem] fa_49_2
theorem fd_49_2 (cs : List CV) : fieldT Go.Proofs.Tryd.prog 49 (.agg cs) 2 = partT Go.Proofs.Tryd.prog 34 cs 2 := by kernel_rfl
attribute [go_sem] fd_49_2
theorem sz_50 : szOf Go.Proofs.Tryd.prog 50 = some 1 := by kernel_rfl
attribute [go_sem] sz_50
theorem ld_50 (h : H) (id off : Nat) : loadT Go.Proofs.Tryd.prog h 50 id off = @thn _ _ (h.blk id) ⟨fun b => b.get off⟩ := by kernel_rfl
attribute [go_sem] ld_50
theorem st_50 (h : H) (id off : Nat) (v : CV) : storeT Go.Proofs.Tryd.prog h 50 id off v = @thn _ _ (h.blk id) ⟨fun b => cond (Nat.beq v.cells.length 1 && !b.ro) ((b.storeA off v.cells).map fun b' => h.put id (.cells b')) none⟩ := by kernel_rfl
attribute [go_sem] st_50
theorem part_50 (cs : List CV) (off : Nat) : partT Go.Proofs.Tryd.prog 50 cs off = nth cs off := by kernel_rfl
attribute [go_sem] part_50
theorem ze_50 : zeroT Go.Proofs.Tryd.prog 50 = some (.nilf) := by kernel_rfl
attribute [go_sem] ze_50
theorem eq_50 (xo yo : Operand) (f : Fn) (a b : List CV) : binT Go.Proofs.Tryd.prog .eql 50 xo yo (.fn f a b) .nilf = some (.bool false) := by kernel_rfl
attribute [go_sem] eq_50
theorem eq_50_n (xo yo : Operand) : binT Go.Proofs.Tryd.prog .eql 50 xo yo .nilf .nilf = some (.bool true) := by kernel_rfl
attribute [go_sem] eq_50_n
theorem ne_50 (xo yo : Operand) (f : Fn) (a b : List CV) : binT Go.Proofs.Tryd.prog .neq 50 xo yo (.fn f a b) .nilf = some (.bool true) := by kernel_rfl
attribute [go_sem] ne_50
theorem ne_50_n (xo yo : Operand) : binT Go.Proofs.Tryd.prog .neq 50 xo yo .nilf .nilf = some (.bool false) := by kernel_rfl
attribute [go_sem] ne_50_n
theorem sz_51 : szOf Go.Proofs.Tryd.prog 51 = some 1 := by kernel_rfl
attribute [go_sem] sz_51
theorem ld_51 (h : H) (id off : Nat) : loadT Go.Proofs.Tryd.prog h 51 id off = @thn _ _ (h.blk id) ⟨fun b => b.get off⟩ := by kernel_rfl
attribute [go_sem] ld_51
theorem st_51 (h : H) (id off : Nat) (v : CV) : storeT Go.Proofs.Tryd.prog h 51 id off v = @thn _ _ (h.blk id) ⟨fun b => cond (Nat.beq v.cells.length 1 && !b.ro) ((b.storeA off v.cells).map fun b' => h.put id (.cells b')) none⟩ := by kernel_rfl
attribute [go_sem] st_51
theorem part_51 (cs : List CV) (off : Nat) : partT Go.Proofs.Tryd.prog 51 cs off = nth cs off := by kernel_rfl
attribute [go_sem] part_51
theorem ze_51 : zeroT Go.Proofs.Tryd.prog 51 = some (.nils) := by kernel_rfl
attribute [go_sem] ze_51
theorem ia_51 (id off len k : Nat) (c : Cap) (kd : IntKind) : indexAddrT Go.Proofs.Tryd.prog 51 (.sl id off len c) (.int kd (Int.ofNat k)) = cond (Nat.blt k len) (some (.ptr id (off + k * 2))) none := by kernel_rfl
attribute [go_sem] ia_51
theorem len_51 (h : H) (id off len : Nat) (c : Cap) (ts : List TypeId) (az : List CV) : builtinT Go.Proofs.Tryd.prog h .len (51 :: ts) (.sl id off len c :: az) = some (.val (.int .i64 (Int.ofNat len))) := by kernel_rfl
attribute [go_sem] len_51
theorem len_51_n (h : H) (ts : List TypeId) (az : List CV) : builtinT Go.Proofs.Tryd.prog h .len (51 :: ts) (.nils :: az) = some (.val (.int .i64 0)) := by kernel_rfl
attribute [go_sem] len_51_n
theorem app_51 (h : H) (s : CV) (id off len : Nat) (c : Cap) (ts : List TypeId) (az : List CV) : builtinT Go.Proofs.Tryd.prog h .append (51 :: 51 :: ts) (s :: .sl id off len c :: az) = uv (appendT Go.Proofs.Tryd.prog h 51 s (.sl id off len c)) := by kernel_rfl
attribute [go_sem] app_51
theorem app_51_n (h : H) (s : CV) (ts : List TypeId) (az : List CV) : builtinT Go.Proofs.Tryd.prog h .append (51 :: 51 :: ts) (s :: .nils :: az) = uv (appendT Go.Proofs.Tryd.prog h 51 s .nils) := by kernel_rfl
attribute [go_sem] app_51_n
theorem ap_51 (h : H) (s : CV) (id off len : Nat) (c : Cap) : appendT Go.Proofs.Tryd.prog h 51 s (.sl id off len c) = appS h 2 32 2 s len (firstC h 2 len (.sl id off len c)) := by kernel_rfl
attribute [go_sem] ap_51
theorem ap_51_n (h : H) (s : CV) : appendT Go.Proofs.Tryd.prog h 51 s .nils = appS h 2 32 2 s 0 (some []) := by kernel_rfl
attribute [go_sem] ap_51_n
theorem ap_51_z (h : H) (s : CV) (a b c d : Nat) : appendT Go.Proofs.Tryd.prog h 51 s (.sl0 a b c d) = appS h 2 32 2 s 0 (some []) := by kernel_rfl
attribute [go_sem] ap_51_z
theorem bs_51 (h : H) (n : Nat) (parts : List (Nat × CV)) : buildSliceT Go.Proofs.Tryd.prog h 51 n parts = bslS h 2 (CV.cells (.agg [.int .u64 0, .nils])) n parts := by kernel_rfl
attribute [go_sem] bs_51
theorem ms_51 (h : H) (l c : Nat) (k k' : IntKind) : makeSliceT Go.Proofs.Tryd.prog h 51 (.int k (Int.ofNat l)) (.int k' (Int.ofNat c)) = mkS h 2 32 (zeroT Go.Proofs.Tryd.prog 81) l c := by kernel_rfl
attribute [go_sem] ms_51
theorem eq_51 (xo yo : Operand) (a b c : Nat) (d : Cap) : binT Go.Proofs.Tryd.prog .eql 51 xo yo (.sl a b c d) .nils = some (.bool false) := by kernel_rfl
attribute [go_sem] eq_51
theorem eq_51_n (xo yo : Operand) : binT Go.Proofs.Tryd.prog .eql 51 xo yo .nils .nils = some (.bool true) := by kernel_rfl
attribute [go_sem] eq_51_n
theorem eq_51_z (xo yo : Operand) (a b c d : Nat) : binT Go.Proofs.Tryd.prog .eql 51 xo yo (.sl0 a b c d) .nils = some (.bool false) := by kernel_rfl
attribute [go_sem] eq_51_z
theorem ne_51 (xo yo : Operand) (a b c : Nat) (d : Cap) : binT Go.Proofs.Tryd.prog .neq 51 xo yo (.sl a b c d) .nils = some (.bool true) := by kernel_rfl
attribute [go_sem] ne_51
theorem ne_51_n (xo yo : Operand) : binT Go.Proofs.Tryd.prog .neq 51 xo yo .nils .nils = some (.bool false) := by kernel_rfl
attribute [go_sem] ne_51_n
theorem ne_51_z (xo yo : Operand) (a b c d : Nat) : binT Go.Proofs.Tryd.prog .neq 51 xo yo (.sl0 a b c d) .nils = some (.bool true) := by kernel_rfl
attribute [go_sem] ne_51_z
theorem len_51_z (h : H) (a b c d : Nat) (ts : List TypeId) (az : List CV) : builtinT Go.Proofs.Tryd.prog h .len (51 :: ts) (.sl0 a b c d :: az) = some (.val (.int .i64 0)) := by kernel_rfl
attribute [go_sem] len_51_z
theorem app_51_z (h : H) (s : CV) (a b c d : Nat) (ts : List TypeId) (az : List CV) : builtinT Go.Proofs.Tryd.prog h .append (51 :: 51 :: ts) (s :: .sl0 a b c d :: az) = uv (appendT Go.Proofs.Tryd.prog h 51 s (.sl0 a b c d)) := by kernel_rfl
attribute [go_sem] app_51_z
theorem sz_52 : szOf Go.Proofs.Tryd.prog 52 = some 8 := by kernel_rfl
attribute [go_sem] sz_52
theorem ld_52 (h : H) (id off : Nat) : loadT Go.Proofs.Tryd.prog h 52 id off = @thn _ _ (h.blk id) ⟨fun b => (b.loadN off 8).map .agg⟩ := by kernel_rfl
attribute [go_sem] ld_52
theorem st_52 (h : H) (id off : Nat) (v : CV) : storeT Go.Proofs.Tryd.prog h 52 id off v = @thn _ _ (h.blk id) ⟨fun b => cond (Nat.beq v.cells.length 8 && !b.ro) ((b.storeA off v.cells).map fun b' => h.put id (.cells b')) none⟩ := by kernel_rfl
attribute [go_sem] st_52
theorem part_52 (cs : List CV) (off : Nat) : partT Go.Proofs.Tryd.prog 52 cs off = some (.agg ((cs.drop off).take 8)) := by kernel_rfl
attribute [go_sem] part_52
theorem ze_52 : zeroT Go.Proofs.Tryd.prog 52 = some (.agg [.int .i64 0, .int .u64 0, .int .u64 0, .nils, .int .u64 0, .int .u64 0, .int .i64 0, .nils]) := by kernel_rfl
attribute [go_sem] ze_52
theorem bt_52 (parts : List (Nat × CV)) : buildT Go.Proofs.Tryd.prog 52 parts = finB (CV.cells (.agg [.int .i64 0, .int .u64 0, .int .u64 0, .nils, .int .u64 0, .int .u64 0, .int .i64 0, .nils])) (nth [(0, 1), (1, 1), (2, 1), (3, 1), (4, 1), (5, 1), (6, 1), (7, 1)]) parts := by kernel_rfl
attribute [go_sem] bt_52
theorem fa_52_0 (id off : Nat) : fieldAddrT Go.Proofs.Tryd.prog 52 (.ptr id off) 0 = some (.ptr id (off)) := by kernel_rfl
attribute [go_sem] fa_52_0
theorem fd_52_0 (cs : List CV) : fieldT Go.Proofs.Tryd.prog 52 (.agg cs) 0 = partT Go.Proofs.Tryd.prog 42 cs 0 := by kernel_rfl
attribute [go_sem] fd_52_0
theorem fa_52_1 (id off : Nat) : fieldAddrT Go.Proofs.Tryd.prog 52 (.ptr id off) 1 = some (.ptr id (off + 1)) := by kernel_rfl
attribute [go_sem] fa_52_1
theorem fd_52_1 (cs : List CV) : fieldT Go.Proofs.Tryd.prog 52 (.agg cs) 1 = partT Go.Proofs.Tryd.prog 36 cs 1 := by kernel_rfl
attribute [go_sem] fd_52_1
theorem fa_52_2 (id off : Nat) : fieldAddrT Go.Proofs.Tryd.prog 52 (.ptr id off) 2 = some (.ptr id (off + 2)) := by kernel_rfl
attribute [go_sem] fa_52_2
theorem fd_52_2 (cs : List CV) : fieldT Go.Proofs.Tryd.prog 52 (.agg cs) 2 = partT Go.Proofs.Tryd.prog 36 cs 2 := by kernel_rfl
attribute [go_sem] fd_52_2
theorem fa_52_3 (id off : Nat) : fieldAddrT Go.Proofs.Tryd.prog 52 (.ptr id off) 3 = some (.ptr id (off + 3)) := by kernel_rfl
attribute [go_sem] fa_52_3
theorem fd_52_3 (cs : List CV) : fieldT Go.Proofs.Tryd.prog 52 (.agg cs) 3 = partT Go.Proofs.Tryd.prog 51 cs 3 := by kernel_rfl
attribute [go_sem] fd_52_3
theorem fa_52_4 (id off : Nat) : fieldAddrT Go.Proofs.Tryd.prog 52 (.ptr id off) 4 = some (.ptr id (off + 4)) := by kernel_rfl
attribute [go_sem] fa_52_4
theorem fd_52_4 (cs : List CV) : fieldT Go.Proofs.Tryd.prog 52 (.agg cs) 4 = partT Go.Proofs.Tryd.prog 36 cs 4 := by kernel_rfl
attribute [go_sem] fd_52_4
theorem fa_52_5 (id off : Nat) : fieldAddrT Go.Proofs.Tryd.prog 52 (.ptr id off) 5 = some (.ptr id (off + 5)) := by kernel_rfl
attribute [go_sem] fa_52_5
theorem fd_52_5 (cs : List CV) : fieldT Go.Proofs.Tryd.prog 52 (.agg cs) 5 = partT Go.Proofs.Tryd.prog 36 cs 5 := by kernel_rfl
attribute [go_sem] fd_52_5
theorem fa_52_6 (id off : Nat) : fieldAddrT Go.Proofs.Tryd.prog 52 (.ptr id off) 6 = some (.ptr id (off + 6)) := by kernel_rfl
attribute [go_sem] fa_52_6
theorem fd_52_6 (cs : List CV) : fieldT Go.Proofs.Tryd.prog 52 (.agg cs) 6 = partT Go.Proofs.Tryd.prog 3 cs 6 := by kernel_rfl
attribute [go_sem] fd_52_6
theorem fa_52_7 (id off : Nat) : fieldAddrT Go.Proofs.Tryd.prog 52 (.ptr id off) 7 = some (.ptr id (off + 7)) := by kernel_rfl
attribute [go_sem] fa_52_7
theorem fd_52_7 (cs : List CV) : fieldT Go.Proofs.Tryd.prog 52 (.agg cs) 7 = partT Go.Proofs.Tryd.prog 34 cs 7 := by kernel_rfl
attribute [go_sem] fd_52_7
theorem sz_53 : szOf Go.Proofs.Tryd.prog 53 = some 8 := by kernel_rfl
attribute [go_sem] sz_53
theorem ld_53 (h : H) (id off : Nat) : loadT Go.Proofs.Tryd.prog h 53 id off = @thn _ _ (h.blk id) ⟨fun b => (b.loadN off 8).map .agg⟩ := by kernel_rfl
attribute [go_sem] ld_53
theorem st_53 (h : H) (id off : Nat) (v : CV) : storeT Go.Proofs.Tryd.prog h 53 id off v = @thn _ _ (h.blk id) ⟨fun b => cond (Nat.beq v.cells.length 8 && !b.ro) ((b.storeA off v.cells).map fun b' => h.put id (.cells b')) none⟩ := by kernel_rfl
attribute [go_sem] st_53
theorem part_53 (cs : List CV) (off : Nat) : partT Go.Proofs.Tryd.prog 53 cs off = some (.agg ((cs.drop off).take 8)) := by kernel_rfl
attribute [go_sem] part_53
theorem ze_53 : zeroT Go.Proofs.Tryd.prog 53 = some (.agg [.int .i64 0, .int .u64 0, .int .u64 0, .nils, .int .u64 0, .int .u64 0, .int .i64 0, .nils]) := by kernel_rfl
attribute [go_sem] ze_53
theorem bt_53 (parts : List (Nat × CV)) : buildT Go.Proofs.Tryd.prog 53 parts = finB (CV.cells (.agg [.int .i64 0, .int .u64 0, .int .u64 0, .nils, .int .u64 0, .int .u64 0, .int .i64 0, .nils])) (nth [(0, 1), (1, 1), (2, 1), (3, 1), (4, 1), (5, 1), (6, 1), (7, 1)]) parts := by kernel_rfl
attribute [go_sem] bt_53
theorem fa_53_0 (id off : Nat) : fieldAddrT Go.Proofs.Tryd.prog 53 (.ptr id off) 0 = some (.ptr id (off)) := by kernel_rfl
attribute [go_sem] fa_53_0
theorem fd_53_0 (cs : List CV) : fieldT Go.Proofs.Tryd.prog 53 (.agg cs) 0 = partT Go.Proofs.Tryd.prog 42 cs 0 := by kernel_rfl
attribute [go_sem] fd_53_0
theorem fa_53_1 (id off : Nat) : fieldAddrT Go.Proofs.Tryd.prog 53 (.ptr id off) 1 = some (.ptr id (off + 1)) := by kernel_rfl
attribute [go_sem] fa_53_1
theorem fd_53_1 (cs : List CV) : fieldT Go.Proofs.Tryd.prog 53 (.agg cs) 1 = partT Go.Proofs.Tryd.prog 36 cs 1 := by kernel_rfl
attribute [go_sem] fd_53_1
theorem fa_53_2 (id off : Nat) : fieldAddrT Go.Proofs.Tryd.prog 53 (.ptr id off) 2 = some (.ptr id (off + 2)) := by kernel_rfl
attribute [go_sem] fa_53_2
theorem fd_53_2 (cs : List CV) : fieldT Go.Proofs.Tryd.prog 53 (.agg cs) 2 = partT Go.Proofs.Tryd.prog 36 cs 2 := by kernel_rfl
attribute [go_sem] fd_53_2
theorem fa_53_3 (id off : Nat) : fieldAddrT Go.Proofs.Tryd.prog 53 (.ptr id off) 3 = some (.ptr id (off + 3)) := by kernel_rfl
attribute [go_sem] fa_53_3
theorem fd_53_3 (cs : List CV) : fieldT Go.Proofs.Tryd.prog 53 (.agg cs) 3 = partT Go.Proofs.Tryd.prog 51 cs 3 := by kernel_rfl
attribute [go_sem] fd_53_3
theorem fa_53_4 (id off : Nat) : fieldAddrT Go.Proofs.Tryd.prog 53 (.ptr id off) 4 = some (.ptr id (off + 4)) := by kernel_rfl
attribute [go_sem] fa_53_4
theorem fd_53_4 (cs : List CV) : fieldT Go.Proofs.Tryd.prog 53 (.agg cs) 4 = partT Go.Proofs.Tryd.prog 36 cs 4 := by kernel_rfl
attribute [go_sem] fd_53_4
theorem fa_53_5 (id off : Nat) : fieldAddrT Go.Proofs.Tryd.prog 53 (.ptr id off) 5 = some (.ptr id (off + 5)) := by kernel_rfl
attribute [go_sem] fa_53_5
theorem fd_53_5 (cs : List CV) : fieldT Go.Proofs.Tryd.prog 53 (.agg cs) 5 = partT Go.Proofs.Tryd.prog 36 cs 5 := by kernel_rfl
attribute [go_sem] fd_53_5
theorem fa_53_6 (id off : Nat) : fieldAddrT Go.Proofs.Tryd.prog 53 (.ptr id off) 6 = some (.ptr id (off + 6)) := by kernel_rfl
attribute [go_sem] fa_53_6
theorem fd_53_6 (cs : List CV) : fieldT Go.Proofs.Tryd.prog 53 (.agg cs) 6 = partT Go.Proofs.Tryd.prog 3 cs 6 := by kernel_rfl
attribute [go_sem] fd_53_6
theorem fa_53_7 (id off : Nat) : fieldAddrT Go.Proofs.Tryd.prog 53 (.ptr id off) 7 = some (.ptr id (off + 7)) := by kernel_rfl
attribute [go_sem] fa_53_7
theorem fd_53_7 (cs : List CV) : fieldT Go.Proofs.Tryd.prog 53 (.agg cs) 7 = partT Go.Proofs.Tryd.prog 34 cs 7 := by kernel_rfl
attribute [go_sem] fd_53_7
theorem sz_54 : szOf Go.Proofs.Tryd.prog 54 = some 1 := by kernel_rfl
attribute [go_sem] sz_54
theorem ld_54 (h : H) (id off : Nat) : loadT Go.Proofs.Tryd.prog h 54 id off = @thn _ _ (h.blk id) ⟨fun b => b.get off⟩ := by kernel_rfl
attribute [go_sem] ld_54
theorem st_54 (h : H) (id off : Nat) (v : CV) : storeT Go.Proofs.Tryd.prog h 54 id off v = @thn _ _ (h.blk id) ⟨fun b => cond (Nat.beq v.cells.length 1 && !b.ro) ((b.storeA off v.cells).map fun b' => h.put id (.cells b')) none⟩ := by kernel_rfl
attribute [go_sem] st_54
theorem part_54 (cs : List CV) (off : Nat) : partT Go.Proofs.Tryd.prog 54 cs off = nth cs off := by kernel_rfl
attribute [go_sem] part_54
theorem ze_54 : zeroT Go.Proofs.Tryd.prog 54 = some (.nilf) := by kernel_rfl
attribute [go_sem] ze_54
theorem eq_54 (xo yo : Operand) (f : Fn) (a b : List CV) : binT Go.Proofs.Tryd.prog .eql 54 xo yo (.fn f a b) .nilf = some (.bool false) := by kernel_rfl
attribute [go_sem] eq_54
theorem eq_54_n (xo yo : Operand) : binT Go.Proofs.Tryd.prog .eql 54 xo yo .nilf .nilf = some (.bool true) := by kernel_rfl
attribute [go_sem] eq_54_n
theorem ne_54 (xo yo : Operand) (f : Fn) (a b : List CV) : binT Go.Proofs.Tryd.prog .neq 54 xo yo (.fn f a b) .nilf = some (.bool true) := by kernel_rfl
attribute [go_sem] ne_54
theorem ne_54_n (xo yo : Operand) : binT Go.Proofs.Tryd.prog .neq 54 xo yo .nilf .nilf = some (.bool false) := by kernel_rfl
attribute [go_sem] ne_54_n
theorem sz_55 : szOf Go.Proofs.Tryd.prog 55 = some 1 := by kernel_rfl
attribute [go_sem] sz_55
theorem ld_55 (h : H) (id off : Nat) : loadT Go.Proofs.Tryd.prog h 55 id off = @thn _ _ (h.blk id) ⟨fun b => b.get off⟩ := by kernel_rfl
attribute [go_sem] ld_55
theorem st_55 (h : H) (id off : Nat) (v : CV) : storeT Go.Proofs.Tryd.prog h 55 id off v = @thn _ _ (h.blk id) ⟨fun b => cond (Nat.beq v.cells.length 1 && !b.ro) ((b.storeA off v.cells).map fun b' => h.put id (.cells b')) none⟩ := by kernel_rfl
attribute [go_sem] st_55
theorem part_55 (cs : List CV) (off : Nat) : partT Go.Proofs.Tryd.prog 55 cs off = nth cs off := by kernel_rfl
attribute [go_sem] part_55
theorem ze_55 : zeroT Go.Proofs.Tryd.prog 55 = some (.int .i64 0) := by kernel_rfl
attribute [go_sem] ze_55
theorem sz_56 : szOf Go.Proofs.Tryd.prog 56 = some 1 := by kernel_rfl
attribute [go_sem] sz_56
theorem ld_56 (h : H) (id off : Nat) : loadT Go.Proofs.Tryd.prog h 56 id off = @thn _ _ (h.blk id) ⟨fun b => b.get off⟩ := by kernel_rfl
attribute [go_sem] ld_56
theorem st_56 (h : H) (id off : Nat) (v : CV) : storeT Go.Proofs.Tryd.prog h 56 id off v = @thn _ _ (h.blk id) ⟨fun b => cond (Nat.beq v.cells.length 1 && !b.ro) ((b.storeA off v.cells).map fun b' => h.put id (.cells b')) none⟩ := by kernel_rfl
attribute [go_sem] st_56
theorem part_56 (cs : List CV) (off : Nat) : partT Go.Proofs.Tryd.prog 56 cs off = nth cs off := by kernel_rfl
attribute [go_sem] part_56
theorem sz_57 : szOf Go.Proofs.Tryd.prog 57 = some 1 := by kernel_rfl
attribute [go_sem] sz_57
theorem ld_57 (h : H) (id off : Nat) : loadT Go.Proofs.Tryd.prog h 57 id off = @thn _ _ (h.blk id) ⟨fun b => b.get off⟩ := by kernel_rfl
attribute [go_sem] ld_57
theorem st_57 (h : H) (id off : Nat) (v : CV) : storeT Go.Proofs.Tryd.prog h 57 id off v = @thn _ _ (h.blk id) ⟨fun b => cond (Nat.beq v.cells.length 1 && !b.ro) ((b.storeA off v.cells).map fun b' => h.put id (.cells b')) none⟩ := by kernel_rfl
attribute [go_sem] st_57
theorem part_57 (cs : List CV) (off : Nat) : partT Go.Proofs.Tryd.prog 57 cs off = nth cs off := by kernel_rfl
attribute [go_sem] part_57
theorem ze_57 : zeroT Go.Proofs.Tryd.prog 57 = some (.nilf) := by kernel_rfl
attribute [go_sem] ze_57
theorem eq_57 (xo yo : Operand) (f : Fn) (a b : List CV) : binT Go.Proofs.Tryd.prog .eql 57 xo yo (.fn f a b) .nilf = some (.bool false) := by kernel_rfl
attribute [go_sem] eq_57
theorem eq_57_n (xo yo : Operand) : binT Go.Proofs.Tryd.prog .eql 57 xo yo .nilf .nilf = some (.bool true) := by kernel_rfl
attribute [go_sem] eq_57_n
theorem ne_57 (xo yo : Operand) (f : Fn) (a b : List CV) : binT Go.Proofs.Tryd.prog .neq 57 xo yo (.fn f a b) .nilf = some (.bool true) := by kernel_rfl
attribute [go_sem] ne_57
theorem ne_57_n (xo yo : Operand) : binT Go.Proofs.Tryd.prog .neq 57 xo yo .nilf .nilf = some (.bool false) := by kernel_rfl
attribute [go_sem] ne_57_n
theorem sz_58 : szOf Go.Proofs.Tryd.prog 58 = some 1 := by kernel_rfl
attribute [go_sem] sz_58
theorem ld_58 (h : H) (id off : Nat) : loadT Go.Proofs.Tryd.prog h 58 id off = @thn _ _ (h.blk id) ⟨fun b => b.get off⟩ := by kernel_rfl
attribute [go_sem] ld_58
theorem st_58 (h : H) (id off : Nat) (v : CV) : storeT Go.Proofs.Tryd.prog h 58 id off v = @thn _ _ (h.blk id) ⟨fun b => cond (Nat.beq v.cells.length 1 && !b.ro) ((b.storeA off v.cells).map fun b' => h.put id (.cells b')) none⟩ := by kernel_rfl
attribute [go_sem] st_58
theorem part_58 (cs : List CV) (off : Nat) : partT Go.Proofs.Tryd.prog 58 cs off = nth cs off := by kernel_rfl
attribute [go_sem] part_58
theorem ze_58 : zeroT Go.Proofs.Tryd.prog 58 = some (.nilf) := by kernel_rfl
attribute [go_sem] ze_58
theorem eq_58 (xo yo : Operand) (f : Fn) (a b : List CV) : binT Go.Proofs.Tryd.prog .eql 58 xo yo (.fn f a b) .nilf = some (.bool false) := by kernel_rfl
attribute [go_sem] eq_58
theorem eq_58_n (xo yo : Operand) : binT Go.Proofs.Tryd.prog .eql 58 xo yo .nilf .nilf = some (.bool true) := by kernel_rfl
attribute [go_sem] eq_58_n
theorem ne_58 (xo yo : Operand) (f : Fn) (a b : List CV) : binT Go.Proofs.Tryd.prog .neq 58 xo yo (.fn f a b) .nilf = some (.bool true) := by kernel_rfl
attribute [go_sem] ne_58
theorem ne_58_n (xo yo : Operand) : binT Go.Proofs.Tryd.prog .neq 58 xo yo .nilf .nilf = some (.bool false) := by kernel_rfl
attribute [go_sem] ne_58_n
theorem sz_59 : szOf Go.Proofs.Tryd.prog 59 = some 1 := by kernel_rfl
attribute [go_sem] sz_59
theorem ld_59 (h : H) (id off : Nat) : loadT Go.Proofs.Tryd.prog h 59 id off = @thn _ _ (h.blk id) ⟨fun b => b.get off⟩ := by kernel_rfl
attribute [go_sem] ld_59
theorem st_59 (h : H) (id off : Nat) (v : CV) : storeT Go.Proofs.Tryd.prog h 59 id off v = @thn _ _ (h.blk id) ⟨fun b => cond (Nat.beq v.cells.length 1 && !b.ro) ((b.storeA off v.cells).map fun b' => h.put id (.cells b')) none⟩ := by kernel_rfl
attribute [go_sem] st_59
theorem part_59 (cs : List CV) (off : Nat) : partT Go.Proofs.Tryd.prog 59 cs off = nth cs off := by kernel_rfl
attribute [go_sem] part_59
theorem ze_59 : zeroT Go.Proofs.Tryd.prog 59 = some (.int .i64 0) := by kernel_rfl
attribute [go_sem] ze_59
theorem sz_60 : szOf Go.Proofs.Tryd.prog 60 = some 1 := by kernel_rfl
attribute [go_sem] sz_60
theorem ld_60 (h : H) (id off : Nat) : loadT Go.Proofs.Tryd.prog h 60 id off = @thn _ _ (h.blk id) ⟨fun b => b.get off⟩ := by kernel_rfl
attribute [go_sem] ld_60
theorem st_60 (h : H) (id off : Nat) (v : CV) : storeT Go.Proofs.Tryd.prog h 60 id off v = @thn _ _ (h.blk id) ⟨fun b => cond (Nat.beq v.cells.length 1 && !b.ro) ((b.storeA off v.cells).map fun b' => h.put id (.cells b')) none⟩ := by kernel_rfl
attribute [go_sem] st_60
theorem part_60 (cs : List CV) (off : Nat) : partT Go.Proofs.Tryd.prog 60 cs off = nth cs off := by kernel_rfl
attribute [go_sem] part_60
theorem ze_60 : zeroT Go.Proofs.Tryd.prog 60 = some (.nilf) := by kernel_rfl
attribute [go_sem] ze_60
theorem eq_60 (xo yo : Operand) (f : Fn) (a b : List CV) : binT Go.Proofs.Tryd.prog .eql 60 xo yo (.fn f a b) .nilf = some (.bool false) := by kernel_rfl
attribute [go_sem] eq_60
theorem eq_60_n (xo yo : Operand) : binT Go.Proofs.Tryd.prog .eql 60 xo yo .nilf .nilf = some (.bool true) := by kernel_rfl
attribute [go_sem] eq_60_n
theorem ne_60 (xo yo : Operand) (f : Fn) (a b : List CV) : binT Go.Proofs.Tryd.prog .neq 60 xo yo (.fn f a b) .nilf = some (.bool true) := by kernel_rfl
attribute [go_sem] ne_60
theorem ne_60_n (xo yo : Operand) : binT Go.Proofs.Tryd.prog .neq 60 xo yo .nilf .nilf = some (.bool false) := by kernel_rfl
attribute [go_sem] ne_60_n
theorem sz_61 : szOf Go.Proofs.Tryd.prog 61 = some 1 := by kernel_rfl
attribute [go_sem] sz_61
theorem ld_61 (h : H) (id off : Nat) : loadT Go.Proofs.Tryd.prog h 61 id off = @thn _ _ (h.blk id) ⟨fun b => b.get off⟩ := by kernel_rfl
attribute [go_sem] ld_61
theorem st_61 (h : H) (id off : Nat) (v : CV) : storeT Go.Proofs.Tryd.prog h 61 id off v = @thn _ _ (h.blk id) ⟨fun b => cond (Nat.beq v.cells.length 1 && !b.ro) ((b.storeA off v.cells).map fun b' => h.put id (.cells b')) none⟩ := by kernel_rfl
attribute [go_sem] st_61
theorem part_61 (cs : List CV) (off : Nat) : partT Go.Proofs.Tryd.prog 61 cs off = nth cs off := by kernel_rfl
attribute [go_sem] part_61
theorem ze_61 : zeroT Go.Proofs.Tryd.prog 61 = some (.nilf) := by kernel_rfl
attribute [go_sem] ze_61
theorem eq_61 (xo yo : Operand) (f : Fn) (a b : List CV) : binT Go.Proofs.Tryd.prog .eql 61 xo yo (.fn f a b) .nilf = some (.bool false) := by kernel_rfl
attribute [go_sem] eq_61
theorem eq_61_n (xo yo : Operand) : binT Go.Proofs.Tryd.prog .eql 61 xo yo .nilf .nilf = some (.bool true) := by kernel_rfl
attribute [go_sem] eq_61_n
theorem ne_61 (xo yo : Operand) (f : Fn) (a b : List CV) : binT Go.Proofs.Tryd.prog .neq 61 xo yo (.fn f a b) .nilf = some (.bool true) := by kernel_rfl
attribute [go_sem] ne_61
theorem ne_61_n (xo yo : Operand) : binT Go.Proofs.Tryd.prog .neq 61 xo yo .nilf .nilf = some (.bool false) := by kernel_rfl
attribute [go_sem] ne_61_n
theorem sz_62 : szOf Go.Proofs.Tryd.prog 62 = some 1 := by kernel_rfl
attribute [go_sem] sz_62
theorem ld_62 (h : H) (id off : Nat) : loadT Go.Proofs.Tryd.prog h 62 id off = @thn _ _ (h.blk id) ⟨fun b => b.get off⟩ := by kernel_rfl
attribute [go_sem] ld_62
theorem st_62 (h : H) (id off : Nat) (v : CV) : storeT Go.Proofs.Tryd.prog h 62 id off v = @thn _ _ (h.blk id) ⟨fun b => cond (Nat.beq v.cells.length 1 && !b.ro) ((b.storeA off v.cells).map fun b' => h.put id (.cells b')) none⟩ := by kernel_rfl
attribute [go_sem] st_62
theorem part_62 (cs : List CV) (off : Nat) : partT Go.Proofs.Tryd.prog 62 cs off = nth cs off := by kernel_rfl
attribute [go_sem] part_62
theorem ze_62 : zeroT Go.Proofs.Tryd.prog 62 = some (.nilf) := by kernel_rfl
attribute [go_sem] ze_62
theorem eq_62 (xo yo : Operand) (f : Fn) (a b : List CV) : binT Go.Proofs.Tryd.prog .eql 62 xo yo (.fn f a b) .nilf = some (.bool false) := by kernel_rfl
attribute [go_sem] eq_62
theorem eq_62_n (xo yo : Operand) : binT Go.Proofs.Tryd.prog .eql 62 xo yo .nilf .nilf = some (.bool true) := by kernel_rfl
attribute [go_sem] eq_62_n
theorem ne_62 (xo yo : Operand) (f : Fn) (a b : List CV) : binT Go.Proofs.Tryd.prog .neq 62 xo yo (.fn f a b) .nilf = some (.bool true) := by kernel_rfl
attribute [go_sem] ne_62
theorem ne_62_n (xo yo : Operand) : binT Go.Proofs.Tryd.prog .neq 62 xo yo .nilf .nilf = some (.bool false) := by kernel_rfl
attribute [go_sem] ne_62_n
theorem sz_63 : szOf Go.Proofs.Tryd.prog 63 = some 1 := by kernel_rfl
attribute [go_sem] sz_63
theorem ld_63 (h : H) (id off : Nat) : loadT Go.Proofs.Tryd.prog h 63 id off = @thn _ _ (h.blk id) ⟨fun b => b.get off⟩ := by kernel_rfl
attribute [go_sem] ld_63
theorem st_63 (h : H) (id off : Nat) (v : CV) : storeT Go.Proofs.Tryd.prog h 63 id off v = @thn _ _ (h.blk id) ⟨fun b => cond (Nat.beq v.cells.length 1 && !b.ro) ((b.storeA off v.cells).map fun b' => h.put id (.cells b')) none⟩ := by kernel_rfl
attribute [go_sem] st_63
theorem part_63 (cs : List CV) (off : Nat) : partT Go.Proofs.Tryd.prog 63 cs off = nth cs off := by kernel_rfl
attribute [go_sem] part_63
theorem ze_63 : zeroT Go.Proofs.Tryd.prog 63 = some (.nilf) := by kernel_rfl
attribute [go_sem] ze_63
theorem eq_63 (xo yo : Operand) (f : Fn) (a b : List CV) : binT Go.Proofs.Tryd.prog .eql 63 xo yo (.fn f a b) .nilf = some (.bool false) := by kernel_rfl
attribute [go_sem] eq_63
theorem eq_63_n (xo yo : Operand) : binT Go.Proofs.Tryd.prog .eql 63 xo yo .nilf .nilf = some (.bool true) := by kernel_rfl
attribute [go_sem] eq_63_n
theorem ne_63 (xo yo : Operand) (f : Fn) (a b : List CV) : binT Go.Proofs.Tryd.prog .neq 63 xo yo (.fn f a b) .nilf = some (.bool true) := by kernel_rfl
attribute [go_sem] ne_63
theorem ne_63_n (xo yo : Operand) : binT Go.Proofs.Tryd.prog .neq 63 xo yo .nilf .nilf = some (.bool false) := by kernel_rfl
attribute [go_sem] ne_63_n
theorem sz_64 : szOf Go.Proofs.Tryd.prog 64 = some 1 := by kernel_rfl
attribute [go_sem] sz_64
theorem ld_64 (h : H) (id off : Nat) : loadT Go.Proofs.Tryd.prog h 64 id off = @thn _ _ (h.blk id) ⟨fun b => b.get off⟩ := by kernel_rfl
attribute [go_sem] ld_64
theorem st_64 (h : H) (id off : Nat) (v : CV) : storeT Go.Proofs.Tryd.prog h 64 id off v = @thn _ _ (h.blk id) ⟨fun b => cond (Nat.beq v.cells.length 1 && !b.ro) ((b.storeA off v.cells).map fun b' => h.put id (.cells b')) none⟩ := by kernel_rfl
attribute [go_sem] st_64
theorem part_64 (cs : List CV) (off : Nat) : partT Go.Proofs.Tryd.prog 64 cs off = nth cs off := by kernel_rfl
attribute [go_sem] part_64
theorem ze_64 : zeroT Go.Proofs.Tryd.prog 64 = some (.nilf) := by kernel_rfl
attribute [go_sem] ze_64
theorem eq_64 (xo yo : Operand) (f : Fn) (a b : List CV) : binT Go.Proofs.Tryd.prog .eql 64 xo yo (.fn f a b) .nilf = some (.bool false) := by kernel_rfl
attribute [go_sem] eq_64
theorem eq_64_n (xo yo : Operand) : binT Go.Proofs.Tryd.prog .eql 64 xo yo .nilf .nilf = some (.bool true) := by kernel_rfl
attribute [go_sem] eq_64_n
theorem ne_64 (xo yo : Operand) (f : Fn) (a b : List CV) : binT Go.Proofs.Tryd.prog .neq 64 xo yo (.fn f a b) .nilf = some (.bool true) := by kernel_rfl
attribute [go_sem] ne_64
theorem ne_64_n (xo yo : Operand) : binT Go.Proofs.Tryd.prog .neq 64 xo yo .nilf .nilf = some (.bool false) := by kernel_rfl
attribute [go_sem] ne_64_n
theorem sz_65 : szOf Go.Proofs.Tryd.prog 65 = some 1 := by kernel_rfl
attribute [go_sem] sz_65
theorem ld_65 (h : H) (id off : Nat) : loadT Go.Proofs.Tryd.prog h 65 id off = @thn _ _ (h.blk id) ⟨fun b => b.get off⟩ := by kernel_rfl
attribute [go_sem] ld_65
theorem st_65 (h : H) (id off : Nat) (v : CV) : storeT Go.Proofs.Tryd.prog h 65 id off v = @thn _ _ (h.blk id) ⟨fun b => cond (Nat.beq v.cells.length 1 && !b.ro) ((b.storeA off v.cells).map fun b' => h.put id (.cells b')) none⟩ := by kernel_rfl
attribute [go_sem] st_65
theorem part_65 (cs : List CV) (off : Nat) : partT Go.Proofs.Tryd.prog 65 cs off = nth cs off := by kernel_rfl
attribute [go_sem] part_65
theorem ze_65 : zeroT Go.Proofs.Tryd.prog 65 = some (.nilf) := by kernel_rfl
attribute [go_sem] ze_65
theorem eq_65 (xo yo : Operand) (f : Fn) (a b : List CV) : binT Go.Proofs.Tryd.prog .eql 65 xo yo (.fn f a b) .nilf = some (.bool false) := by kernel_rfl
attribute [go_sem] eq_65
theorem eq_65_n (xo yo : Operand) : binT Go.Proofs.Tryd.prog .eql 65 xo yo .nilf .nilf = some (.bool true) := by kernel_rfl
attribute [go_sem] eq_65_n
theorem ne_65 (xo yo : Operand) (f : Fn) (a b : List CV) : binT Go.Proofs.Tryd.prog .neq 65 xo yo (.fn f a b) .nilf = some (.bool true) := by kernel_rfl
attribute [go_sem] ne_65
theorem ne_65_n (xo yo : Operand) : binT Go.Proofs.Tryd.prog .neq 65 xo yo .nilf .nilf = some (.bool false) := by kernel_rfl
attribute [go_sem] ne_65_n
theorem sz_66 : szOf Go.Proofs.Tryd.prog 66 = some 1 := by kernel_rfl
attribute [go_sem] sz_66
theorem ld_66 (h : H) (id off : Nat) : loadT Go.Proofs.Tryd.prog h 66 id off = @thn _ _ (h.blk id) ⟨fun b => b.get off⟩ := by kernel_rfl
attribute [go_sem] ld_66
theorem st_66 (h : H) (id off : Nat) (v : CV) : storeT Go.Proofs.Tryd.prog h 66 id off v = @thn _ _ (h.blk id) ⟨fun b => cond (Nat.beq v.cells.length 1 && !b.ro) ((b.storeA off v.cells).map fun b' => h.put id (.cells b')) none⟩ := by kernel_rfl
attribute [go_sem] st_66
theorem part_66 (cs : List CV) (off : Nat) : partT Go.Proofs.Tryd.prog 66 cs off = nth cs off := by kernel_rfl
attribute [go_sem] part_66
theorem ze_66 : zeroT Go.Proofs.Tryd.prog 66 = some (.nilf) := by kernel_rfl
attribute [go_sem] ze_66
theorem eq_66 (xo yo : Operand) (f : Fn) (a b : List CV) : binT Go.Proofs.Tryd.prog .eql 66 xo yo (.fn f a b) .nilf = some (.bool false) := by kernel_rfl
attribute [go_sem] eq_66
theorem eq_66_n (xo yo : Operand) : binT Go.Proofs.Tryd.prog .eql 66 xo yo .nilf .nilf = some (.bool true) := by kernel_rfl
attribute [go_sem] eq_66_n
theorem ne_66 (xo yo : Operand) (f : Fn) (a b : List CV) : binT Go.Proofs.Tryd.prog .neq 66 xo yo (.fn f a b) .nilf = some (.bool true) := by kernel_rfl
attribute [go_sem] ne_66
theorem ne_66_n (xo yo : Operand) : binT Go.Proofs.Tryd.prog .neq 66 xo yo .nilf .nilf = some (.bool false) := by kernel_rfl
attribute [go_sem] ne_66_n
theorem sz_67 : szOf Go.Proofs.Tryd.prog 67 = some 1 := by kernel_rfl
attribute [go_sem] sz_67
theorem ld_67 (h : H) (id off : Nat) : loadT Go.Proofs.Tryd.prog h 67 id off = @thn _ _ (h.blk id) ⟨fun b => b.get off⟩ := by kernel_rfl
attribute [go_sem] ld_67
theorem st_67 (h : H) (id off : Nat) (v : CV) : storeT Go.Proofs.Tryd.prog h 67 id off v = @thn _ _ (h.blk id) ⟨fun b => cond (Nat.beq v.cells.length 1 && !b.ro) ((b.storeA off v.cells).map fun b' => h.put id (.cells b')) none⟩ := by kernel_rfl
attribute [go_sem] st_67
theorem part_67 (cs : List CV) (off : Nat) : partT Go.Proofs.Tryd.prog 67 cs off = nth cs off := by kernel_rfl
attribute [go_sem] part_67
theorem ze_67 : zeroT Go.Proofs.Tryd.prog 67 = some (.int .i64 0) := by kernel_rfl
attribute [go_sem] ze_67
theorem sz_68 : szOf Go.Proofs.Tryd.prog 68 = some 6 := by kernel_rfl
attribute [go_sem] sz_68
theorem ld_68 (h : H) (id off : Nat) : loadT Go.Proofs.Tryd.prog h 68 id off = @thn _ _ (h.blk id) ⟨fun b => (b.loadN off 6).map .agg⟩ := by kernel_rfl
attribute [go_sem] ld_68
theorem st_68 (h : H) (id off : Nat) (v : CV) : storeT Go.Proofs.Tryd.prog h 68 id off v = @thn _ _ (h.blk id) ⟨fun b => cond (Nat.beq v.cells.length 6 && !b.ro) ((b.storeA off v.cells).map fun b' => h.put id (.cells b')) none⟩ := by kernel_rfl
attribute [go_sem] st_68
theorem part_68 (cs : List CV) (off : Nat) : partT Go.Proofs.Tryd.prog 68 cs off = some (.agg ((cs.drop off).take 6)) := by kernel_rfl
attribute [go_sem] part_68
theorem ze_68 : zeroT Go.Proofs.Tryd.prog 68 = some (.agg [.int .i64 0, .int .u64 0, .int .u64 0, .int .u64 0, .int .u64 0, .nils]) := by kernel_rfl
attribute [go_sem] ze_68
theorem bt_68 (parts : List (Nat × CV)) : buildT Go.Proofs.Tryd.prog 68 parts = finB (CV.cells (.agg [.int .i64 0, .int .u64 0, .int .u64 0, .int .u64 0, .int .u64 0, .nils])) (nth [(0, 1), (1, 1), (2, 1), (3, 1), (4, 1), (5, 1)]) parts := by kernel_rfl
attribute [go_sem] bt_68
theorem fa_68_0 (id off : Nat) : fieldAddrT Go.Proofs.Tryd.prog 68 (.ptr id off) 0 = some (.ptr id (off)) := by kernel_rfl
attribute [go_sem] fa_68_0
theorem fd_68_0 (cs : List CV) : fieldT Go.Proofs.Tryd.prog 68 (.agg cs) 0 = partT Go.Proofs.Tryd.prog 67 cs 0 := by kernel_rfl
attribute [go_sem] fd_68_0
theorem fa_68_1 (id off : Nat) : fieldAddrT Go.Proofs.Tryd.prog 68 (.ptr id off) 1 = some (.ptr id (off + 1)) := by kernel_rfl
attribute [go_sem] fa_68_1
theorem fd_68_1 (cs : List CV) : fieldT Go.Proofs.Tryd.prog 68 (.agg cs) 1 = partT Go.Proofs.Tryd.prog 36 cs 1 := by kernel_rfl
attribute [go_sem] fd_68_1
theorem fa_68_2 (id off : Nat) : fieldAddrT Go.Proofs.Tryd.prog 68 (.ptr id off) 2 = some (.ptr id (off + 2)) := by kernel_rfl
attribute [go_sem] fa_68_2
theorem fd_68_2 (cs : List CV) : fieldT Go.Proofs.Tryd.prog 68 (.agg cs) 2 = partT Go.Proofs.Tryd.prog 36 cs 2 := by kernel_rfl
attribute [go_sem] fd_68_2
theorem fa_68_3 (id off : Nat) : fieldAddrT Go.Proofs.Tryd.prog 68 (.ptr id off) 3 = some (.ptr id (off + 3)) := by kernel_rfl
attribute [go_sem] fa_68_3
theorem fd_68_3 (cs : List CV) : fieldT Go.Proofs.Tryd.prog 68 (.agg cs) 3 = partT Go.Proofs.Tryd.prog 36 cs 3 := by kernel_rfl
attribute [go_sem] fd_68_3
theorem fa_68_4 (id off : Nat) : fieldAddrT Go.Proofs.Tryd.prog 68 (.ptr id off) 4 = some (.ptr id (off + 4)) := by kernel_rfl
attribute [go_sem] fa_68_4
theorem fd_68_4 (cs : List CV) : fieldT Go.Proofs.Tryd.prog 68 (.agg cs) 4 = partT Go.Proofs.Tryd.prog 36 cs 4 := by kernel_rfl
attribute [go_sem] fd_68_4
theorem fa_68_5 (id off : Nat) : fieldAddrT Go.Proofs.Tryd.prog 68 (.ptr id off) 5 = some (.ptr id (off + 5)) := by kernel_rfl
attribute [go_sem] fa_68_5
theorem fd_68_5 (cs : List CV) : fieldT Go.Proofs.Tryd.prog 68 (.agg cs) 5 = partT Go.Proofs.Tryd.prog 28 cs 5 := by kernel_rfl
attribute [go_sem] fd_68_5
theorem sz_69 : szOf Go.Proofs.Tryd.prog 69 = some 6 := by kernel_rfl
attribute [go_sem] sz_69
theorem ld_69 (h : H) (id off : Nat) : loadT Go.Proofs.Tryd.prog h 69 id off = @thn _ _ (h.blk id) ⟨fun b => (b.loadN off 6).map .agg⟩ := by kernel_rfl
attribute [go_sem] ld_69
theorem st_69 (h : H) (id off : Nat) (v : CV) : storeT Go.Proofs.Tryd.prog h 69 id off v = @thn _ _ (h.blk id) ⟨fun b => cond (Nat.beq v.cells.length 6 && !b.ro) ((b.storeA off v.cells).map fun b' => h.put id (.cells b')) none⟩ := by kernel_rfl
attribute [go_sem] st_69
theorem part_69 (cs : List CV) (off : Nat) : partT Go.Proofs.Tryd.prog 69 cs off = some (.agg ((cs.drop off).take 6)) := by kernel_rfl
attribute [go_sem] part_69
theorem ze_69 : zeroT Go.Proofs.Tryd.prog 69 = some (.agg [.int .i64 0, .int .u64 0, .int .u64 0, .int .u64 0, .int .u64 0, .nils]) := by kernel_rfl
attribute [go_sem] ze_69
theorem bt_69 (parts : List (Nat × CV)) : buildT Go.Proofs.Tryd.prog 69 parts = finB (CV.cells (.agg [.int .i64 0, .int .u64 0, .int .u64 0, .int .u64 0, .int .u64 0, .nils])) (nth [(0, 1), (1, 1), (2, 1), (3, 1), (4, 1), (5, 1)]) parts := by kernel_rfl
attribute [go_sem] bt_69
theorem fa_69_0 (id off : Nat) : fieldAddrT Go.Proofs.Tryd.prog 69 (.ptr id off) 0 = some (.ptr id (off)) := by kernel_rfl
attribute [go_sem] fa_69_0
theorem fd_69_0 (cs : List CV) : fieldT Go.Proofs.Tryd.prog 69 (.agg cs) 0 = partT Go.Proofs.Tryd.prog 67 cs 0 := by kernel_rfl
attribute [go_sem] fd_69_0
theorem fa_69_1 (id off : Nat) : fieldAddrT Go.Proofs.Tryd.prog 69 (.ptr id off) 1 = some (.ptr id (off + 1)) := by kernel_rfl
attribute [go_sem] fa_69_1
theorem fd_69_1 (cs : List CV) : fieldT Go.Proofs.Tryd.prog 69 (.agg cs) 1 = partT Go.Proofs.Tryd.prog 36 cs 1 := by kernel_rfl
attribute [go_sem] fd_69_1
theorem fa_69_2 (id off : Nat) : fieldAddrT Go.Proofs.Tryd.prog 69 (.ptr id off) 2 = some (.ptr id (off + 2)) := by kernel_rfl
attribute [go_sem] fa_69_2
theorem fd_69_2 (cs : List CV) : fieldT Go.Proofs.Tryd.prog 69 (.agg cs) 2 = partT Go.Proofs.Tryd.prog 36 cs 2 := by kernel_rfl
attribute [go_sem] fd_69_2
theorem fa_69_3 (id off : Nat) : fieldAddrT Go.Proofs.Tryd.prog 69 (.ptr id off) 3 = some (.ptr id (off + 3)) := by kernel_rfl
attribute [go_sem] fa_69_3
theorem fd_69_3 (cs : List CV) : fieldT Go.Proofs.Tryd.prog 69 (.agg cs) 3 = partT Go.Proofs.Tryd.prog 36 cs 3 := by kernel_rfl
attribute [go_sem] fd_69_3
theorem fa_69_4 (id off : Nat) : fieldAddrT Go.Proofs.Tryd.prog 69 (.ptr id off) 4 = some (.ptr id (off + 4)) := by kernel_rfl
attribute [go_sem] fa_69_4
theorem fd_69_4 (cs : List CV) : fieldT Go.Proofs.Tryd.prog 69 (.agg cs) 4 = partT Go.Proofs.Tryd.prog 36 cs 4 := by kernel_rfl
attribute [go_sem] fd_69_4
theorem fa_69_5 (id off : Nat) : fieldAddrT Go.Proofs.Tryd.prog 69 (.ptr id off) 5 = some (.ptr id (off + 5)) := by kernel_rfl
attribute [go_sem] fa_69_5
theorem fd_69_5 (cs : List CV) : fieldT Go.Proofs.Tryd.prog 69 (.agg cs) 5 = partT Go.Proofs.Tryd.prog 28 cs 5 := by kernel_rfl
attribute [go_sem] fd_69_5
theorem sz_70 : szOf Go.Proofs.Tryd.prog 70 = some 1 := by kernel_rfl
attribute [go_sem] sz_70
theorem ld_70 (h : H) (id off : Nat) : loadT Go.Proofs.Tryd.prog h 70 id off = @thn _ _ (h.blk id) ⟨fun b => b.get off⟩ := by kernel_rfl
attribute [go_sem] ld_70
theorem st_70 (h : H) (id off : Nat) (v : CV) : storeT Go.Proofs.Tryd.prog h 70 id off v = @thn _ _ (h.blk id) ⟨fun b => cond (Nat.beq v.cells.length 1 && !b.ro) ((b.storeA off v.cells).map fun b' => h.put id (.cells b')) none⟩ := by kernel_rfl
attribute [go_sem] st_70
theorem part_70 (cs : List CV) (off : Nat) : partT Go.Proofs.Tryd.prog 70 cs off = nth cs off := by kernel_rfl
attribute [go_sem] part_70
theorem ze_70 : zeroT Go.Proofs.Tryd.prog 70 = some (.nilf) := by kernel_rfl
attribute [go_sem] ze_70
theorem eq_70 (xo yo : Operand) (f : Fn) (a b : List CV) : binT Go.Proofs.Tryd.prog .eql 70 xo yo (.fn f a b) .nilf = some (.bool false) := by kernel_rfl
attribute [go_sem] eq_70
theorem eq_70_n (xo yo : Operand) : binT Go.Proofs.Tryd.prog .eql 70 xo yo .nilf .nilf = some (.bool true) := by kernel_rfl
attribute [go_sem] eq_70_n
theorem ne_70 (xo yo : Operand) (f : Fn) (a b : List CV) : binT Go.Proofs.Tryd.prog .neq 70 xo yo (.fn f a b) .nilf = some (.bool true) := by kernel_rfl
attribute [go_sem] ne_70
theorem ne_70_n (xo yo : Operand) : binT Go.Proofs.Tryd.prog .neq 70 xo yo .nilf .nilf = some (.bool false) := by kernel_rfl
attribute [go_sem] ne_70_n
theorem sz_71 : szOf Go.Proofs.Tryd.prog 71 = some 1 := by kernel_rfl
attribute [go_sem] sz_71
theorem ld_71 (h : H) (id off : Nat) : loadT Go.Proofs.Tryd.prog h 71 id off = @thn _ _ (h.blk id) ⟨fun b => b.get off⟩ := by kernel_rfl
attribute [go_sem] ld_71
theorem st_71 (h : H) (id off : Nat) (v : CV) : storeT Go.Proofs.Tryd.prog h 71 id off v = @thn _ _ (h.blk id) ⟨fun b => cond (Nat.beq v.cells.length 1 && !b.ro) ((b.storeA off v.cells).map fun b' => h.put id (.cells b')) none⟩ := by kernel_rfl
attribute [go_sem] st_71
theorem part_71 (cs : List CV) (off : Nat) : partT Go.Proofs.Tryd.prog 71 cs off = nth cs off := by kernel_rfl
attribute [go_sem] part_71
theorem ze_71 : zeroT Go.Proofs.Tryd.prog 71 = some (.nilf) := by kernel_rfl
attribute [go_sem] ze_71
theorem eq_71 (xo yo : Operand) (f : Fn) (a b : List CV) : binT Go.Proofs.Tryd.prog .eql 71 xo yo (.fn f a b) .nilf = some (.bool false) := by kernel_rfl
attribute [go_sem] eq_71
theorem eq_71_n (xo yo : Operand) : binT Go.Proofs.Tryd.prog .eql 71 xo yo .nilf .nilf = some (.bool true) := by kernel_rfl
attribute [go_sem] eq_71_n
theorem ne_71 (xo yo : Operand) (f : Fn) (a b : List CV) : binT Go.Proofs.Tryd.prog .neq 71 xo yo (.fn f a b) .nilf = some (.bool true) := by kernel_rfl
attribute [go_sem] ne_71
theorem ne_71_n (xo yo : Operand) : binT Go.Proofs.Tryd.prog .neq 71 xo yo .nilf .nilf = some (.bool false) := by kernel_rfl
attribute [go_sem] ne_71_n
theorem sz_72 : szOf Go.Proofs.Tryd.prog 72 = some 1 := by kernel_rfl
attribute [go_sem] sz_72
theorem ld_72 (h : H) (id off : Nat) : loadT Go.Proofs.Tryd.prog h 72 id off = @thn _ _ (h.blk id) ⟨fun b => b.get off⟩ := by kernel_rfl
attribute [go_sem] ld_72
theorem st_72 (h : H) (id off : Nat) (v : CV) : storeT Go.Proofs.Tryd.prog h 72 id off v = @thn _ _ (h.blk id) ⟨fun b => cond (Nat.beq v.cells.length 1 && !b.ro) ((b.storeA off v.cells).map fun b' => h.put id (.cells b')) none⟩ := by kernel_rfl
attribute [go_sem] st_72
theorem part_72 (cs : List CV) (off : Nat) : partT Go.Proofs.Tryd.prog 72 cs off = nth cs off := by kernel_rfl
attribute [go_sem] part_72
theorem sz_73 : szOf Go.Proofs.Tryd.prog 73 = some 1 := by kernel_rfl
attribute [go_sem] sz_73
theorem ld_73 (h : H) (id off : Nat) : loadT Go.Proofs.Tryd.prog h 73 id off = @thn _ _ (h.blk id) ⟨fun b => b.get off⟩ := by kernel_rfl
attribute [go_sem] ld_73
theorem st_73 (h : H) (id off : Nat) (v : CV) : storeT Go.Proofs.Tryd.prog h 73 id off v = @thn _ _ (h.blk id) ⟨fun b => cond (Nat.beq v.cells.length 1 && !b.ro) ((b.storeA off v.cells).map fun b' => h.put id (.cells b')) none⟩ := by kernel_rfl
attribute [go_sem] st_73
theorem part_73 (cs : List CV) (off : Nat) : partT Go.Proofs.Tryd.prog 73 cs off = nth cs off := by kernel_rfl
attribute [go_sem] part_73
theorem ze_73 : zeroT Go.Proofs.Tryd.prog 73 = some (.nilf) := by kernel_rfl
attribute [go_sem] ze_73
theorem eq_73 (xo yo : Operand) (f : Fn) (a b : List CV) : binT Go.Proofs.Tryd.prog .eql 73 xo yo (.fn f a b) .nilf = some (.bool false) := by kernel_rfl
attribute [go_sem] eq_73
theorem eq_73_n (xo yo : Operand) : binT Go.Proofs.Tryd.prog .eql 73 xo yo .nilf .nilf = some (.bool true) := by kernel_rfl
attribute [go_sem] eq_73_n
theorem ne_73 (xo yo : Operand) (f : Fn) (a b : List CV) : binT Go.Proofs.Tryd.prog .neq 73 xo yo (.fn f a b) .nilf = some (.bool true) := by kernel_rfl
attribute [go_sem] ne_73
theorem ne_73_n (xo yo : Operand) : binT Go.Proofs.Tryd.prog .neq 73 xo yo .nilf .nilf = some (.bool false) := by kernel_rfl
attribute [go_sem] ne_73_n
theorem sz_74 : szOf Go.Proofs.Tryd.prog 74 = some 1 := by kernel_rfl
attribute [go_sem] sz_74
theorem ld_74 (h : H) (id off : Nat) : loadT Go.Proofs.Tryd.prog h 74 id off = @thn _ _ (h.blk id) ⟨fun b => b.get off⟩ := by kernel_rfl
attribute [go_sem] ld_74
theorem st_74 (h : H) (id off : Nat) (v : CV) : storeT Go.Proofs.Tryd.prog h 74 id off v = @thn _ _ (h.blk id) ⟨fun b => cond (Nat.beq v.cells.length 1 && !b.ro) ((b.storeA off v.cells).map fun b' => h.put id (.cells b')) none⟩ := by kernel_rfl
attribute [go_sem] st_74
theorem part_74 (cs : List CV) (off : Nat) : partT Go.Proofs.Tryd.prog 74 cs off = nth cs off := by kernel_rfl
attribute [go_sem] part_74
theorem ze_74 : zeroT Go.Proofs.Tryd.prog 74 = some (.nilf) := by kernel_rfl
attribute [go_sem] ze_74
theorem eq_74 (xo yo : Operand) (f : Fn) (a b : List CV) : binT Go.Proofs.Tryd.prog .eql 74 xo yo (.fn f a b) .nilf = some (.bool false) := by kernel_rfl
attribute [go_sem] eq_74
theorem eq_74_n (xo yo : Operand) : binT Go.Proofs.Tryd.prog .eql 74 xo yo .nilf .nilf = some (.bool true) := by kernel_rfl
attribute [go_sem] eq_74_n
theorem ne_74 (xo yo : Operand) (f : Fn) (a b : List CV) : binT Go.Proofs.Tryd.prog .neq 74 xo yo (.fn f a b) .nilf = some (.bool true) := by kernel_rfl
attribute [go_sem] ne_74
theorem ne_74_n (xo yo : Operand) : binT Go.Proofs.Tryd.prog .neq 74 xo yo .nilf .nilf = some (.bool false) := by kernel_rfl
attribute [go_sem] ne_74_n
theorem sz_75 : szOf Go.Proofs.Tryd.prog 75 = some 1 := by kernel_rfl
attribute [go_sem] sz_75
theorem ld_75 (h : H) (id off : Nat) : loadT Go.Proofs.Tryd.prog h 75 id off = @thn _ _ (h.blk id) ⟨fun b => b.get off⟩ := by kernel_rfl
attribute [go_sem] ld_75
theorem st_75 (h : H) (id off : Nat) (v : CV) : storeT Go.Proofs.Tryd.prog h 75 id off v = @thn _ _ (h.blk id) ⟨fun b => cond (Nat.beq v.cells.length 1 && !b.ro) ((b.storeA off v.cells).map fun b' => h.put id (.cells b')) none⟩ := by kernel_rfl
attribute [go_sem] st_75
theorem part_75 (cs : List CV) (off : Nat) : partT Go.Proofs.Tryd.prog 75 cs off = nth cs off := by kernel_rfl
attribute [go_sem] part_75
theorem sz_76 : szOf Go.Proofs.Tryd.prog 76 = some 1 := by kernel_rfl
attribute [go_sem] sz_76
theorem ld_76 (h : H) (id off : Nat) : loadT Go.Proofs.Tryd.prog h 76 id off = @thn _ _ (h.blk id) ⟨fun b => b.get off⟩ := by kernel_rfl
attribute [go_sem] ld_76
theorem st_76 (h : H) (id off : Nat) (v : CV) : storeT Go.Proofs.Tryd.prog h 76 id off v = @thn _ _ (h.blk id) ⟨fun b => cond (Nat.beq v.cells.length 1 && !b.ro) ((b.storeA off v.cells).map fun b' => h.put id (.cells b')) none⟩ := by kernel_rfl
attribute [go_sem] st_76
theorem part_76 (cs : List CV) (off : Nat) : partT Go.Proofs.Tryd.prog 76 cs off = nth cs off := by kernel_rfl
attribute [go_sem] part_76
theorem ze_76 : zeroT Go.Proofs.Tryd.prog 76 = some (.nilm) := by kernel_rfl
attribute [go_sem] ze_76
theorem eq_76 (xo yo : Operand) (a : Nat) : binT Go.Proofs.Tryd.prog .eql 76 xo yo (.map a) .nilm = some (.bool false) := by kernel_rfl
attribute [go_sem] eq_76
theorem eq_76_n (xo yo : Operand) : binT Go.Proofs.Tryd.prog .eql 76 xo yo .nilm .nilm = some (.bool true) := by kernel_rfl
attribute [go_sem] eq_76_n
theorem ne_76 (xo yo : Operand) (a : Nat) : binT Go.Proofs.Tryd.prog .neq 76 xo yo (.map a) .nilm = some (.bool true) := by kernel_rfl
attribute [go_sem] ne_76
theorem ne_76_n (xo yo : Operand) : binT Go.Proofs.Tryd.prog .neq 76 xo yo .nilm .nilm = some (.bool false) := by kernel_rfl
attribute [go_sem] ne_76_n
theorem sz_77 : szOf Go.Proofs.Tryd.prog 77 = some 1 := by kernel_rfl
attribute [go_sem] sz_77
theorem ld_77 (h : H) (id off : Nat) : loadT Go.Proofs.Tryd.prog h 77 id off = @thn _ _ (h.blk id) ⟨fun b => b.get off⟩ := by kernel_rfl
attribute [go_sem] ld_77
theorem st_77 (h : H) (id off : Nat) (v : CV) : storeT Go.Proofs.Tryd.prog h 77 id off v = @thn _ _ (h.blk id) ⟨fun b => cond (Nat.beq v.cells.length 1 && !b.ro) ((b.storeA off v.cells).map fun b' => h.put id (.cells b')) none⟩ := by kernel_rfl
attribute [go_sem] st_77
theorem part_77 (cs : List CV) (off : Nat) : partT Go.Proofs.Tryd.prog 77 cs off = nth cs off := by kernel_rfl
attribute [go_sem] part_77
theorem ze_77 : zeroT Go.Proofs.Tryd.prog 77 = some (.nilf) := by kernel_rfl
attribute [go_sem] ze_77
theorem eq_77 (xo yo : Operand) (f : Fn) (a b : List CV) : binT Go.Proofs.Tryd.prog .eql 77 xo yo (.fn f a b) .nilf = some (.bool false) := by kernel_rfl
attribute [go_sem] eq_77
theorem eq_77_n (xo yo : Operand) : binT Go.Proofs.Tryd.prog .eql 77 xo yo .nilf .nilf = some (.bool true) := by kernel_rfl
attribute [go_sem] eq_77_n
theorem ne_77 (xo yo : Operand) (f : Fn) (a b : List CV) : binT Go.Proofs.Tryd.prog .neq 77 xo yo (.fn f a b) .nilf = some (.bool true) := by kernel_rfl
attribute [go_sem] ne_77
theorem ne_77_n (xo yo : Operand) : binT Go.Proofs.Tryd.prog .neq 77 xo yo .nilf .nilf = some (.bool false) := by kernel_rfl
attribute [go_sem] ne_77_n
theorem sz_78 : szOf Go.Proofs.Tryd.prog 78 = some 1 := by kernel_rfl
attribute [go_sem] sz_78
theorem ld_78 (h : H) (id off : Nat) : loadT Go.Proofs.Tryd.prog h 78 id off = @thn _ _ (h.blk id) ⟨fun b => b.get off⟩ := by kernel_rfl
attribute [go_sem] ld_78
theorem st_78 (h : H) (id off : Nat) (v : CV) : storeT Go.Proofs.Tryd.prog h 78 id off v = @thn _ _ (h.blk id) ⟨fun b => cond (Nat.beq v.cells.length 1 && !b.ro) ((b.storeA off v.cells).map fun b' => h.put id (.cells b')) none⟩ := by kernel_rfl
attribute [go_sem] st_78
theorem part_78 (cs : List CV) (off : Nat) : partT Go.Proofs.Tryd.prog 78 cs off = nth cs off := by kernel_rfl
attribute [go_sem] part_78
theorem ze_78 : zeroT Go.Proofs.Tryd.prog 78 = some (.nilf) := by kernel_rfl
attribute [go_sem] ze_78
theorem eq_78 (xo yo : Operand) (f : Fn) (a b : List CV) : binT Go.Proofs.Tryd.prog .eql 78 xo yo (.fn f a b) .nilf = some (.bool false) := by kernel_rfl
attribute [go_sem] eq_78
theorem eq_78_n (xo yo : Operand) : binT Go.Proofs.Tryd.prog .eql 78 xo yo .nilf .nilf = some (.bool true) := by kernel_rfl
attribute [go_sem] eq_78_n
theorem ne_78 (xo yo : Operand) (f : Fn) (a b : List CV) : binT Go.Proofs.Tryd.prog .neq 78 xo yo (.fn f a b) .nilf = some (.bool true) := by kernel_rfl
attribute [go_sem] ne_78
theorem ne_78_n (xo yo : Operand) : binT Go.Proofs.Tryd.prog .neq 78 xo yo .nilf .nilf = some (.bool false) := by kernel_rfl
attribute [go_sem] ne_78_n
theorem sz_79 : szOf Go.Proofs.Tryd.prog 79 = some 1 := by kernel_rfl
attribute [go_sem] sz_79
theorem ld_79 (h : H) (id off : Nat) : loadT Go.Proofs.Tryd.prog h 79 id off = @thn _ _ (h.blk id) ⟨fun b => b.get off⟩ := by kernel_rfl
attribute [go_sem] ld_79
theorem st_79 (h : H) (id off : Nat) (v : CV) : storeT Go.Proofs.Tryd.prog h 79 id off v = @thn _ _ (h.blk id) ⟨fun b => cond (Nat.beq v.cells.length 1 && !b.ro) ((b.storeA off v.cells).map fun b' => h.put id (.cells b')) none⟩ := by kernel_rfl
attribute [go_sem] st_79
theorem part_79 (cs : List CV) (off : Nat) : partT Go.Proofs.Tryd.prog 79 cs off = nth cs off := by kernel_rfl
attribute [go_sem] part_79
theorem ze_79 : zeroT Go.Proofs.Tryd.prog 79 = some (.nilf) := by kernel_rfl
attribute [go_sem] ze_79
theorem eq_79 (xo yo : Operand) (f : Fn) (a b : List CV) : binT Go.Proofs.Tryd.prog .eql 79 xo yo (.fn f a b) .nilf = some (.bool false) := by kernel_rfl
attribute [go_sem] eq_79
theorem eq_79_n (xo yo : Operand) : binT Go.Proofs.Tryd.prog .eql 79 xo yo .nilf .nilf = some (.bool true) := by kernel_rfl
attribute [go_sem] eq_79_n
theorem ne_79 (xo yo : Operand) (f : Fn) (a b : List CV) : binT Go.Proofs.Tryd.prog .neq 79 xo yo (.fn f a b) .nilf = some (.bool true) := by kernel_rfl
attribute [go_sem] ne_79
theorem ne_79_n (xo yo : Operand) : binT Go.Proofs.Tryd.prog .neq 79 xo yo .nilf .nilf = some (.bool false) := by kernel_rfl
attribute [go_sem] ne_79_n
theorem sz_80 : szOf Go.Proofs.Tryd.prog 80 = some 2 := by kernel_rfl
attribute [go_sem] sz_80
theorem ld_80 (h : H) (id off : Nat) : loadT Go.Proofs.Tryd.prog h 80 id off = @thn _ _ (h.blk id) ⟨fun b => (b.loadN off 2).map .agg⟩ := by kernel_rfl
attribute [go_sem] ld_80
theorem st_80 (h : H) (id off : Nat) (v : CV) : storeT Go.Proofs.Tryd.prog h 80 id off v = @thn _ _ (h.blk id) ⟨fun b => cond (Nat.beq v.cells.length 2 && !b.ro) ((b.storeA off v.cells).map fun b' => h.put id (.cells b')) none⟩ := by kernel_rfl
attribute [go_sem] st_80
theorem part_80 (cs : List CV) (off : Nat) : partT Go.Proofs.Tryd.prog 80 cs off = some (.agg ((cs.drop off).take 2)) := by kernel_rfl
attribute [go_sem] part_80
theorem ze_80 : zeroT Go.Proofs.Tryd.prog 80 = some (.agg [.int .u64 0, .nils]) := by kernel_rfl
attribute [go_sem] ze_80
theorem bt_80 (parts : List (Nat × CV)) : buildT Go.Proofs.Tryd.prog 80 parts = finB (CV.cells (.agg [.int .u64 0, .nils])) (nth [(0, 1), (1, 1)]) parts := by kernel_rfl
attribute [go_sem] bt_80
theorem fa_80_0 (id off : Nat) : fieldAddrT Go.Proofs.Tryd.prog 80 (.ptr id off) 0 = some (.ptr id (off)) := by kernel_rfl
attribute [go_sem] fa_80_0
theorem fd_80_0 (cs : List CV) : fieldT Go.Proofs.Tryd.prog 80 (.agg cs) 0 = partT Go.Proofs.Tryd.prog 36 cs 0 := by kernel_rfl
attribute [go_sem] fd_80_0
theorem fa_80_1 (id off : Nat) : fieldAddrT Go.Proofs.Tryd.prog 80 (.ptr id off) 1 = some (.ptr id (off + 1)) := by kernel_rfl
attribute [go_sem] fa_80_1
theorem fd_80_1 (cs : List CV) : fieldT Go.Proofs.Tryd.prog 80 (.agg cs) 1 = partT Go.Proofs.Tryd.prog 28 cs 1 := by kernel_rfl
attribute [go_sem] fd_80_1
theorem sz_81 : szOf Go.Proofs.Tryd.prog 81 = some 2 := by kernel_rfl
attribute [go_sem] sz_81
theorem ld_81 (h : H) (id off : Nat) : loadT Go.Proofs.Tryd.prog h 81 id off = @thn _ _ (h.blk id) ⟨fun b => (b.loadN off 2).map .agg⟩ := by kernel_rfl
attribute [go_sem] ld_81
theorem st_81 (h : H) (id off : Nat) (v : CV) : storeT Go.Proofs.Tryd.prog h 81 id off v = @thn _ _ (h.blk id) ⟨fun b => cond (Nat.beq v.cells.length 2 && !b.ro) ((b.storeA off v.cells).map fun b' => h.put id (.cells b')) none⟩ := by kernel_rfl
attribute [go_sem] st_81
theorem part_81 (cs : List CV) (off : Nat) : partT Go.Proofs.Tryd.prog 81 cs off = some (.agg ((cs.drop off).take 2)) := by kernel_rfl
attribute [go_sem] part_81
theorem ze_81 : zeroT Go.Proofs.Tryd.prog 81 = some (.agg [.int .u64 0, .nils]) := by kernel_rfl
attribute [go_sem] ze_81
theorem bt_81 (parts : List (Nat × CV)) : buildT Go.Proofs.Tryd.prog 81 parts = finB (CV.cells (.agg [.int .u64 0, .nils])) (nth [(0, 1), (1, 1)]) parts := by kernel_rfl
attribute [go_sem] bt_81
theorem fa_81_0 (id off : Nat) : fieldAddrT Go.Proofs.Tryd.prog 81 (.ptr id off) 0 = some (.ptr id (off)) := by kernel_rfl
attribute [go_sem] fa_81_0
theorem fd_81_0 (cs : List CV) : fieldT Go.Proofs.Tryd.prog 81 (.agg cs) 0 = partT Go.Proofs.Tryd.prog 36 cs 0 := by kernel_rfl
attribute [go_sem] fd_81_0
theorem fa_81_1 (id off : Nat) : fieldAddrT Go.Proofs.Tryd.prog 81 (.ptr id off) 1 = some (.ptr id (off + 1)) := by kernel_rfl
attribute [go_sem] fa_81_1
theorem fd_81_1 (cs : List CV) : fieldT Go.Proofs.Tryd.prog 81 (.agg cs) 1 = partT Go.Proofs.Tryd.prog 28 cs 1 := by kernel_rfl
attribute [go_sem] fd_81_1
theorem sz_82 : szOf Go.Proofs.Tryd.prog 82 = some 1 := by kernel_rfl
attribute [go_sem] sz_82
theorem ld_82 (h : H) (id off : Nat) : loadT Go.Proofs.Tryd.prog h 82 id off = @thn _ _ (h.blk id) ⟨fun b => b.get off⟩ := by kernel_rfl
attribute [go_sem] ld_82
theorem st_82 (h : H) (id off : Nat) (v : CV) : storeT Go.Proofs.Tryd.prog h 82 id off v = @thn _ _ (h.blk id) ⟨fun b => cond (Nat.beq v.cells.length 1 && !b.ro) ((b.storeA off v.cells).map fun b' => h.put id (.cells b')) none⟩ := by kernel_rfl
attribute [go_sem] st_82
theorem part_82 (cs : List CV) (off : Nat) : partT Go.Proofs.Tryd.prog 82 cs off = nth cs off := by kernel_rfl
attribute [go_sem] part_82
theorem ze_82 : zeroT Go.Proofs.Tryd.prog 82 = some (.nilf) := by kernel_rfl
attribute [go_sem] ze_82
theorem eq_82 (xo yo : Operand) (f : Fn) (a b : List CV) : binT Go.Proofs.Tryd.prog .eql 82 xo yo (.fn f a b) .nilf = some (.bool false) := by kernel_rfl
attribute [go_sem] eq_82
theorem eq_82_n (xo yo : Operand) : binT Go.Proofs.Tryd.prog .eql 82 xo yo .nilf .nilf = some (.bool true) := by kernel_rfl
attribute [go_sem] eq_82_n
theorem ne_82 (xo yo : Operand) (f : Fn) (a b : List CV) : binT Go.Proofs.Tryd.prog .neq 82 xo yo (.fn f a b) .nilf = some (.bool true) := by kernel_rfl
attribute [go_sem] ne_82
theorem ne_82_n (xo yo : Operand) : binT Go.Proofs.Tryd.prog .neq 82 xo yo .nilf .nilf = some (.bool false) := by kernel_rfl
attribute [go_sem] ne_82_n
theorem sz_83 : szOf Go.Proofs.Tryd.prog 83 = some 1 := by kernel_rfl
attribute [go_sem] sz_83
theorem ld_83 (h : H) (id off : Nat) : loadT Go.Proofs.Tryd.prog h 83 id off = @thn _ _ (h.blk id) ⟨fun b => b.get off⟩ := by kernel_rfl
attribute [go_sem] ld_83
theorem st_83 (h : H) (id off : Nat) (v : CV) : storeT Go.Proofs.Tryd.prog h 83 id off v = @thn _ _ (h.blk id) ⟨fun b => cond (Nat.beq v.cells.length 1 && !b.ro) ((b.storeA off v.cells).map fun b' => h.put id (.cells b')) none⟩ := by kernel_rfl
attribute [go_sem] st_83
theorem part_83 (cs : List CV) (off : Nat) : partT Go.Proofs.Tryd.prog 83 cs off = nth cs off := by kernel_rfl
attribute [go_sem] part_83
theorem ze_83 : zeroT Go.Proofs.Tryd.prog 83 = some (.nilf) := by kernel_rfl
attribute [go_sem] ze_83
theorem eq_83 (xo yo : Operand) (f : Fn) (a b : List CV) : binT Go.Proofs.Tryd.prog .eql 83 xo yo (.fn f a b) .nilf = some (.bool false) := by kernel_rfl
attribute [go_sem] eq_83
theorem eq_83_n (xo yo : Operand) : binT Go.Proofs.Tryd.prog .eql 83 xo yo .nilf .nilf = some (.bool true) := by kernel_rfl
attribute [go_sem] eq_83_n
theorem ne_83 (xo yo : Operand) (f : Fn) (a b : List CV) : binT Go.Proofs.Tryd.prog .neq 83 xo yo (.fn f a b) .nilf = some (.bool true) := by kernel_rfl
attribute [go_sem] ne_83
theorem ne_83_n (xo yo : Operand) : binT Go.Proofs.Tryd.prog .neq 83 xo yo .nilf .nilf = some (.bool false) := by kernel_rfl
attribute [go_sem] ne_83_n
theorem sz_84 : szOf Go.Proofs.Tryd.prog 84 = some 1 := by kernel_rfl
attribute [go_sem] sz_84
theorem ld_84 (h : H) (id off : Nat) : loadT Go.Proofs.Tryd.prog h 84 id off = @thn _ _ (h.blk id) ⟨fun b => b.get off⟩ := by kernel_rfl
attribute [go_sem] ld_84
theorem st_84 (h : H) (id off : Nat) (v : CV) : storeT Go.Proofs.Tryd.prog h 84 id off v = @thn _ _ (h.blk id) ⟨fun b => cond (Nat.beq v.cells.length 1 && !b.ro) ((b.storeA off v.cells).map fun b' => h.put id (.cells b')) none⟩ := by kernel_rfl
attribute [go_sem] st_84
theorem part_84 (cs : List CV) (off : Nat) : partT Go.Proofs.Tryd.prog 84 cs off = nth cs off := by kernel_rfl
attribute [go_sem] part_84
theorem ze_84 : zeroT Go.Proofs.Tryd.prog 84 = some (.nilf) := by kernel_rfl
attribute [go_sem] ze_84
theorem eq_84 (xo yo : Operand) (f : Fn) (a b : List CV) : binT Go.Proofs.Tryd.prog .eql 84 xo yo (.fn f a b) .nilf = some (.bool false) := by kernel_rfl
attribute [go_sem] eq_84
theorem eq_84_n (xo yo : Operand) : binT Go.Proofs.Tryd.prog .eql 84 xo yo .nilf .nilf = some (.bool true) := by kernel_rfl
attribute [go_sem] eq_84_n
theorem ne_84 (xo yo : Operand) (f : Fn) (a b : List CV) : binT Go.Proofs.Tryd.prog .neq 84 xo yo (.fn f a b) .nilf = some (.bool true) := by kernel_rfl
attribute [go_sem] ne_84
theorem ne_84_n (xo yo : Operand) : binT Go.Proofs.Tryd.prog .neq 84 xo yo .nilf .nilf = some (.bool false) := by kernel_rfl
attribute [go_sem] ne_84_n
theorem sz_85 : szOf Go.Proofs.Tryd.prog 85 = some 1 := by kernel_rfl
attribute [go_sem] sz_85
theorem ld_85 (h : H) (id off : Nat) : loadT Go.Proofs.Tryd.prog h 85 id off = @thn _ _ (h.blk id) ⟨fun b => b.get off⟩ := by kernel_rfl
attribute [go_sem] ld_85
theorem st_85 (h : H) (id off : Nat) (v : CV) : storeT Go.Proofs.Tryd.prog h 85 id off v = @thn _ _ (h.blk id) ⟨fun b => cond (Nat.beq v.cells.length 1 && !b.ro) ((b.storeA off v.cells).map fun b' => h.put id (.cells b')) none⟩ := by kernel_rfl
attribute [go_sem] st_85
theorem part_85 (cs : List CV) (off : Nat) : partT Go.Proofs.Tryd.prog 85 cs off = nth cs off := by kernel_rfl
attribute [go_sem] part_85
theorem ze_85 : zeroT Go.Proofs.Tryd.prog 85 = some (.nilf) := by kernel_rfl
attribute [go_sem] ze_85
theorem eq_85 (xo yo : Operand) (f : Fn) (a b : List CV) : binT Go.Proofs.Tryd.prog .eql 85 xo yo (.fn f a b) .nilf = some (.bool false) := by kernel_rfl
attribute [go_sem] eq_85
theorem eq_85_n (xo yo : Operand) : binT Go.Proofs.Tryd.prog .eql 85 xo yo .nilf .nilf = some (.bool true) := by kernel_rfl
attribute [go_sem] eq_85_n
theorem ne_85 (xo yo : Operand) (f : Fn) (a b : List CV) : binT Go.Proofs.Tryd.prog .neq 85 xo yo (.fn f a b) .nilf = some (.bool true) := by kernel_rfl
attribute [go_sem] ne_85
theorem ne_85_n (xo yo : Operand) : binT Go.Proofs.Tryd.prog .neq 85 xo yo .nilf .nilf = some (.bool false) := by kernel_rfl
attribute [go_sem] ne_85_n
theorem sz_86 : szOf Go.Proofs.Tryd.prog 86 = some 1 := by kernel_rfl
attribute [go_sem] sz_86
theorem ld_86 (h : H) (id off : Nat) : loadT Go.Proofs.Tryd.prog h 86 id off = @thn _ _ (h.blk id) ⟨fun b => b.get off⟩ := by kernel_rfl
attribute [go_sem] ld_86
theorem st_86 (h : H) (id off : Nat) (v : CV) : storeT Go.Proofs.Tryd.prog h 86 id off v = @thn _ _ (h.blk id) ⟨fun b => cond (Nat.beq v.cells.length 1 && !b.ro) ((b.storeA off v.cells).map fun b' => h.put id (.cells b')) none⟩ := by kernel_rfl
attribute [go_sem] st_86
theorem part_86 (cs : List CV) (off : Nat) : partT Go.Proofs.Tryd.prog 86 cs off = nth cs off := by kernel_rfl
attribute [go_sem] part_86
theorem ze_86 : zeroT Go.Proofs.Tryd.prog 86 = some (.nilf) := by kernel_rfl
attribute [go_sem] ze_86
theorem eq_86 (xo yo : Operand) (f : Fn) (a b : List CV) : binT Go.Proofs.Tryd.prog .eql 86 xo yo (.fn f a b) .nilf = some (.bool false) := by kernel_rfl
attribute [go_sem] eq_86
theorem eq_86_n (xo yo : Operand) : binT Go.Proofs.Tryd.prog .eql 86 xo yo .nilf .nilf = some (.bool true) := by kernel_rfl
attribute [go_sem] eq_86_n
theorem ne_86 (xo yo : Operand) (f : Fn) (a b : List CV) : binT Go.Proofs.Tryd.prog .neq 86 xo yo (.fn f a b) .nilf = some (.bool true) := by kernel_rfl
attribute [go_sem] ne_86
theorem ne_86_n (xo yo : Operand) : binT Go.Proofs.Tryd.prog .neq 86 xo yo .nilf .nilf = some (.bool false) := by kernel_rfl
attribute [go_sem] ne_86_n
theorem sz_87 : szOf Go.Proofs.Tryd.prog 87 = some 1 := by kernel_rfl
attribute [go_sem] sz_87
theorem ld_87 (h : H) (id off : Nat) : loadT Go.Proofs.Tryd.prog h 87 id off = @thn _ _ (h.blk id) ⟨fun b => b.get off⟩ := by kernel_rfl
attribute [go_sem] ld_87
theorem st_87 (h : H) (id off : Nat) (v : CV) : storeT Go.Proofs.Tryd.prog h 87 id off v = @thn _ _ (h.blk id) ⟨fun b => cond (Nat.beq v.cells.length 1 && !b.ro) ((b.storeA off v.cells).map fun b' => h.put id (.cells b')) none⟩ := by kernel_rfl
attribute [go_sem] st_87
theorem part_87 (cs : List CV) (off : Nat) : partT Go.Proofs.Tryd.prog 87 cs off = nth cs off := by kernel_rfl
attribute [go_sem] part_87
theorem ze_87 : zeroT Go.Proofs.Tryd.prog 87 = some (.nilf) := by kernel_rfl
attribute [go_sem] ze_87
theorem eq_87 (xo yo : Operand) (f : Fn) (a b : List CV) : binT Go.Proofs.Tryd.prog .eql 87 xo yo (.fn f a b) .nilf = some (.bool false) := by kernel_rfl
attribute [go_sem] eq_87
theorem eq_87_n (xo yo : Operand) : binT Go.Proofs.Tryd.prog .eql 87 xo yo .nilf .nilf = some (.bool true) := by kernel_rfl
attribute [go_sem] eq_87_n
theorem ne_87 (xo yo : Operand) (f : Fn) (a b : List CV) : binT Go.Proofs.Tryd.prog .neq 87 xo yo (.fn f a b) .nilf = some (.bool true) := by kernel_rfl
attribute [go_sem] ne_87
theorem ne_87_n (xo yo : Operand) : binT Go.Proofs.Tryd.prog .neq 87 xo yo .nilf .nilf = some (.bool false) := by kernel_rfl
attribute [go_sem] ne_87_n
theorem sz_88 : szOf Go.Proofs.Tryd.prog 88 = some 1 := by kernel_rfl
attribute [go_sem] sz_88
theorem ld_88 (h : H) (id off : Nat) : loadT Go.Proofs.Tryd.prog h 88 id off = @thn _ _ (h.blk id) ⟨fun b => b.get off⟩ := by kernel_rfl
attribute [go_sem] ld_88
theorem st_88 (h : H) (id off : Nat) (v : CV) : storeT Go.Proofs.Tryd.prog h 88 id off v = @thn _ _ (h.blk id) ⟨fun b => cond (Nat.beq v.cells.length 1 && !b.ro) ((b.storeA off v.cells).map fun b' => h.put id (.cells b')) none⟩ := by kernel_rfl
attribute [go_sem] st_88
theorem part_88 (cs : List CV) (off : Nat) : partT Go.Proofs.Tryd.prog 88 cs off = nth cs off := by kernel_rfl
attribute [go_sem] part_88
theorem ze_88 : zeroT Go.Proofs.Tryd.prog 88 = some (.nilf) := by kernel_rfl
attribute [go_sem] ze_88
theorem eq_88 (xo yo : Operand) (f : Fn) (a b : List CV) : binT Go.Proofs.Tryd.prog .eql 88 xo yo (.fn f a b) .nilf = some (.bool false) := by kernel_rfl
attribute [go_sem] eq_88
theorem eq_88_n (xo yo : Operand) : binT Go.Proofs.Tryd.prog .eql 88 xo yo .nilf .nilf = some (.bool true) := by kernel_rfl
attribute [go_sem] eq_88_n
theorem ne_88 (xo yo : Operand) (f : Fn) (a b : List CV) : binT Go.Proofs.Tryd.prog .neq 88 xo yo (.fn f a b) .nilf = some (.bool true) := by kernel_rfl
attribute [go_sem] ne_88
theorem ne_88_n (xo yo : Operand) : binT Go.Proofs.Tryd.prog .neq 88 xo yo .nilf .nilf = some (.bool false) := by kernel_rfl
attribute [go_sem] ne_88_n
theorem sz_89 : szOf Go.Proofs.Tryd.prog 89 = some 32 := by kernel_rfl
attribute [go_sem] sz_89
theorem ld_89 (h : H) (id off : Nat) : loadT Go.Proofs.Tryd.prog h 89 id off = @thn _ _ (h.blk id) ⟨fun b => (b.loadN off 32).map .agg⟩ := by kernel_rfl
attribute [go_sem] ld_89
theorem st_89 (h : H) (id off : Nat) (v : CV) : storeT Go.Proofs.Tryd.prog h 89 id off v = @thn _ _ (h.blk id) ⟨fun b => cond (Nat.beq v.cells.length 32 && !b.ro) ((b.storeA off v.cells).map fun b' => h.put id (.cells b')) none⟩ := by kernel_rfl
attribute [go_sem] st_89
theorem part_89 (cs : List CV) (off : Nat) : partT Go.Proofs.Tryd.prog 89 cs off = some (.agg ((cs.drop off).take 32)) := by kernel_rfl
attribute [go_sem] part_89
theorem ze_89 : zeroT Go.Proofs.Tryd.prog 89 = some (.agg [.int .u8 0, .int .u8 0, .int .u8 0, .int .u8 0, .int .u8 0, .int .u8 0, .int .u8 0, .int .u8 0, .int .u8 0, .int .u8 0, .int .u8 0, .int .u8 0, .int .u8 0, .int .u8 0, .int .u8 0, .int .u8 0, .int .u8 0, .int .u8 0, .int .u8 0, .int .u8 0, .int .u8 0, .int .u8 0, .int .u8 0, .int .u8 0, .int .u8 0, .int .u8 0, .int .u8 0, .int .u8 0, .int .u8 0, .int .u8 0, .int .u8 0, .int .u8 0]) := by kernel_rfl
attribute [go_sem] ze_89
theorem ia_89 (id off k : Nat) (kd : IntKind) : indexAddrT Go.Proofs.Tryd.prog 89 (.ptr id off) (.int kd (Int.ofNat k)) = cond (Nat.blt k 32) (some (.ptr id (off + k * 1))) none := by kernel_rfl
attribute [go_sem] ia_89
theorem ix_89 (cs : List CV) (k : Nat) (kd : IntKind) : indexT Go.Proofs.Tryd.prog 89 (.agg cs) (.int kd (Int.ofNat k)) = cond (Nat.blt k 32) (partT Go.Proofs.Tryd.prog 5 cs (k * 1)) none := by kernel_rfl
attribute [go_sem] ix_89
theorem len_89 (h : H) (ts : List TypeId) (az : List CV) (a : CV) : builtinT Go.Proofs.Tryd.prog h .len (89 :: ts) (a :: az) = some (.val (.int .i64 32)) := by kernel_rfl
attribute [go_sem] len_89
theorem bt_89 (parts : List (Nat × CV)) : buildT Go.Proofs.Tryd.prog 89 parts = finB (CV.cells (.agg [.int .u8 0, .int .u8 0, .int .u8 0, .int .u8 0, .int .u8 0, .int .u8 0, .int .u8 0, .int .u8 0, .int .u8 0, .int .u8 0, .int .u8 0, .int .u8 0, .int .u8 0, .int .u8 0, .int .u8 0, .int .u8 0, .int .u8 0, .int .u8 0, .int .u8 0, .int .u8 0, .int .u8 0, .int .u8 0, .int .u8 0, .int .u8 0, .int .u8 0, .int .u8 0, .int .u8 0, .int .u8 0, .int .u8 0, .int .u8 0, .int .u8 0, .int .u8 0])) (fun i => some (i * 1, 1)) parts := by kernel_rfl
attribute [go_sem] bt_89
theorem sz_90 : szOf Go.Proofs.Tryd.prog 90 = some 1 := by kernel_rfl
attribute [go_sem] sz_90
theorem ld_90 (h : H) (id off : Nat) : loadT Go.Proofs.Tryd.prog h 90 id off = @thn _ _ (h.blk id) ⟨fun b => b.get off⟩ := by kernel_rfl
attribute [go_sem] ld_90
theorem st_90 (h : H) (id off : Nat) (v : CV) : storeT Go.Proofs.Tryd.prog h 90 id off v = @thn _ _ (h.blk id) ⟨fun b => cond (Nat.beq v.cells.length 1 && !b.ro) ((b.storeA off v.cells).map fun b' => h.put id (.cells b')) none⟩ := by kernel_rfl
attribute [go_sem] st_90
theorem part_90 (cs : List CV) (off : Nat) : partT Go.Proofs.Tryd.prog 90 cs off = nth cs off := by kernel_rfl
attribute [go_sem] part_90
theorem ze_90 : zeroT Go.Proofs.Tryd.prog 90 = some (.nilf) := by kernel_rfl
attribute [go_sem] ze_90
theorem eq_90 (xo yo : Operand) (f : Fn) (a b : List CV) : binT Go.Proofs.Tryd.prog .eql 90 xo yo (.fn f a b) .nilf = some (.bool false) := by kernel_rfl
attribute [go_sem] eq_90
theorem eq_90_n (xo yo : Operand) : binT Go.Proofs.Tryd.prog .eql 90 xo yo .nilf .nilf = some (.bool true) := by kernel_rfl
attribute [go_sem] eq_90_n
theorem ne_90 (xo yo : Operand) (f : Fn) (a b : List CV) : binT Go.Proofs.Tryd.prog .neq 90 xo yo (.fn f a b) .nilf = some (.bool true) := by kernel_rfl
attribute [go_sem] ne_90
theorem ne_90_n (xo yo : Operand) : binT Go.Proofs.Tryd.prog .neq 90 xo yo .nilf .nilf = some (.bool false) := by kernel_rfl
attribute [go_sem] ne_90_n
theorem sz_91 : szOf Go.Proofs.Tryd.prog 91 = some 1 := by kernel_rfl
attribute [go_sem] sz_91
theorem ld_91 (h : H) (id off : Nat) : loadT Go.Proofs.Tryd.prog h 91 id off = @thn _ _ (h.blk id) ⟨fun b => b.get off⟩ := by kernel_rfl
attribute [go_sem] ld_91
theorem st_91 (h : H) (id off : Nat) (v : CV) : storeT Go.Proofs.Tryd.prog h 91 id off v = @thn _ _ (h.blk id) ⟨fun b => cond (Nat.beq v.cells.length 1 && !b.ro) ((b.storeA off v.cells).map fun b' => h.put id (.cells b')) none⟩ := by kernel_rfl
attribute [go_sem] st_91
theorem part_91 (cs : List CV) (off : Nat) : partT Go.Proofs.Tryd.prog 91 cs off = nth cs off := by kernel_rfl
attribute [go_sem] part_91
theorem ze_91 : zeroT Go.Proofs.Tryd.prog 91 = some (.nilp) := by kernel_rfl
attribute [go_sem] ze_91
theorem eq_91 (xo yo : Operand) (a b : Nat) : binT Go.Proofs.Tryd.prog .eql 91 xo yo (.ptr a b) .nilp = some (.bool false) := by kernel_rfl
attribute [go_sem] eq_91
theorem eq_91_n (xo yo : Operand) : binT Go.Proofs.Tryd.prog .eql 91 xo yo .nilp .nilp = some (.bool true) := by kernel_rfl
attribute [go_sem] eq_91_n
theorem ne_91 (xo yo : Operand) (a b : Nat) : binT Go.Proofs.Tryd.prog .neq 91 xo yo (.ptr a b) .nilp = some (.bool true) := by kernel_rfl
attribute [go_sem] ne_91
theorem ne_91_n (xo yo : Operand) : binT Go.Proofs.Tryd.prog .neq 91 xo yo .nilp .nilp = some (.bool false) := by kernel_rfl
attribute [go_sem] ne_91_n
theorem sz_92 : szOf Go.Proofs.Tryd.prog 92 = some 1 := by kernel_rfl
attribute [go_sem] sz_92
theorem ld_92 (h : H) (id off : Nat) : loadT Go.Proofs.Tryd.prog h 92 id off = @thn _ _ (h.blk id) ⟨fun b => b.get off⟩ := by kernel_rfl
attribute [go_sem] ld_92
theorem st_92 (h : H) (id off : Nat) (v : CV) : storeT Go.Proofs.Tryd.prog h 92 id off v = @thn _ _ (h.blk id) ⟨fun b => cond (Nat.beq v.cells.length 1 && !b.ro) ((b.storeA off v.cells).map fun b' => h.put id (.cells b')) none⟩ := by kernel_rfl
attribute [go_sem] st_92
theorem part_92 (cs : List CV) (off : Nat) : partT Go.Proofs.Tryd.prog 92 cs off = nth cs off := by kernel_rfl
attribute [go_sem] part_92
theorem ze_92 : zeroT Go.Proofs.Tryd.prog 92 = some (.nilf) := by kernel_rfl
attribute [go_sem] ze_92
theorem eq_92 (xo yo : Operand) (f : Fn) (a b : List CV) : binT Go.Proofs.Tryd.prog .eql 92 xo yo (.fn f a b) .nilf = some (.bool false) := by kernel_rfl
attribute [go_sem] eq_92
theorem eq_92_n (xo yo : Operand) : binT Go.Proofs.Tryd.prog .eql 92 xo yo .nilf .nilf = some (.bool true) := by kernel_rfl
attribute [go_sem] eq_92_n
theorem ne_92 (xo yo : Operand) (f : Fn) (a b : List CV) : binT Go.Proofs.Tryd.prog .neq 92 xo yo (.fn f a b) .nilf = some (.bool true) := by kernel_rfl
attribute [go_sem] ne_92
theorem ne_92_n (xo yo : Operand) : binT Go.Proofs.Tryd.prog .neq 92 xo yo .nilf .nilf = some (.bool false) := by kernel_rfl
attribute [go_sem] ne_92_n
theorem sz_93 : szOf Go.Proofs.Tryd.prog 93 = some 1 := by kernel_rfl
attribute [go_sem] sz_93
theorem ld_93 (h : H) (id off : Nat) : loadT Go.Proofs.Tryd.prog h 93 id off = @thn _ _ (h.blk id) ⟨fun b => b.get off⟩ := by kernel_rfl
attribute [go_sem] ld_93
theorem st_93 (h : H) (id off : Nat) (v : CV) : storeT Go.Proofs.Tryd.prog h 93 id off v = @thn _ _ (h.blk id) ⟨fun b => cond (Nat.beq v.cells.length 1 && !b.ro) ((b.storeA off v.cells).map fun b' => h.put id (.cells b')) none⟩ := by kernel_rfl
attribute [go_sem] st_93
theorem part_93 (cs : List CV) (off : Nat) : partT Go.Proofs.Tryd.prog 93 cs off = nth cs off := by kernel_rfl
attribute [go_sem] part_93
theorem ze_93 : zeroT Go.Proofs.Tryd.prog 93 = some (.nilf) := by kernel_rfl
attribute [go_sem] ze_93
theorem eq_93 (xo yo : Operand) (f : Fn) (a b : List CV) : binT Go.Proofs.Tryd.prog .eql 93 xo yo (.fn f a b) .nilf = some (.bool false) := by kernel_rfl
attribute [go_sem] eq_93
theorem eq_93_n (xo yo : Operand) : binT Go.Proofs.Tryd.prog .eql 93 xo yo .nilf .nilf = some (.bool true) := by kernel_rfl
attribute [go_sem] eq_93_n
theorem ne_93 (xo yo : Operand) (f : Fn) (a b : List CV) : binT Go.Proofs.Tryd.prog .neq 93 xo yo (.fn f a b) .nilf = some (.bool true) := by kernel_rfl
attribute [go_sem] ne_93
theorem ne_93_n (xo yo : Operand) : binT Go.Proofs.Tryd.prog .neq 93 xo yo .nilf .nilf = some (.bool false) := by kernel_rfl
attribute [go_sem] ne_93_n
theorem sz_94 : szOf Go.Proofs.Tryd.prog 94 = some 1 := by kernel_rfl
attribute [go_sem] sz_94
theorem ld_94 (h : H) (id off : Nat) : loadT Go.Proofs.Tryd.prog h 94 id off = @thn _ _ (h.blk id) ⟨fun b => b.get off⟩ := by kernel_rfl
attribute [go_sem] ld_94
theorem st_94 (h : H) (id off : Nat) (v : CV) : storeT Go.Proofs.Tryd.prog h 94 id off v = @thn _ _ (h.blk id) ⟨fun b => cond (Nat.beq v.cells.length 1 && !b.ro) ((b.storeA off v.cells).map fun b' => h.put id (.cells b')) none⟩ := by kernel_rfl
attribute [go_sem] st_94
theorem part_94 (cs : List CV) (off : Nat) : partT Go.Proofs.Tryd.prog 94 cs off = nth cs off := by kernel_rfl
attribute [go_sem] part_94
theorem ze_94 : zeroT Go.Proofs.Tryd.prog 94 = some (.nilf) := by kernel_rfl
attribute [go_sem] ze_94
theorem eq_94 (xo yo : Operand) (f : Fn) (a b : List CV) : binT Go.Proofs.Tryd.prog .eql 94 xo yo (.fn f a b) .nilf = some (.bool false) := by kernel_rfl
attribute [go_sem] eq_94
theorem eq_94_n (xo yo : Operand) : binT Go.Proofs.Tryd.prog .eql 94 xo yo .nilf .nilf = some (.bool true) := by kernel_rfl
attribute [go_sem] eq_94_n
theorem ne_94 (xo yo : Operand) (f : Fn) (a b : List CV) : binT Go.Proofs.Tryd.prog .neq 94 xo yo (.fn f a b) .nilf = some (.bool true) := by kernel_rfl
attribute [go_sem] ne_94
theorem ne_94_n (xo yo : Operand) : binT Go.Proofs.Tryd.prog .neq 94 xo yo .nilf .nilf = some (.bool false) := by kernel_rfl
attribute [go_sem] ne_94_n
theorem sz_95 : szOf Go.Proofs.Tryd.prog 95 = some 1 := by kernel_rfl
attribute [go_sem] sz_95
theorem ld_95 (h : H) (id off : Nat) : loadT Go.Proofs.Tryd.prog h 95 id off = @thn _ _ (h.blk id) ⟨fun b => b.get off⟩ := by kernel_rfl
attribute [go_sem] ld_95
theorem st_95 (h : H) (id off : Nat) (v : CV) : storeT Go.Proofs.Tryd.prog h 95 id off v = @thn _ _ (h.blk id) ⟨fun b => cond (Nat.beq v.cells.length 1 && !b.ro) ((b.storeA off v.cells).map fun b' => h.put id (.cells b')) none⟩ := by kernel_rfl
attribute [go_sem] st_95
theorem part_95 (cs : List CV) (off : Nat) : partT Go.Proofs.Tryd.prog 95 cs off = nth cs off := by kernel_rfl
attribute [go_sem] part_95
theorem sz_96 : szOf Go.Proofs.Tryd.prog 96 = some 1 := by kernel_rfl
attribute [go_sem] sz_96
theorem ld_96 (h : H) (id off : Nat) : loadT Go.Proofs.Tryd.prog h 96 id off = @thn _ _ (h.blk id) ⟨fun b => b.get off⟩ := by kernel_rfl
attribute [go_sem] ld_96
theorem st_96 (h : H) (id off : Nat) (v : CV) : storeT Go.Proofs.Tryd.prog h 96 id off v = @thn _ _ (h.blk id) ⟨fun b => cond (Nat.beq v.cells.length 1 && !b.ro) ((b.storeA off v.cells).map fun b' => h.put id (.cells b')) none⟩ := by kernel_rfl
attribute [go_sem] st_96
theorem part_96 (cs : List CV) (off : Nat) : partT Go.Proofs.Tryd.prog 96 cs off = nth cs off := by kernel_rfl
attribute [go_sem] part_96
theorem ze_96 : zeroT Go.Proofs.Tryd.prog 96 = some (.nilf) := by kernel_rfl
attribute [go_sem] ze_96
theorem eq_96 (xo yo : Operand) (f : Fn) (a b : List CV) : binT Go.Proofs.Tryd.prog .eql 96 xo yo (.fn f a b) .nilf = some (.bool false) := by kernel_rfl
attribute [go_sem] eq_96
theorem eq_96_n (xo yo : Operand) : binT Go.Proofs.Tryd.prog .eql 96 xo yo .nilf .nilf = some (.bool true) := by kernel_rfl
attribute [go_sem] eq_96_n
theorem ne_96 (xo yo : Operand) (f : Fn) (a b : List CV) : binT Go.Proofs.Tryd.prog .neq 96 xo yo (.fn f a b) .nilf = some (.bool true) := by kernel_rfl
attribute [go_sem] ne_96
theorem ne_96_n (xo yo : Operand) : binT Go.Proofs.Tryd.prog .neq 96 xo yo .nilf .nilf = some (.bool false) := by kernel_rfl
attribute [go_sem] ne_96_n
theorem sz_97 : szOf Go.Proofs.Tryd.prog 97 = some 1 := by kernel_rfl
attribute [go_sem] sz_97
theorem ld_97 (h : H) (id off : Nat) : loadT Go.Proofs.Tryd.prog h 97 id off = @thn _ _ (h.blk id) ⟨fun b => b.get off⟩ := by kernel_rfl
attribute [go_sem] ld_97
theorem st_97 (h : H) (id off : Nat) (v : CV) : storeT Go.Proofs.Tryd.prog h 97 id off v = @thn _ _ (h.blk id) ⟨fun b => cond (Nat.beq v.cells.length 1 && !b.ro) ((b.storeA off v.cells).map fun b' => h.put id (.cells b')) none⟩ := by kernel_rfl
attribute [go_sem] st_97
theorem part_97 (cs : List CV) (off : Nat) : partT Go.Proofs.Tryd.prog 97 cs off = nth cs off := by kernel_rfl
attribute [go_sem] part_97
theorem ze_97 : zeroT Go.Proofs.Tryd.prog 97 = some (.nilf) := by kernel_rfl
attribute [go_sem] ze_97
theorem eq_97 (xo yo : Operand) (f : Fn) (a b : List CV) : binT Go.Proofs.Tryd.prog .eql 97 xo yo (.fn f a b) .nilf = some (.bool false) := by kernel_rfl
attribute [go_sem] eq_97
theorem eq_97_n (xo yo : Operand) : binT Go.Proofs.Tryd.prog .eql 97 xo yo .nilf .nilf = some (.bool true) := by kernel_rfl
attribute [go_sem] eq_97_n
theorem ne_97 (xo yo : Operand) (f : Fn) (a b : List CV) : binT Go.Proofs.Tryd.prog .neq 97 xo yo (.fn f a b) .nilf = some (.bool true) := by kernel_rfl
attribute [go_sem] ne_97
theorem ne_97_n (xo yo : Operand) : binT Go.Proofs.Tryd.prog .neq 97 xo yo .nilf .nilf = some (.bool false) := by kernel_rfl
attribute [go_sem] ne_97_n
theorem sz_98 : szOf Go.Proofs.Tryd.prog 98 = some 1 := by kernel_rfl
attribute [go_sem] sz_98
theorem ld_98 (h : H) (id off : Nat) : loadT Go.Proofs.Tryd.prog h 98 id off = @thn _ _ (h.blk id) ⟨fun b => b.get off⟩ := by kernel_rfl
attribute [go_sem] ld_98
theorem st_98 (h : H) (id off : Nat) (v : CV) : storeT Go.Proofs.Tryd.prog h 98 id off v = @thn _ _ (h.blk id) ⟨fun b => cond (Nat.beq v.cells.length 1 && !b.ro) ((b.storeA off v.cells).map fun b' => h.put id (.cells b')) none⟩ := by kernel_rfl
attribute [go_sem] st_98
theorem part_98 (cs : List CV) (off : Nat) : partT Go.Proofs.Tryd.prog 98 cs off = nth cs off := by kernel_rfl
attribute [go_sem] part_98
theorem sz_99 : szOf Go.Proofs.Tryd.prog 99 = some 1 := by kernel_rfl
attribute [go_sem] sz_99
theorem ld_99 (h : H) (id off : Nat) : loadT Go.Proofs.Tryd.prog h 99 id off = @thn _ _ (h.blk id) ⟨fun b => b.get off⟩ := by kernel_rfl
attribute [go_sem] ld_99
theorem st_99 (h : H) (id off : Nat) (v : CV) : storeT Go.Proofs.Tryd.prog h 99 id off v = @thn _ _ (h.blk id) ⟨fun b => cond (Nat.beq v.cells.length 1 && !b.ro) ((b.storeA off v.cells).map fun b' => h.put id (.cells b')) none⟩ := by kernel_rfl
attribute [go_sem] st_99
theorem part_99 (cs : List CV) (off : Nat) : partT Go.Proofs.Tryd.prog 99 cs off = nth cs off := by kernel_rfl
attribute [go_sem] part_99
theorem ze_99 : zeroT Go.Proofs.Tryd.prog 99 = some (.nilf) := by kernel_rfl
attribute [go_sem] ze_99
theorem eq_99 (xo yo : Operand) (f : Fn) (a b : List CV) : binT Go.Proofs.Tryd.prog .eql 99 xo yo (.fn f a b) .nilf = some (.bool false) := by kernel_rfl
attribute [go_sem] eq_99
theorem eq_99_n (xo yo : Operand) : binT Go.Proofs.Tryd.prog .eql 99 xo yo .nilf .nilf = some (.bool true) := by kernel_rfl
attribute [go_sem] eq_99_n
theorem ne_99 (xo yo : Operand) (f : Fn) (a b : List CV) : binT Go.Proofs.Tryd.prog .neq 99 xo yo (.fn f a b) .nilf = some (.bool true) := by kernel_rfl
attribute [go_sem] ne_99
theorem ne_99_n (xo yo : Operand) : binT Go.Proofs.Tryd.prog .neq 99 xo yo .nilf .nilf = some (.bool false) := by kernel_rfl
attribute [go_sem] ne_99_n
theorem sz_100 : szOf Go.Proofs.Tryd.prog 100 = some 1 := by kernel_rfl
attribute [go_sem] sz_100
theorem ld_100 (h : H) (id off : Nat) : loadT Go.Proofs.Tryd.prog h 100 id off = @thn _ _ (h.blk id) ⟨fun b => b.get off⟩ := by kernel_rfl
attribute [go_sem] ld_100
theorem st_100 (h : H) (id off : Nat) (v : CV) : storeT Go.Proofs.Tryd.prog h 100 id off v = @thn _ _ (h.blk id) ⟨fun b => cond (Nat.beq v.cells.length 1 && !b.ro) ((b.storeA off v.cells).map fun b' => h.put id (.cells b')) none⟩ := by kernel_rfl
attribute [go_sem] st_100
theorem part_100 (cs : List CV) (off : Nat) : partT Go.Proofs.Tryd.prog 100 cs off = nth cs off := by kernel_rfl
attribute [go_sem] part_100
theorem ze_100 : zeroT Go.Proofs.Tryd.prog 100 = some (.nilf) := by kernel_rfl
attribute [go_sem] ze_100
theorem eq_100 (xo yo : Operand) (f : Fn) (a b : List CV) : binT Go.Proofs.Tryd.prog .eql 100 xo yo (.fn f a b) .nilf = some (.bool false) := by kernel_rfl
attribute [go_sem] eq_100
theorem eq_100_n (xo yo : Operand) : binT Go.Proofs.Tryd.prog .eql 100 xo yo .nilf .nilf = some (.bool true) := by kernel_rfl
attribute [go_sem] eq_100_n
theorem ne_100 (xo yo : Operand) (f : Fn) (a b : List CV) : binT Go.Proofs.Tryd.prog .neq 100 xo yo (.fn f a b) .nilf = some (.bool true) := by kernel_rfl
attribute [go_sem] ne_100
theorem ne_100_n (xo yo : Operand) : binT Go.Proofs.Tryd.prog .neq 100 xo yo .nilf .nilf = some (.bool false) := by kernel_rfl
attribute [go_sem] ne_100_n
theorem sz_101 : szOf Go.Proofs.Tryd.prog 101 = some 1 := by kernel_rfl
attribute [go_sem] sz_101
theorem ld_101 (h : H) (id off : Nat) : loadT Go.Proofs.Tryd.prog h 101 id off = @thn _ _ (h.blk id) ⟨fun b => b.get off⟩ := by kernel_rfl
attribute [go_sem] ld_101
theorem st_101 (h : H) (id off : Nat) (v : CV) : storeT Go.Proofs.Tryd.prog h 101 id off v = @thn _ _ (h.blk id) ⟨fun b => cond (Nat.beq v.cells.length 1 && !b.ro) ((b.storeA off v.cells).map fun b' => h.put id (.cells b')) none⟩ := by kernel_rfl
attribute [go_sem] st_101
theorem part_101 (cs : List CV) (off : Nat) : partT Go.Proofs.Tryd.prog 101 cs off = nth cs off := by kernel_rfl
attribute [go_sem] part_101
theorem sz_102 : szOf Go.Proofs.Tryd.prog 102 = some 1 := by kernel_rfl
attribute [go_sem] sz_102
theorem ld_102 (h : H) (id off : Nat) : loadT Go.Proofs.Tryd.prog h 102 id off = @thn _ _ (h.blk id) ⟨fun b => b.get off⟩ := by kernel_rfl
attribute [go_sem] ld_102
theorem st_102 (h : H) (id off : Nat) (v : CV) : storeT Go.Proofs.Tryd.prog h 102 id off v = @thn _ _ (h.blk id) ⟨fun b => cond (Nat.beq v.cells.length 1 && !b.ro) ((b.storeA off v.cells).map fun b' => h.put id (.cells b')) none⟩ := by kernel_rfl
attribute [go_sem] st_102
theorem part_102 (cs : List CV) (off : Nat) : partT Go.Proofs.Tryd.prog 102 cs off = nth cs off := by kernel_rfl
attribute [go_sem] part_102
theorem ze_102 : zeroT Go.Proofs.Tryd.prog 102 = some (.nilf) := by kernel_rfl
attribute [go_sem] ze_102
theorem eq_102 (xo yo : Operand) (f : Fn) (a b : List CV) : binT Go.Proofs.Tryd.prog .eql 102 xo yo (.fn f a b) .nilf = some (.bool false) := by kernel_rfl
attribute [go_sem] eq_102
theorem eq_102_n (xo yo : Operand) : binT Go.Proofs.Tryd.prog .eql 102 xo yo .nilf .nilf = some (.bool true) := by kernel_rfl
attribute [go_sem] eq_102_n
theorem ne_102 (xo yo : Operand) (f : Fn) (a b : List CV) : binT Go.Proofs.Tryd.prog .neq 102 xo yo (.fn f a b) .nilf = some (.bool true) := by kernel_rfl
attribute [go_sem] ne_102
theorem ne_102_n (xo yo : Operand) : binT Go.Proofs.Tryd.prog .neq 102 xo yo .nilf .nilf = some (.bool false) := by kernel_rfl
attribute [go_sem] ne_102_n
theorem sz_103 : szOf Go.Proofs.Tryd.prog 103 = some 1 := by kernel_rfl
attribute [go_sem] sz_103
theorem ld_103 (h : H) (id off : Nat) : loadT Go.Proofs.Tryd.prog h 103 id off = @thn _ _ (h.blk id) ⟨fun b => b.get off⟩ := by kernel_rfl
attribute [go_sem] ld_103
theorem st_103 (h : H) (id off : Nat) (v : CV) : storeT Go.Proofs.Tryd.prog h 103 id off v = @thn _ _ (h.blk id) ⟨fun b => cond (Nat.beq v.cells.length 1 && !b.ro) ((b.storeA off v.cells).map fun b' => h.put id (.cells b')) none⟩ := by kernel_rfl
attribute [go_sem] st_103
theorem part_103 (cs : List CV) (off : Nat) : partT Go.Proofs.Tryd.prog 103 cs off = nth cs off := by kernel_rfl
attribute [go_sem] part_103
theorem ze_103 : zeroT Go.Proofs.Tryd.prog 103 = some (.int .u64 0) := by kernel_rfl
attribute [go_sem] ze_103
theorem sz_104 : szOf Go.Proofs.Tryd.prog 104 = some 1 := by kernel_rfl
attribute [go_sem] sz_104
theorem ld_104 (h : H) (id off : Nat) : loadT Go.Proofs.Tryd.prog h 104 id off = @thn _ _ (h.blk id) ⟨fun b => b.get off⟩ := by kernel_rfl
attribute [go_sem] ld_104
theorem st_104 (h : H) (id off : Nat) (v : CV) : storeT Go.Proofs.Tryd.prog h 104 id off v = @thn _ _ (h.blk id) ⟨fun b => cond (Nat.beq v.cells.length 1 && !b.ro) ((b.storeA off v.cells).map fun b' => h.put id (.cells b')) none⟩ := by kernel_rfl
attribute [go_sem] st_104
theorem part_104 (cs : List CV) (off : Nat) : partT Go.Proofs.Tryd.prog 104 cs off = nth cs off := by kernel_rfl
attribute [go_sem] part_104
theorem ze_104 : zeroT Go.Proofs.Tryd.prog 104 = some (.int .u32 0) := by kernel_rfl
attribute [go_sem] ze_104
theorem sz_105 : szOf Go.Proofs.Tryd.prog 105 = some 8 := by kernel_rfl
attribute [go_sem] sz_105
theorem ld_105 (h : H) (id off : Nat) : loadT Go.Proofs.Tryd.prog h 105 id off = @thn _ _ (h.blk id) ⟨fun b => (b.loadN off 8).map .agg⟩ := by kernel_rfl
attribute [go_sem] ld_105
theorem st_105 (h : H) (id off : Nat) (v : CV) : storeT Go.Proofs.Tryd.prog h 105 id off v = @thn _ _ (h.blk id) ⟨fun b => cond (Nat.beq v.cells.length 8 && !b.ro) ((b.storeA off v.cells).map fun b' => h.put id (.cells b')) none⟩ := by kernel_rfl
attribute [go_sem] st_105
theorem part_105 (cs : List CV) (off : Nat) : partT Go.Proofs.Tryd.prog 105 cs off = some (.agg ((cs.drop off).take 8)) := by kernel_rfl
attribute [go_sem] part_105
theorem ze_105 : zeroT Go.Proofs.Tryd.prog 105 = some (.agg [.int .u32 0, .int .u32 0, .int .u32 0, .int .u32 0, .int .u32 0, .int .u32 0, .int .u32 0, .int .u32 0]) := by kernel_rfl
attribute [go_sem] ze_105
theorem ia_105 (id off k : Nat) (kd : IntKind) : indexAddrT Go.Proofs.Tryd.prog 105 (.ptr id off) (.int kd (Int.ofNat k)) = cond (Nat.blt k 8) (some (.ptr id (off + k * 1))) none := by kernel_rfl
attribute [go_sem] ia_105
theorem ix_105 (cs : List CV) (k : Nat) (kd : IntKind) : indexT Go.Proofs.Tryd.prog 105 (.agg cs) (.int kd (Int.ofNat k)) = cond (Nat.blt k 8) (partT Go.Proofs.Tryd.prog 104 cs (k * 1)) none := by kernel_rfl
attribute [go_sem] ix_105
theorem len_105 (h : H) (ts : List TypeId) (az : List CV) (a : CV) : builtinT Go.Proofs.Tryd.prog h .len (105 :: ts) (a :: az) = some (.val (.int .i64 8)) := by kernel_rfl
attribute [go_sem] len_105
theorem bt_105 (parts : List (Nat × CV)) : buildT Go.Proofs.Tryd.prog 105 parts = finB (CV.cells (.agg [.int .u32 0, .int .u32 0, .int .u32 0, .int .u32 0, .int .u32 0, .int .u32 0, .int .u32 0, .int .u32 0])) (fun i => some (i * 1, 1)) parts := by kernel_rfl
attribute [go_sem] bt_105
theorem sz_106 : szOf Go.Proofs.Tryd.prog 106 = some 1 := by kernel_rfl
attribute [go_sem] sz_106
theorem ld_106 (h : H) (id off : Nat) : loadT Go.Proofs.Tryd.prog h 106 id off = @thn _ _ (h.blk id) ⟨fun b => b.get off⟩ := by kernel_rfl
attribute [go_sem] ld_106
theorem st_106 (h : H) (id off : Nat) (v : CV) : storeT Go.Proofs.Tryd.prog h 106 id off v = @thn _ _ (h.blk id) ⟨fun b => cond (Nat.beq v.cells.length 1 && !b.ro) ((b.storeA off v.cells).map fun b' => h.put id (.cells b')) none⟩ := by kernel_rfl
attribute [go_sem] st_106
theorem part_106 (cs : List CV) (off : Nat) : partT Go.Proofs.Tryd.prog 106 cs off = nth cs off := by kernel_rfl
attribute [go_sem] part_106
theorem ze_106 : zeroT Go.Proofs.Tryd.prog 106 = some (.nilf) := by kernel_rfl
attribute [go_sem] ze_106
theorem eq_106 (xo yo : Operand) (f : Fn) (a b : List CV) : binT Go.Proofs.Tryd.prog .eql 106 xo yo (.fn f a b) .nilf = some (.bool false) := by kernel_rfl
attribute [go_sem] eq_106
theorem eq_106_n (xo yo : Operand) : binT Go.Proofs.Tryd.prog .eql 106 xo yo .nilf .nilf = some (.bool true) := by kernel_rfl
attribute [go_sem] eq_106_n
theorem ne_106 (xo yo : Operand) (f : Fn) (a b : List CV) : binT Go.Proofs.Tryd.prog .neq 106 xo yo (.fn f a b) .nilf = some (.bool true) := by kernel_rfl
attribute [go_sem] ne_106
theorem ne_106_n (xo yo : Operand) : binT Go.Proofs.Tryd.prog .neq 106 xo yo .nilf .nilf = some (.bool false) := by kernel_rfl
attribute [go_sem] ne_106_n
theorem sz_107 : szOf Go.Proofs.Tryd.prog 107 = some 3 := by kernel_rfl
attribute [go_sem] sz_107
theorem ld_107 (h : H) (id off : Nat) : loadT Go.Proofs.Tryd.prog h 107 id off = @thn _ _ (h.blk id) ⟨fun b => (b.loadN off 3).map .agg⟩ := by kernel_rfl
attribute [go_sem] ld_107
theorem st_107 (h : H) (id off : Nat) (v : CV) : storeT Go.Proofs.Tryd.prog h 107 id off v = @thn _ _ (h.blk id) ⟨fun b => cond (Nat.beq v.cells.length 3 && !b.ro) ((b.storeA off v.cells).map fun b' => h.put id (.cells b')) none⟩ := by kernel_rfl
attribute [go_sem] st_107
theorem part_107 (cs : List CV) (off : Nat) : partT Go.Proofs.Tryd.prog 107 cs off = some (.agg ((cs.drop off).take 3)) := by kernel_rfl
attribute [go_sem] part_107
theorem ze_107 : zeroT Go.Proofs.Tryd.prog 107 = some (.agg [.nils, .bool false, .bool false]) := by kernel_rfl
attribute [go_sem] ze_107
theorem bt_107 (parts : List (Nat × CV)) : buildT Go.Proofs.Tryd.prog 107 parts = finB (CV.cells (.agg [.nils, .bool false, .bool false])) (nth [(0, 1), (1, 1), (2, 1)]) parts := by kernel_rfl
attribute [go_sem] bt_107
theorem fa_107_0 (id off : Nat) : fieldAddrT Go.Proofs.Tryd.prog 107 (.ptr id off) 0 = some (.ptr id (off)) := by kernel_rfl
attribute [go_sem] fa_107_0
theorem fd_107_0 (cs : List CV) : fieldT Go.Proofs.Tryd.prog 107 (.agg cs) 0 = partT Go.Proofs.Tryd.prog 28 cs 0 := by kernel_rfl
attribute [go_sem] fd_107_0
theorem fa_107_1 (id off : Nat) : fieldAddrT Go.Proofs.Tryd.prog 107 (.ptr id off) 1 = some (.ptr id (off + 1)) := by kernel_rfl
attribute [go_sem] fa_107_1
theorem fd_107_1 (cs : List CV) : fieldT Go.Proofs.Tryd.prog 107 (.agg cs) 1 = partT Go.Proofs.Tryd.prog 4 cs 1 := by kernel_rfl
attribute [go_sem] fd_107_1
theorem fa_107_2 (id off : Nat) : fieldAddrT Go.Proofs.Tryd.prog 107 (.ptr id off) 2 = some (.ptr id (off + 2)) := by kernel_rfl
attribute [go_sem] fa_107_2
theorem fd_107_2 (cs : List CV) : fieldT Go.Proofs.Tryd.prog 107 (.agg cs) 2 = partT Go.Proofs.Tryd.prog 4 cs 2 := by kernel_rfl
attribute [go_sem] fd_107_2
theorem sz_108 : szOf Go.Proofs.Tryd.prog 108 = some 3 := by kernel_rfl
attribute [go_sem] sz_108
theorem ld_108 (h : H) (id off : Nat) : loadT Go.Proofs.Tryd.prog h 108 id off = @thn _ _ (h.blk id) ⟨fun b => (b.loadN off 3).map .agg⟩ := by kernel_rfl
attribute [go_sem] ld_108
theorem st_108 (h : H) (id off : Nat) (v : CV) : storeT Go.Proofs.Tryd.prog h 108 id off v = @thn _ _ (h.blk id) ⟨fun b => cond (Nat.beq v.cells.length 3 && !b.ro) ((b.storeA off v.cells).map fun b' => h.put id (.cells b')) none⟩ := by kernel_rfl
attribute [go_sem] st_108
theorem part_108 (cs : List CV) (off : Nat) : partT Go.Proofs.Tryd.prog 108 cs off = some (.agg ((cs.drop off).take 3)) := by kernel_rfl
attribute [go_sem] part_108
theorem ze_108 : zeroT Go.Proofs.Tryd.prog 108 = some (.agg [.nils, .bool false, .bool false]) := by kernel_rfl
attribute [go_sem] ze_108
theorem bt_108 (parts : List (Nat × CV)) : buildT Go.Proofs.Tryd.prog 108 parts = finB (CV.cells (.agg [.nils, .bool false, .bool false])) (nth [(0, 1), (1, 1), (2, 1)]) parts := by kernel_rfl
attribute [go_sem] bt_108
theorem fa_108_0 (id off : Nat) : fieldAddrT Go.Proofs.Tryd.prog 108 (.ptr id off) 0 = some (.ptr id (off)) := by kernel_rfl
attribute [go_sem] fa_108_0
theorem fd_108_0 (cs : List CV) : fieldT Go.Proofs.Tryd.prog 108 (.agg cs) 0 = partT Go.Proofs.Tryd.prog 28 cs 0 := by kernel_rfl
attribute [go_sem] fd_108_0
theorem fa_108_1 (id off : Nat) : fieldAddrT Go.Proofs.Tryd.prog 108 (.ptr id off) 1 = some (.ptr id (off + 1)) := by kernel_rfl
attribute [go_sem] fa_108_1
theorem fd_108_1 (cs : List CV) : fieldT Go.Proofs.Tryd.prog 108 (.agg cs) 1 = partT Go.Proofs.Tryd.prog 4 cs 1 := by kernel_rfl
attribute [go_sem] fd_108_1
theorem fa_108_2 (id off : Nat) : fieldAddrT Go.Proofs.Tryd.prog 108 (.ptr id off) 2 = some (.ptr id (off + 2)) := by kernel_rfl
attribute [go_sem] fa_108_2
theorem fd_108_2 (cs : List CV) : fieldT Go.Proofs.Tryd.prog 108 (.agg cs) 2 = partT Go.Proofs.Tryd.prog 4 cs 2 := by kernel_rfl
attribute [go_sem] fd_108_2
theorem sz_109 : szOf Go.Proofs.Tryd.prog 109 = some 1 := by kernel_rfl
attribute [go_sem] sz_109
theorem ld_109 (h : H) (id off : Nat) : loadT Go.Proofs.Tryd.prog h 109 id off = @thn _ _ (h.blk id) ⟨fun b => b.get off⟩ := by kernel_rfl
attribute [go_sem] ld_109
theorem st_109 (h : H) (id off : Nat) (v : CV) : storeT Go.Proofs.Tryd.prog h 109 id off v = @thn _ _ (h.blk id) ⟨fun b => cond (Nat.beq v.cells.length 1 && !b.ro) ((b.storeA off v.cells).map fun b' => h.put id (.cells b')) none⟩ := by kernel_rfl
attribute [go_sem] st_109
theorem part_109 (cs : List CV) (off : Nat) : partT Go.Proofs.Tryd.prog 109 cs off = nth cs off := by kernel_rfl
attribute [go_sem] part_109
theorem ze_109 : zeroT Go.Proofs.Tryd.prog 109 = some (.nilf) := by kernel_rfl
attribute [go_sem] ze_109
theorem eq_109 (xo yo : Operand) (f : Fn) (a b : List CV) : binT Go.Proofs.Tryd.prog .eql 109 xo yo (.fn f a b) .nilf = some (.bool false) := by kernel_rfl
attribute [go_sem] eq_109
theorem eq_109_n (xo yo : Operand) : binT Go.Proofs.Tryd.prog .eql 109 xo yo .nilf .nilf = some (.bool true) := by kernel_rfl
attribute [go_sem] eq_109_n
theorem ne_109 (xo yo : Operand) (f : Fn) (a b : List CV) : binT Go.Proofs.Tryd.prog .neq 109 xo yo (.fn f a b) .nilf = some (.bool true) := by kernel_rfl
attribute [go_sem] ne_109
theorem ne_109_n (xo yo : Operand) : binT Go.Proofs.Tryd.prog .neq 109 xo yo .nilf .nilf = some (.bool false) := by kernel_rfl
attribute [go_sem] ne_109_n
theorem sz_110 : szOf Go.Proofs.Tryd.prog 110 = some 1 := by kernel_rfl
attribute [go_sem] sz_110
theorem ld_110 (h : H) (id off : Nat) : loadT Go.Proofs.Tryd.prog h 110 id off = @thn _ _ (h.blk id) ⟨fun b => b.get off⟩ := by kernel_rfl
attribute [go_sem] ld_110
theorem st_110 (h : H) (id off : Nat) (v : CV) : storeT Go.Proofs.Tryd.prog h 110 id off v = @thn _ _ (h.blk id) ⟨fun b => cond (Nat.beq v.cells.length 1 && !b.ro) ((b.storeA off v.cells).map fun b' => h.put id (.cells b')) none⟩ := by kernel_rfl
attribute [go_sem] st_110
theorem part_110 (cs : List CV) (off : Nat) : partT Go.Proofs.Tryd.prog 110 cs off = nth cs off := by kernel_rfl
attribute [go_sem] part_110
theorem ze_110 : zeroT Go.Proofs.Tryd.prog 110 = some (.nilf) := by kernel_rfl
attribute [go_sem] ze_110
theorem eq_110 (xo yo : Operand) (f : Fn) (a b : List CV) : binT Go.Proofs.Tryd.prog .eql 110 xo yo (.fn f a b) .nilf = some (.bool false) := by kernel_rfl
attribute [go_sem] eq_110
theorem eq_110_n (xo yo : Operand) : binT Go.Proofs.Tryd.prog .eql 110 xo yo .nilf .nilf = some (.bool true) := by kernel_rfl
attribute [go_sem] eq_110_n
theorem ne_110 (xo yo : Operand) (f : Fn) (a b : List CV) : binT Go.Proofs.Tryd.prog .neq 110 xo yo (.fn f a b) .nilf = some (.bool true) := by kernel_rfl
attribute [go_sem] ne_110
theorem ne_110_n (xo yo : Operand) : binT Go.Proofs.Tryd.prog .neq 110 xo yo .nilf .nilf = some (.bool false) := by kernel_rfl
attribute [go_sem] ne_110_n
theorem sz_111 : szOf Go.Proofs.Tryd.prog 111 = some 1 := by kernel_rfl
attribute [go_sem] sz_111
theorem ld_111 (h : H) (id off : Nat) : loadT Go.Proofs.Tryd.prog h 111 id off = @thn _ _ (h.blk id) ⟨fun b => b.get off⟩ := by kernel_rfl
attribute [go_sem] ld_111
theorem st_111 (h : H) (id off : Nat) (v : CV) : storeT Go.Proofs.Tryd.prog h 111 id off v = @thn _ _ (h.blk id) ⟨fun b => cond (Nat.beq v.cells.length 1 && !b.ro) ((b.storeA off v.cells).map fun b' => h.put id (.cells b')) none⟩ := by kernel_rfl
attribute [go_sem] st_111
theorem part_111 (cs : List CV) (off : Nat) : partT Go.Proofs.Tryd.prog 111 cs off = nth cs off := by kernel_rfl
attribute [go_sem] part_111
theorem ze_111 : zeroT Go.Proofs.Tryd.prog 111 = some (.nilf) := by kernel_rfl
attribute [go_sem] ze_111
theorem eq_111 (xo yo : Operand) (f : Fn) (a b : List CV) : binT Go.Proofs.Tryd.prog .eql 111 xo yo (.fn f a b) .nilf = some (.bool false) := by kernel_rfl
attribute [go_sem] eq_111
theorem eq_111_n (xo yo : Operand) : binT Go.Proofs.Tryd.prog .eql 111 xo yo .nilf .nilf = some (.bool true) := by kernel_rfl
attribute [go_sem] eq_111_n
theorem ne_111 (xo yo : Operand) (f : Fn) (a b : List CV) : binT Go.Proofs.Tryd.prog .neq 111 xo yo (.fn f a b) .nilf = some (.bool true) := by kernel_rfl
attribute [go_sem] ne_111
theorem ne_111_n (xo yo : Operand) : binT Go.Proofs.Tryd.prog .neq 111 xo yo .nilf .nilf = some (.bool false) := by kernel_rfl
attribute [go_sem] ne_111_n
theorem sz_112 : szOf Go.Proofs.Tryd.prog 112 = some 2 := by kernel_rfl
attribute [go_sem] sz_112
theorem ld_112 (h : H) (id off : Nat) : loadT Go.Proofs.Tryd.prog h 112 id off = @thn _ _ (h.blk id) ⟨fun b => (b.loadN off 2).map .agg⟩ := by kernel_rfl
attribute [go_sem] ld_112
theorem st_112 (h : H) (id off : Nat) (v : CV) : storeT Go.Proofs.Tryd.prog h 112 id off v = @thn _ _ (h.blk id) ⟨fun b => cond (Nat.beq v.cells.length 2 && !b.ro) ((b.storeA off v.cells).map fun b' => h.put id (.cells b')) none⟩ := by kernel_rfl
attribute [go_sem] st_112
theorem part_112 (cs : List CV) (off : Nat) : partT Go.Proofs.Tryd.prog 112 cs off = some (.agg ((cs.drop off).take 2)) := by kernel_rfl
attribute [go_sem] part_112
theorem ze_112 : zeroT Go.Proofs.Tryd.prog 112 = some (.agg [.nils, .bool false]) := by kernel_rfl
attribute [go_sem] ze_112
theorem bt_112 (parts : List (Nat × CV)) : buildT Go.Proofs.Tryd.prog 112 parts = finB (CV.cells (.agg [.nils, .bool false])) (nth [(0, 1), (1, 1)]) parts := by kernel_rfl
attribute [go_sem] bt_112
theorem fa_112_0 (id off : Nat) : fieldAddrT Go.Proofs.Tryd.prog 112 (.ptr id off) 0 = some (.ptr id (off)) := by kernel_rfl
attribute [go_sem] fa_112_0
theorem fd_112_0 (cs : List CV) : fieldT Go.Proofs.Tryd.prog 112 (.agg cs) 0 = partT Go.Proofs.Tryd.prog 28 cs 0 := by kernel_rfl
attribute [go_sem] fd_112_0
theorem fa_112_1 (id off : Nat) : fieldAddrT Go.Proofs.Tryd.prog 112 (.ptr id off) 1 = some (.ptr id (off + 1)) := by kernel_rfl
attribute [go_sem] fa_112_1
theorem fd_112_1 (cs : List CV) : fieldT Go.Proofs.Tryd.prog 112 (.agg cs) 1 = partT Go.Proofs.Tryd.prog 4 cs 1 := by kernel_rfl
attribute [go_sem] fd_112_1
theorem sz_113 : szOf Go.Proofs.Tryd.prog 113 = some 2 := by kernel_rfl
attribute [go_sem] sz_113
theorem ld_113 (h : H) (id off : Nat) : loadT Go.Proofs.Tryd.prog h 113 id off = @thn _ _ (h.blk id) ⟨fun b => (b.loadN off 2).map .agg⟩ := by kernel_rfl
attribute [go_sem] ld_113
theorem st_113 (h : H) (id off : Nat) (v : CV) : storeT Go.Proofs.Tryd.prog h 113 id off v = @thn _ _ (h.blk id) ⟨fun b => cond (Nat.beq v.cells.length 2 && !b.ro) ((b.storeA off v.cells).map fun b' => h.put id (.cells b')) none⟩ := by kernel_rfl
attribute [go_sem] st_113
theorem part_113 (cs : List CV) (off : Nat) : partT Go.Proofs.Tryd.prog 113 cs off = some (.agg ((cs.drop off).take 2)) := by kernel_rfl
attribute [go_sem] part_113
theorem ze_113 : zeroT Go.Proofs.Tryd.prog 113 = some (.agg [.nils, .bool false]) := by kernel_rfl
attribute [go_sem] ze_113
theorem bt_113 (parts : List (Nat × CV)) : buildT Go.Proofs.Tryd.prog 113 parts = finB (CV.cells (.agg [.nils, .bool false])) (nth [(0, 1), (1, 1)]) parts := by kernel_rfl
attribute [go_sem] bt_113
theorem fa_113_0 (id off : Nat) : fieldAddrT Go.Proofs.Tryd.prog 113 (.ptr id off) 0 = some (.ptr id (off)) := by kernel_rfl
attribute [go_sem] fa_113_0
theorem fd_113_0 (cs : List CV) : fieldT Go.Proofs.Tryd.prog 113 (.agg cs) 0 = partT Go.Proofs.Tryd.prog 28 cs 0 := by kernel_rfl
attribute [go_sem] fd_113_0
theorem fa_113_1 (id off : Nat) : fieldAddrT Go.Proofs.Tryd.prog 113 (.ptr id off) 1 = some (.ptr id (off + 1)) := by kernel_rfl
attribute [go_sem] fa_113_1
theorem fd_113_1 (cs : List CV) : fieldT Go.Proofs.Tryd.prog 113 (.agg cs) 1 = partT Go.Proofs.Tryd.prog 4 cs 1 := by kernel_rfl
attribute [go_sem] fd_113_1
theorem sz_114 : szOf Go.Proofs.Tryd.prog 114 = some 1 := by kernel_rfl
attribute [go_sem] sz_114
theorem ld_114 (h : H) (id off : Nat) : loadT Go.Proofs.Tryd.prog h 114 id off = @thn _ _ (h.blk id) ⟨fun b => b.get off⟩ := by kernel_rfl
attribute [go_sem] ld_114
theorem st_114 (h : H) (id off : Nat) (v : CV) : storeT Go.Proofs.Tryd.prog h 114 id off v = @thn _ _ (h.blk id) ⟨fun b => cond (Nat.beq v.cells.length 1 && !b.ro) ((b.storeA off v.cells).map fun b' => h.put id (.cells b')) none⟩ := by kernel_rfl
attribute [go_sem] st_114
theorem part_114 (cs : List CV) (off : Nat) : partT Go.Proofs.Tryd.prog 114 cs off = nth cs off := by kernel_rfl
attribute [go_sem] part_114
theorem ze_114 : zeroT Go.Proofs.Tryd.prog 114 = some (.nilp) := by kernel_rfl
attribute [go_sem] ze_114
theorem eq_114 (xo yo : Operand) (a b : Nat) : binT Go.Proofs.Tryd.prog .eql 114 xo yo (.ptr a b) .nilp = some (.bool false) := by kernel_rfl
attribute [go_sem] eq_114
theorem eq_114_n (xo yo : Operand) : binT Go.Proofs.Tryd.prog .eql 114 xo yo .nilp .nilp = some (.bool true) := by kernel_rfl
attribute [go_sem] eq_114_n
theorem ne_114 (xo yo : Operand) (a b : Nat) : binT Go.Proofs.Tryd.prog .neq 114 xo yo (.ptr a b) .nilp = some (.bool true) := by kernel_rfl
attribute [go_sem] ne_114
theorem ne_114_n (xo yo : Operand) : binT Go.Proofs.Tryd.prog .neq 114 xo yo .nilp .nilp = some (.bool false) := by kernel_rfl
attribute [go_sem] ne_114_n
theorem sz_115 : szOf Go.Proofs.Tryd.prog 115 = some 1 := by kernel_rfl
attribute [go_sem] sz_115
theorem ld_115 (h : H) (id off : Nat) : loadT Go.Proofs.Tryd.prog h 115 id off = @thn _ _ (h.blk id) ⟨fun b => b.get off⟩ := by kernel_rfl
attribute [go_sem] ld_115
theorem st_115 (h : H) (id off : Nat) (v : CV) : storeT Go.Proofs.Tryd.prog h 115 id off v = @thn _ _ (h.blk id) ⟨fun b => cond (Nat.beq v.cells.length 1 && !b.ro) ((b.storeA off v.cells).map fun b' => h.put id (.cells b')) none⟩ := by kernel_rfl
attribute [go_sem] st_115
theorem part_115 (cs : List CV) (off : Nat) : partT Go.Proofs.Tryd.prog 115 cs off = nth cs off := by kernel_rfl
attribute [go_sem] part_115
theorem ze_115 : zeroT Go.Proofs.Tryd.prog 115 = some (.nilf) := by kernel_rfl
attribute [go_sem] ze_115
theorem eq_115 (xo yo : Operand) (f : Fn) (a b : List CV) : binT Go.Proofs.Tryd.prog .eql 115 xo yo (.fn f a b) .nilf = some (.bool false) := by kernel_rfl
attribute [go_sem] eq_115
theorem eq_115_n (xo yo : Operand) : binT Go.Proofs.Tryd.prog .eql 115 xo yo .nilf .nilf = some (.bool true) := by kernel_rfl
attribute [go_sem] eq_115_n
theorem ne_115 (xo yo : Operand) (f : Fn) (a b : List CV) : binT Go.Proofs.Tryd.prog .neq 115 xo yo (.fn f a b) .nilf = some (.bool true) := by kernel_rfl
attribute [go_sem] ne_115
theorem ne_115_n (xo yo : Operand) : binT Go.Proofs.Tryd.prog .neq 115 xo yo .nilf .nilf = some (.bool false) := by kernel_rfl
attribute [go_sem] ne_115_n
theorem sz_116 : szOf Go.Proofs.Tryd.prog 116 = some 1 := by kernel_rfl
attribute [go_sem] sz_116
theorem ld_116 (h : H) (id off : Nat) : loadT Go.Proofs.Tryd.prog h 116 id off = @thn _ _ (h.blk id) ⟨fun b => b.get off⟩ := by kernel_rfl
attribute [go_sem] ld_116
theorem st_116 (h : H) (id off : Nat) (v : CV) : storeT Go.Proofs.Tryd.prog h 116 id off v = @thn _ _ (h.blk id) ⟨fun b => cond (Nat.beq v.cells.length 1 && !b.ro) ((b.storeA off v.cells).map fun b' => h.put id (.cells b')) none⟩ := by kernel_rfl
attribute [go_sem] st_116
theorem part_116 (cs : List CV) (off : Nat) : partT Go.Proofs.Tryd.prog 116 cs off = nth cs off := by kernel_rfl
attribute [go_sem] part_116
theorem ze_116 : zeroT Go.Proofs.Tryd.prog 116 = some (.nilf) := by kernel_rfl
attribute [go_sem] ze_116
theorem eq_116 (xo yo : Operand) (f : Fn) (a b : List CV) : binT Go.Proofs.Tryd.prog .eql 116 xo yo (.fn f a b) .nilf = some (.bool false) := by kernel_rfl
attribute [go_sem] eq_116
theorem eq_116_n (xo yo : Operand) : binT Go.Proofs.Tryd.prog .eql 116 xo yo .nilf .nilf = some (.bool true) := by kernel_rfl
attribute [go_sem] eq_116_n
theorem ne_116 (xo yo : Operand) (f : Fn) (a b : List CV) : binT Go.Proofs.Tryd.prog .neq 116 xo yo (.fn f a b) .nilf = some (.bool true) := by kernel_rfl
attribute [go_sem] ne_116
theorem ne_116_n (xo yo : Operand) : binT Go.Proofs.Tryd.prog .neq 116 xo yo .nilf .nilf = some (.bool false) := by kernel_rfl
attribute [go_sem] ne_116_n
theorem sz_117 : szOf Go.Proofs.Tryd.prog 117 = some 1 := by kernel_rfl
attribute [go_sem] sz_117
theorem ld_117 (h : H) (id off : Nat) : loadT Go.Proofs.Tryd.prog h 117 id off = @thn _ _ (h.blk id) ⟨fun b => b.get off⟩ := by kernel_rfl
attribute [go_sem] ld_117
theorem st_117 (h : H) (id off : Nat) (v : CV) : storeT Go.Proofs.Tryd.prog h 117 id off v = @thn _ _ (h.blk id) ⟨fun b => cond (Nat.beq v.cells.length 1 && !b.ro) ((b.storeA off v.cells).map fun b' => h.put id (.cells b')) none⟩ := by kernel_rfl
attribute [go_sem] st_117
theorem part_117 (cs : List CV) (off : Nat) : partT Go.Proofs.Tryd.prog 117 cs off = nth cs off := by kernel_rfl
attribute [go_sem] part_117
theorem ze_117 : zeroT Go.Proofs.Tryd.prog 117 = some (.nilf) := by kernel_rfl
attribute [go_sem] ze_117
theorem eq_117 (xo yo : Operand) (f : Fn) (a b : List CV) : binT Go.Proofs.Tryd.prog .eql 117 xo yo (.fn f a b) .nilf = some (.bool false) := by kernel_rfl
attribute [go_sem] eq_117
theorem eq_117_n (xo yo : Operand) : binT Go.Proofs.Tryd.prog .eql 117 xo yo .nilf .nilf = some (.bool true) := by kernel_rfl
attribute [go_sem] eq_117_n
theorem ne_117 (xo yo : Operand) (f : Fn) (a b : List CV) : binT Go.Proofs.Tryd.prog .neq 117 xo yo (.fn f a b) .nilf = some (.bool true) := by kernel_rfl
attribute [go_sem] ne_117
theorem ne_117_n (xo yo : Operand) : binT Go.Proofs.Tryd.prog .neq 117 xo yo .nilf .nilf = some (.bool false) := by kernel_rfl
attribute [go_sem] ne_117_n
theorem sz_118 : szOf Go.Proofs.Tryd.prog 118 = some 1 := by kernel_rfl
attribute [go_sem] sz_118
theorem ld_118 (h : H) (id off : Nat) : loadT Go.Proofs.Tryd.prog h 118 id off = @thn _ _ (h.blk id) ⟨fun b => b.get off⟩ := by kernel_rfl
attribute [go_sem] ld_118
theorem st_118 (h : H) (id off : Nat) (v : CV) : storeT Go.Proofs.Tryd.prog h 118 id off v = @thn _ _ (h.blk id) ⟨fun b => cond (Nat.beq v.cells.length 1 && !b.ro) ((b.storeA off v.cells).map fun b' => h.put id (.cells b')) none⟩ := by kernel_rfl
attribute [go_sem] st_118
theorem part_118 (cs : List CV) (off : Nat) : partT Go.Proofs.Tryd.prog 118 cs off = nth cs off := by kernel_rfl
attribute [go_sem] part_118
theorem ze_118 : zeroT Go.Proofs.Tryd.prog 118 = some (.nilf) := by kernel_rfl
attribute [go_sem] ze_118
theorem eq_118 (xo yo : Operand) (f : Fn) (a b : List CV) : binT Go.Proofs.Tryd.prog .eql 118 xo yo (.fn f a b) .nilf = some (.bool false) := by kernel_rfl
attribute [go_sem] eq_118
theorem eq_118_n (xo yo : Operand) : binT Go.Proofs.Tryd.prog .eql 118 xo yo .nilf .nilf = some (.bool true) := by kernel_rfl
attribute [go_sem] eq_118_n
theorem ne_118 (xo yo : Operand) (f : Fn) (a b : List CV) : binT Go.Proofs.Tryd.prog .neq 118 xo yo (.fn f a b) .nilf = some (.bool true) := by kernel_rfl
attribute [go_sem] ne_118
theorem ne_118_n (xo yo : Operand) : binT Go.Proofs.Tryd.prog .neq 118 xo yo .nilf .nilf = some (.bool false) := by kernel_rfl
attribute [go_sem] ne_118_n
theorem sz_119 : szOf Go.Proofs.Tryd.prog 119 = some 64 := by kernel_rfl
attribute [go_sem] sz_119
theorem ld_119 (h : H) (id off : Nat) : loadT Go.Proofs.Tryd.prog h 119 id off = @thn _ _ (h.blk id) ⟨fun b => (b.loadN off 64).map .agg⟩ := by kernel_rfl
attribute [go_sem] ld_119
theorem st_119 (h : H) (id off : Nat) (v : CV) : storeT Go.Proofs.Tryd.prog h 119 id off v = @thn _ _ (h.blk id) ⟨fun b => cond (Nat.beq v.cells.length 64 && !b.ro) ((b.storeA off v.cells).map fun b' => h.put id (.cells b')) none⟩ := by kernel_rfl
attribute [go_sem] st_119
theorem part_119 (cs : List CV) (off : Nat) : partT Go.Proofs.Tryd.prog 119 cs off = some (.agg ((cs.drop off).take 64)) := by kernel_rfl
attribute [go_sem] part_119
theorem ze_119 : zeroT Go.Proofs.Tryd.prog 119 = some (.agg [.int .u32 0, .int .u32 0, .int .u32 0, .int .u32 0, .int .u32 0, .int .u32 0, .int .u32 0, .int .u32 0, .int .u32 0, .int .u32 0, .int .u32 0, .int .u32 0, .int .u32 0, .int .u32 0, .int .u32 0, .int .u32 0, .int .u32 0, .int .u32 0, .int .u32 0, .int .u32 0, .int .u32 0, .int .u32 0, .int .u32 0, .int .u32 0, .int .u32 0, .int .u32 0, .int .u32 0, .int .u32 0, .int .u32 0, .int .u32 0, .int .u32 0, .int .u32 0, .int .u32 0, .int .u32 0, .int .u32 0, .int .u32 0, .int .u32 0, .int .u32 0, .int .u32 0, .int .u32 0, .int .u32 0, .int .u32 0, .int .u32 0, .int .u32 0, .int .u32 0, .int .u32 0, .int .u32 0, .int .u32 0, .int .u32 0, .int .u32 0, .int .u32 0, .int .u32 0, .int .u32 0, .int .u32 0, .int .u32 0, .int .u32 0, .int .u32 0, .int .u32 0, .int .u32 0, .int .u32 0, .int .u32 0, .int .u32 0, .int .u32 0, .int .u32 0]) := by kernel_rfl
attribute [go_sem] ze_119
theorem ia_119 (id off k : Nat) (kd : IntKind) : indexAddrT Go.Proofs.Tryd.prog 119 (.ptr id off) (.int kd (Int.ofNat k)) = cond (Nat.blt k 64) (some (.ptr id (off + k * 1))) none := by kernel_rfl
attribute [go_sem] ia_119
theorem ix_119 (cs : List CV) (k : Nat) (kd : IntKind) : indexT Go.Proofs.Tryd.prog 119 (.agg cs) (.int kd (Int.ofNat k)) = cond (Nat.blt k 64) (partT Go.Proofs.Tryd.prog 104 cs (k * 1)) none := by kernel_rfl
attribute [go_sem] ix_119
theorem len_119 (h : H) (ts : List TypeId) (az : List CV) (a : CV) : builtinT Go.Proofs.Tryd.prog h .len (119 :: ts) (a :: az) = some (.val (.int .i64 64)) := by kernel_rfl
attribute [go_sem] len_119
theorem bt_119 (parts : List (Nat × CV)) : buildT Go.Proofs.Tryd.prog 119 parts = finB (CV.cells (.agg [.int .u32 0, .int .u32 0, .int .u32 0, .int .u32 0, .int .u32 0, .int .u32 0, .int .u32 0, .int .u32 0, .int .u32 0, .int .u32 0, .int .u32 0, .int .u32 0, .int .u32 0, .int .u32 0, .int .u32 0, .int .u32 0, .int .u32 0, .int .u32 0, .int .u32 0, .int .u32 0, .int .u32 0, .int .u32 0, .int .u32 0, .int .u32 0, .int .u32 0, .int .u32 0, .int .u32 0, .int .u32 0, .int .u32 0, .int .u32 0, .int .u32 0, .int .u32 0, .int .u32 0, .int .u32 0, .int .u32 0, .int .u32 0, .int .u32 0, .int .u32 0, .int .u32 0, .int .u32 0, .int .u32 0, .int .u32 0, .int .u32 0, .int .u32 0, .int .u32 0, .int .u32 0, .int .u32 0, .int .u32 0, .int .u32 0, .int .u32 0, .int .u32 0, .int .u32 0, .int .u32 0, .int .u32 0, .int .u32 0, .int .u32 0, .int .u32 0, .int .u32 0, .int .u32 0, .int .u32 0, .int .u32 0, .int .u32 0, .int .u32 0, .int .u32 0])) (fun i => some (i * 1, 1)) parts := by kernel_rfl
attribute [go_sem] bt_119
theorem sz_120 : szOf Go.Proofs.Tryd.prog 120 = some 1 := by kernel_rfl
attribute [go_sem] sz_120
theorem ld_120 (h : H) (id off : Nat) : loadT Go.Proofs.Tryd.prog h 120 id off = @thn _ _ (h.blk id) ⟨fun b => b.get off⟩ := by kernel_rfl
attribute [go_sem] ld_120
theorem st_120 (h : H) (id off : Nat) (v : CV) : storeT Go.Proofs.Tryd.prog h 120 id off v = @thn _ _ (h.blk id) ⟨fun b => cond (Nat.beq v.cells.length 1 && !b.ro) ((b.storeA off v.cells).map fun b' => h.put id (.cells b')) none⟩ := by kernel_rfl
attribute [go_sem] st_120
theorem part_120 (cs : List CV) (off : Nat) : partT Go.Proofs.Tryd.prog 120 cs off = nth cs off := by kernel_rfl
attribute [go_sem] part_120
theorem ze_120 : zeroT Go.Proofs.Tryd.prog 120 = some (.nilf) := by kernel_rfl
attribute [go_sem] ze_120
theorem eq_120 (xo yo : Operand) (f : Fn) (a b : List CV) : binT Go.Proofs.Tryd.prog .eql 120 xo yo (.fn f a b) .nilf = some (.bool false) := by kernel_rfl
attribute [go_sem] eq_120
theorem eq_120_n (xo yo : Operand) : binT Go.Proofs.Tryd.prog .eql 120 xo yo .nilf .nilf = some (.bool true) := by kernel_rfl
attribute [go_sem] eq_120_n
theorem ne_120 (xo yo : Operand) (f : Fn) (a b : List CV) : binT Go.Proofs.Tryd.prog .neq 120 xo yo (.fn f a b) .nilf = some (.bool true) := by kernel_rfl
attribute [go_sem] ne_120
theorem ne_120_n (xo yo : Operand) : binT Go.Proofs.Tryd.prog .neq 120 xo yo .nilf .nilf = some (.bool false) := by kernel_rfl
attribute [go_sem] ne_120_n
theorem sz_121 : szOf Go.Proofs.Tryd.prog 121 = some 1 := by kernel_rfl
attribute [go_sem] sz_121
theorem ld_121 (h : H) (id off : Nat) : loadT Go.Proofs.Tryd.prog h 121 id off = @thn _ _ (h.blk id) ⟨fun b => b.get off⟩ := by kernel_rfl
attribute [go_sem] ld_121
theorem st_121 (h : H) (id off : Nat) (v : CV) : storeT Go.Proofs.Tryd.prog h 121 id off v = @thn _ _ (h.blk id) ⟨fun b => cond (Nat.beq v.cells.length 1 && !b.ro) ((b.storeA off v.cells).map fun b' => h.put id (.cells b')) none⟩ := by kernel_rfl
attribute [go_sem] st_121
theorem part_121 (cs : List CV) (off : Nat) : partT Go.Proofs.Tryd.prog 121 cs off = nth cs off := by kernel_rfl
attribute [go_sem] part_121
theorem ze_121 : zeroT Go.Proofs.Tryd.prog 121 = some (.nilf) := by kernel_rfl
attribute [go_sem] ze_121
theorem eq_121 (xo yo : Operand) (f : Fn) (a b : List CV) : binT Go.Proofs.Tryd.prog .eql 121 xo yo (.fn f a b) .nilf = some (.bool false) := by kernel_rfl
attribute [go_sem] eq_121
theorem eq_121_n (xo yo : Operand) : binT Go.Proofs.Tryd.prog .eql 121 xo yo .nilf .nilf = some (.bool true) := by kernel_rfl
attribute [go_sem] eq_121_n
theorem ne_121 (xo yo : Operand) (f : Fn) (a b : List CV) : binT Go.Proofs.Tryd.prog .neq 121 xo yo (.fn f a b) .nilf = some (.bool true) := by kernel_rfl
attribute [go_sem] ne_121
theorem ne_121_n (xo yo : Operand) : binT Go.Proofs.Tryd.prog .neq 121 xo yo .nilf .nilf = some (.bool false) := by kernel_rfl
attribute [go_sem] ne_121_n
theorem sz_122 : szOf Go.Proofs.Tryd.prog 122 = some 1 := by kernel_rfl
attribute [go_sem] sz_122
theorem ld_122 (h : H) (id off : Nat) : loadT Go.Proofs.Tryd.prog h 122 id off = @thn _ _ (h.blk id) ⟨fun b => b.get off⟩ := by kernel_rfl
attribute [go_sem] ld_122
theorem st_122 (h : H) (id off : Nat) (v : CV) : storeT Go.Proofs.Tryd.prog h 122 id off v = @thn _ _ (h.blk id) ⟨fun b => cond (Nat.beq v.cells.length 1 && !b.ro) ((b.storeA off v.cells).map fun b' => h.put id (.cells b')) none⟩ := by kernel_rfl
attribute [go_sem] st_122
theorem part_122 (cs : List CV) (off : Nat) : partT Go.Proofs.Tryd.prog 122 cs off = nth cs off := by kernel_rfl
attribute [go_sem] part_122
theorem ze_122 : zeroT Go.Proofs.Tryd.prog 122 = some (.nilf) := by kernel_rfl
attribute [go_sem] ze_122
theorem eq_122 (xo yo : Operand) (f : Fn) (a b : List CV) : binT Go.Proofs.Tryd.prog .eql 122 xo yo (.fn f a b) .nilf = some (.bool false) := by kernel_rfl
attribute [go_sem] eq_122
theorem eq_122_n (xo yo : Operand) : binT Go.Proofs.Tryd.prog .eql 122 xo yo .nilf .nilf = some (.bool true) := by kernel_rfl
attribute [go_sem] eq_122_n
theorem ne_122 (xo yo : Operand) (f : Fn) (a b : List CV) : binT Go.Proofs.Tryd.prog .neq 122 xo yo (.fn f a b) .nilf = some (.bool true) := by kernel_rfl
attribute [go_sem] ne_122
theorem ne_122_n (xo yo : Operand) : binT Go.Proofs.Tryd.prog .neq 122 xo yo .nilf .nilf = some (.bool false) := by kernel_rfl
attribute [go_sem] ne_122_n
theorem sz_123 : szOf Go.Proofs.Tryd.prog 123 = some 1 := by kernel_rfl
attribute [go_sem] sz_123
theorem ld_123 (h : H) (id off : Nat) : loadT Go.Proofs.Tryd.prog h 123 id off = @thn _ _ (h.blk id) ⟨fun b => b.get off⟩ := by kernel_rfl
attribute [go_sem] ld_123
theorem st_123 (h : H) (id off : Nat) (v : CV) : storeT Go.Proofs.Tryd.prog h 123 id off v = @thn _ _ (h.blk id) ⟨fun b => cond (Nat.beq v.cells.length 1 && !b.ro) ((b.storeA off v.cells).map fun b' => h.put id (.cells b')) none⟩ := by kernel_rfl
attribute [go_sem] st_123
theorem part_123 (cs : List CV) (off : Nat) : partT Go.Proofs.Tryd.prog 123 cs off = nth cs off := by kernel_rfl
attribute [go_sem] part_123
theorem ze_123 : zeroT Go.Proofs.Tryd.prog 123 = some (.nilp) := by kernel_rfl
attribute [go_sem] ze_123
theorem eq_123 (xo yo : Operand) (a b : Nat) : binT Go.Proofs.Tryd.prog .eql 123 xo yo (.ptr a b) .nilp = some (.bool false) := by kernel_rfl
attribute [go_sem] eq_123
theorem eq_123_n (xo yo : Operand) : binT Go.Proofs.Tryd.prog .eql 123 xo yo .nilp .nilp = some (.bool true) := by kernel_rfl
attribute [go_sem] eq_123_n
theorem ne_123 (xo yo : Operand) (a b : Nat) : binT Go.Proofs.Tryd.prog .neq 123 xo yo (.ptr a b) .nilp = some (.bool true) := by kernel_rfl
attribute [go_sem] ne_123
theorem ne_123_n (xo yo : Operand) : binT Go.Proofs.Tryd.prog .neq 123 xo yo .nilp .nilp = some (.bool false) := by kernel_rfl
attribute [go_sem] ne_123_n
theorem sz_124 : szOf Go.Proofs.Tryd.prog 124 = some 1 := by kernel_rfl
attribute [go_sem] sz_124
theorem ld_124 (h : H) (id off : Nat) : loadT Go.Proofs.Tryd.prog h 124 id off = @thn _ _ (h.blk id) ⟨fun b => b.get off⟩ := by kernel_rfl
attribute [go_sem] ld_124
theorem st_124 (h : H) (id off : Nat) (v : CV) : storeT Go.Proofs.Tryd.prog h 124 id off v = @thn _ _ (h.blk id) ⟨fun b => cond (Nat.beq v.cells.length 1 && !b.ro) ((b.storeA off v.cells).map fun b' => h.put id (.cells b')) none⟩ := by kernel_rfl
attribute [go_sem] st_124
theorem part_124 (cs : List CV) (off : Nat) : partT Go.Proofs.Tryd.prog 124 cs off = nth cs off := by kernel_rfl
attribute [go_sem] part_124
theorem ze_124 : zeroT Go.Proofs.Tryd.prog 124 = some (.nilp) := by kernel_rfl
attribute [go_sem] ze_124
theorem eq_124 (xo yo : Operand) (a b : Nat) : binT Go.Proofs.Tryd.prog .eql 124 xo yo (.ptr a b) .nilp = some (.bool false) := by kernel_rfl
attribute [go_sem] eq_124
theorem eq_124_n (xo yo : Operand) : binT Go.Proofs.Tryd.prog .eql 124 xo yo .nilp .nilp = some (.bool true) := by kernel_rfl
attribute [go_sem] eq_124_n
theorem ne_124 (xo yo : Operand) (a b : Nat) : binT Go.Proofs.Tryd.prog .neq 124 xo yo (.ptr a b) .nilp = some (.bool true) := by kernel_rfl
attribute [go_sem] ne_124
theorem ne_124_n (xo yo : Operand) : binT Go.Proofs.Tryd.prog .neq 124 xo yo .nilp .nilp = some (.bool false) := by kernel_rfl
attribute [go_sem] ne_124_n
theorem sz_125 : szOf Go.Proofs.Tryd.prog 125 = some 1 := by kernel_rfl
attribute [go_sem] sz_125
theorem ld_125 (h : H) (id off : Nat) : loadT Go.Proofs.Tryd.prog h 125 id off = @thn _ _ (h.blk id) ⟨fun b => b.get off⟩ := by kernel_rfl
attribute [go_sem] ld_125
theorem st_125 (h : H) (id off : Nat) (v : CV) : storeT Go.Proofs.Tryd.prog h 125 id off v = @thn _ _ (h.blk id) ⟨fun b => cond (Nat.beq v.cells.length 1 && !b.ro) ((b.storeA off v.cells).map fun b' => h.put id (.cells b')) none⟩ := by kernel_rfl
attribute [go_sem] st_125
theorem part_125 (cs : List CV) (off : Nat) : partT Go.Proofs.Tryd.prog 125 cs off = nth cs off := by kernel_rfl
attribute [go_sem] part_125
theorem ze_125 : zeroT Go.Proofs.Tryd.prog 125 = some (.nilf) := by kernel_rfl
attribute [go_sem] ze_125
theorem eq_125 (xo yo : Operand) (f : Fn) (a b : List CV) : binT Go.Proofs.Tryd.prog .eql 125 xo yo (.fn f a b) .nilf = some (.bool false) := by kernel_rfl
attribute [go_sem] eq_125
theorem eq_125_n (xo yo : Operand) : binT Go.Proofs.Tryd.prog .eql 125 xo yo .nilf .nilf = some (.bool true) := by kernel_rfl
attribute [go_sem] eq_125_n
theorem ne_125 (xo yo : Operand) (f : Fn) (a b : List CV) : binT Go.Proofs.Tryd.prog .neq 125 xo yo (.fn f a b) .nilf = some (.bool true) := by kernel_rfl
attribute [go_sem] ne_125
theorem ne_125_n (xo yo : Operand) : binT Go.Proofs.Tryd.prog .neq 125 xo yo .nilf .nilf = some (.bool false) := by kernel_rfl
attribute [go_sem] ne_125_n
theorem sz_126 : szOf Go.Proofs.Tryd.prog 126 = some 1 := by kernel_rfl
attribute [go_sem] sz_126
theorem ld_126 (h : H) (id off : Nat) : loadT Go.Proofs.Tryd.prog h 126 id off = @thn _ _ (h.blk id) ⟨fun b => b.get off⟩ := by kernel_rfl
attribute [go_sem] ld_126
theorem st_126 (h : H) (id off : Nat) (v : CV) : storeT Go.Proofs.Tryd.prog h 126 id off v = @thn _ _ (h.blk id) ⟨fun b => cond (Nat.beq v.cells.length 1 && !b.ro) ((b.storeA off v.cells).map fun b' => h.put id (.cells b')) none⟩ := by kernel_rfl
attribute [go_sem] st_126
theorem part_126 (cs : List CV) (off : Nat) : partT Go.Proofs.Tryd.prog 126 cs off = nth cs off := by kernel_rfl
attribute [go_sem] part_126
theorem ze_126 : zeroT Go.Proofs.Tryd.prog 126 = some (.nilf) := by kernel_rfl
attribute [go_sem] ze_126
theorem eq_126 (xo yo : Operand) (f : Fn) (a b : List CV) : binT Go.Proofs.Tryd.prog .eql 126 xo yo (.fn f a b) .nilf = some (.bool false) := by kernel_rfl
attribute [go_sem] eq_126
theorem eq_126_n (xo yo : Operand) : binT Go.Proofs.Tryd.prog .eql 126 xo yo .nilf .nilf = some (.bool true) := by kernel_rfl
attribute [go_sem] eq_126_n
theorem ne_126 (xo yo : Operand) (f : Fn) (a b : List CV) : binT Go.Proofs.Tryd.prog .neq 126 xo yo (.fn f a b) .nilf = some (.bool true) := by kernel_rfl
attribute [go_sem] ne_126
theorem ne_126_n (xo yo : Operand) : binT Go.Proofs.Tryd.prog .neq 126 xo yo .nilf .nilf = some (.bool false) := by kernel_rfl
attribute [go_sem] ne_126_n
theorem sz_127 : szOf Go.Proofs.Tryd.prog 127 = some 64 := by kernel_rfl
attribute [go_sem] sz_127
theorem ld_127 (h : H) (id off : Nat) : loadT Go.Proofs.Tryd.prog h 127 id off = @thn _ _ (h.blk id) ⟨fun b => (b.loadN off 64).map .agg⟩ := by kernel_rfl
attribute [go_sem] ld_127
theorem st_127 (h : H) (id off : Nat) (v : CV) : storeT Go.Proofs.Tryd.prog h 127 id off v = @thn _ _ (h.blk id) ⟨fun b => cond (Nat.beq v.cells.length 64 && !b.ro) ((b.storeA off v.cells).map fun b' => h.put id (.cells b')) none⟩ := by kernel_rfl
attribute [go_sem] st_127
theorem part_127 (cs : List CV) (off : Nat) : partT Go.Proofs.Tryd.prog 127 cs off = some (.agg ((cs.drop off).take 64)) := by kernel_rfl
attribute [go_sem] part_127
theorem ze_127 : zeroT Go.Proofs.Tryd.prog 127 = some (.agg [.int .u64 0, .int .u64 0, .int .u64 0, .int .u64 0, .int .u64 0, .int .u64 0, .int .u64 0, .int .u64 0, .int .u64 0, .int .u64 0, .int .u64 0, .int .u64 0, .int .u64 0, .int .u64 0, .int .u64 0, .int .u64 0, .int .u64 0, .int .u64 0, .int .u64 0, .int .u64 0, .int .u64 0, .int .u64 0, .int .u64 0, .int .u64 0, .int .u64 0, .int .u64 0, .int .u64 0, .int .u64 0, .int .u64 0, .int .u64 0, .int .u64 0, .int .u64 0, .int .u64 0, .int .u64 0, .int .u64 0, .int .u64 0, .int .u64 0, .int .u64 0, .int .u64 0, .int .u64 0, .int .u64 0, .int .u64 0, .int .u64 0, .int .u64 0, .int .u64 0, .int .u64 0, .int .u64 0, .int .u64 0, .int .u64 0, .int .u64 0, .int .u64 0, .int .u64 0, .int .u64 0, .int .u64 0, .int .u64 0, .int .u64 0, .int .u64 0, .int .u64 0, .int .u64 0, .int .u64 0, .int .u64 0, .int .u64 0, .int .u64 0, .int .u64 0]) := by kernel_rfl
attribute [go_sem] ze_127
theorem ia_127 (id off k : Nat) (kd : IntKind) : indexAddrT Go.Proofs.Tryd.prog 127 (.ptr id off) (.int kd (Int.ofNat k)) = cond (Nat.blt k 64) (some (.ptr id (off + k * 1))) none := by kernel_rfl
attribute [go_sem] ia_127
theorem ix_127 (cs : List CV) (k : Nat) (kd : IntKind) : indexT Go.Proofs.Tryd.prog 127 (.agg cs) (.int kd (Int.ofNat k)) = cond (Nat.blt k 64) (partT Go.Proofs.Tryd.prog 36 cs (k * 1)) none := by kernel_rfl
attribute [go_sem] ix_127
theorem len_127 (h : H) (ts : List TypeId) (az : List CV) (a : CV) : builtinT Go.Proofs.Tryd.prog h .len (127 :: ts) (a :: az) = some (.val (.int .i64 64)) := by kernel_rfl
attribute [go_sem] len_127
theorem bt_127 (parts : List (Nat × CV)) : buildT Go.Proofs.Tryd.prog 127 parts = finB (CV.cells (.agg [.int .u64 0, .int .u64 0, .int .u64 0, .int .u64 0, .int .u64 0, .int .u64 0, .int .u64 0, .int .u64 0, .int .u64 0, .int .u64 0, .int .u64 0, .int .u64 0, .int .u64 0, .int .u64 0, .int .u64 0, .int .u64 0, .int .u64 0, .int .u64 0, .int .u64 0, .int .u64 0, .int .u64 0, .int .u64 0, .int .u64 0, .int .u64 0, .int .u64 0, .int .u64 0, .int .u64 0, .int .u64 0, .int .u64 0, .int .u64 0, .int .u64 0, .int .u64 0, .int .u64 0, .int .u64 0, .int .u64 0, .int .u64 0, .int .u64 0, .int .u64 0, .int .u64 0, .int .u64 0, .int .u64 0, .int .u64 0, .int .u64 0, .int .u64 0, .int .u64 0, .int .u64 0, .int .u64 0, .int .u64 0, .int .u64 0, .int .u64 0, .int .u64 0, .int .u64 0, .int .u64 0, .int .u64 0, .int .u64 0, .int .u64 0, .int .u64 0, .int .u64 0, .int .u64 0, .int .u64 0, .int .u64 0, .int .u64 0, .int .u64 0, .int .u64 0])) (fun i => some (i * 1, 1)) parts := by kernel_rfl
attribute [go_sem] bt_127
theorem sz_128 : szOf Go.Proofs.Tryd.prog 128 = some 1 := by kernel_rfl
attribute [go_sem] sz_128
theorem ld_128 (h : H) (id off : Nat) : loadT Go.Proofs.Tryd.prog h 128 id off = @thn _ _ (h.blk id) ⟨fun b => b.get off⟩ := by kernel_rfl
attribute [go_sem] ld_128
theorem st_128 (h : H) (id off : Nat) (v : CV) : storeT Go.Proofs.Tryd.prog h 128 id off v = @thn _ _ (h.blk id) ⟨fun b => cond (Nat.beq v.cells.length 1 && !b.ro) ((b.storeA off v.cells).map fun b' => h.put id (.cells b')) none⟩ := by kernel_rfl
attribute [go_sem] st_128
theorem part_128 (cs : List CV) (off : Nat) : partT Go.Proofs.Tryd.prog 128 cs off = nth cs off := by kernel_rfl
attribute [go_sem] part_128
theorem ze_128 : zeroT Go.Proofs.Tryd.prog 128 = some (.nilf) := by kernel_rfl
attribute [go_sem] ze_128
theorem eq_128 (xo yo : Operand) (f : Fn) (a b : List CV) : binT Go.Proofs.Tryd.prog .eql 128 xo yo (.fn f a b) .nilf = some (.bool false) := by kernel_rfl
attribute [go_sem] eq_128
theorem eq_128_n (xo yo : Operand) : binT Go.Proofs.Tryd.prog .eql 128 xo yo .nilf .nilf = some (.bool true) := by kernel_rfl
attribute [go_sem] eq_128_n
theorem ne_128 (xo yo : Operand) (f : Fn) (a b : List CV) : binT Go.Proofs.Tryd.prog .neq 128 xo yo (.fn f a b) .nilf = some (.bool true) := by kernel_rfl
attribute [go_sem] ne_128
theorem ne_128_n (xo yo : Operand) : binT Go.Proofs.Tryd.prog .neq 128 xo yo .nilf .nilf = some (.bool false) := by kernel_rfl
attribute [go_sem] ne_128_n
theorem sz_129 : szOf Go.Proofs.Tryd.prog 129 = some 1 := by kernel_rfl
attribute [go_sem] sz_129
theorem ld_129 (h : H) (id off : Nat) : loadT Go.Proofs.Tryd.prog h 129 id off = @thn _ _ (h.blk id) ⟨fun b => b.get off⟩ := by kernel_rfl
attribute [go_sem] ld_129
theorem st_129 (h : H) (id off : Nat) (v : CV) : storeT Go.Proofs.Tryd.prog h 129 id off v = @thn _ _ (h.blk id) ⟨fun b => cond (Nat.beq v.cells.length 1 && !b.ro) ((b.storeA off v.cells).map fun b' => h.put id (.cells b')) none⟩ := by kernel_rfl
attribute [go_sem] st_129
theorem part_129 (cs : List CV) (off : Nat) : partT Go.Proofs.Tryd.prog 129 cs off = nth cs off := by kernel_rfl
attribute [go_sem] part_129
theorem ze_129 : zeroT Go.Proofs.Tryd.prog 129 = some (.nilf) := by kernel_rfl
attribute [go_sem] ze_129
theorem eq_129 (xo yo : Operand) (f : Fn) (a b : List CV) : binT Go.Proofs.Tryd.prog .eql 129 xo yo (.fn f a b) .nilf = some (.bool false) := by kernel_rfl
attribute [go_sem] eq_129
theorem eq_129_n (xo yo : Operand) : binT Go.Proofs.Tryd.prog .eql 129 xo yo .nilf .nilf = some (.bool true) := by kernel_rfl
attribute [go_sem] eq_129_n
theorem ne_129 (xo yo : Operand) (f : Fn) (a b : List CV) : binT Go.Proofs.Tryd.prog .neq 129 xo yo (.fn f a b) .nilf = some (.bool true) := by kernel_rfl
attribute [go_sem] ne_129
theorem ne_129_n (xo yo : Operand) : binT Go.Proofs.Tryd.prog .neq 129 xo yo .nilf .nilf = some (.bool false) := by kernel_rfl
attribute [go_sem] ne_129_n
theorem sz_130 : szOf Go.Proofs.Tryd.prog 130 = some 1 := by kernel_rfl
attribute [go_sem] sz_130
theorem ld_130 (h : H) (id off : Nat) : loadT Go.Proofs.Tryd.prog h 130 id off = @thn _ _ (h.blk id) ⟨fun b => b.get off⟩ := by kernel_rfl
attribute [go_sem] ld_130
theorem st_130 (h : H) (id off : Nat) (v : CV) : storeT Go.Proofs.Tryd.prog h 130 id off v = @thn _ _ (h.blk id) ⟨fun b => cond (Nat.beq v.cells.length 1 && !b.ro) ((b.storeA off v.cells).map fun b' => h.put id (.cells b')) none⟩ := by kernel_rfl
attribute [go_sem] st_130
theorem part_130 (cs : List CV) (off : Nat) : partT Go.Proofs.Tryd.prog 130 cs off = nth cs off := by kernel_rfl
attribute [go_sem] part_130
theorem ze_130 : zeroT Go.Proofs.Tryd.prog 130 = some (.nilf) := by kernel_rfl
attribute [go_sem] ze_130
theorem eq_130 (xo yo : Operand) (f : Fn) (a b : List CV) : binT Go.Proofs.Tryd.prog .eql 130 xo yo (.fn f a b) .nilf = some (.bool false) := by kernel_rfl
attribute [go_sem] eq_130
theorem eq_130_n (xo yo : Operand) : binT Go.Proofs.Tryd.prog .eql 130 xo yo .nilf .nilf = some (.bool true) := by kernel_rfl
attribute [go_sem] eq_130_n
theorem ne_130 (xo yo : Operand) (f : Fn) (a b : List CV) : binT Go.Proofs.Tryd.prog .neq 130 xo yo (.fn f a b) .nilf = some (.bool true) := by kernel_rfl
attribute [go_sem] ne_130
theorem ne_130_n (xo yo : Operand) : binT Go.Proofs.Tryd.prog .neq 130 xo yo .nilf .nilf = some (.bool false) := by kernel_rfl
attribute [go_sem] ne_130_n
theorem sz_131 : szOf Go.Proofs.Tryd.prog 131 = some 1 := by kernel_rfl
attribute [go_sem] sz_131
theorem ld_131 (h : H) (id off : Nat) : loadT Go.Proofs.Tryd.prog h 131 id off = @thn _ _ (h.blk id) ⟨fun b => b.get off⟩ := by kernel_rfl
attribute [go_sem] ld_131
theorem st_131 (h : H) (id off : Nat) (v : CV) : storeT Go.Proofs.Tryd.prog h 131 id off v = @thn _ _ (h.blk id) ⟨fun b => cond (Nat.beq v.cells.length 1 && !b.ro) ((b.storeA off v.cells).map fun b' => h.put id (.cells b')) none⟩ := by kernel_rfl
attribute [go_sem] st_131
theorem part_131 (cs : List CV) (off : Nat) : partT Go.Proofs.Tryd.prog 131 cs off = nth cs off := by kernel_rfl
attribute [go_sem] part_131
theorem ze_131 : zeroT Go.Proofs.Tryd.prog 131 = some (.nils) := by kernel_rfl
attribute [go_sem] ze_131
theorem ia_131 (id off len k : Nat) (c : Cap) (kd : IntKind) : indexAddrT Go.Proofs.Tryd.prog 131 (.sl id off len c) (.int kd (Int.ofNat k)) = cond (Nat.blt k len) (some (.ptr id (off + k * 1))) none := by kernel_rfl
attribute [go_sem] ia_131
theorem len_131 (h : H) (id off len : Nat) (c : Cap) (ts : List TypeId) (az : List CV) : builtinT Go.Proofs.Tryd.prog h .len (131 :: ts) (.sl id off len c :: az) = some (.val (.int .i64 (Int.ofNat len))) := by kernel_rfl
attribute [go_sem] len_131
theorem len_131_n (h : H) (ts : List TypeId) (az : List CV) : builtinT Go.Proofs.Tryd.prog h .len (131 :: ts) (.nils :: az) = some (.val (.int .i64 0)) := by kernel_rfl
attribute [go_sem] len_131_n
theorem app_131 (h : H) (s : CV) (id off len : Nat) (c : Cap) (ts : List TypeId) (az : List CV) : builtinT Go.Proofs.Tryd.prog h .append (131 :: 131 :: ts) (s :: .sl id off len c :: az) = uv (appendT Go.Proofs.Tryd.prog h 131 s (.sl id off len c)) := by kernel_rfl
attribute [go_sem] app_131
theorem app_131_n (h : H) (s : CV) (ts : List TypeId) (az : List CV) : builtinT Go.Proofs.Tryd.prog h .append (131 :: 131 :: ts) (s :: .nils :: az) = uv (appendT Go.Proofs.Tryd.prog h 131 s .nils) := by kernel_rfl
attribute [go_sem] app_131_n
theorem ap_131 (h : H) (s : CV) (id off len : Nat) (c : Cap) : appendT Go.Proofs.Tryd.prog h 131 s (.sl id off len c) = appS h 1 8 1 s len (firstC h 1 len (.sl id off len c)) := by kernel_rfl
attribute [go_sem] ap_131
theorem ap_131_n (h : H) (s : CV) : appendT Go.Proofs.Tryd.prog h 131 s .nils = appS h 1 8 1 s 0 (some []) := by kernel_rfl
attribute [go_sem] ap_131_n
theorem ap_131_z (h : H) (s : CV) (a b c d : Nat) : appendT Go.Proofs.Tryd.prog h 131 s (.sl0 a b c d) = appS h 1 8 1 s 0 (some []) := by kernel_rfl
attribute [go_sem] ap_131_z
theorem bs_131 (h : H) (n : Nat) (parts : List (Nat × CV)) : buildSliceT Go.Proofs.Tryd.prog h 131 n parts = bslS h 1 (CV.cells (.int .u64 0)) n parts := by kernel_rfl
attribute [go_sem] bs_131
theorem ms_131 (h : H) (l c : Nat) (k k' : IntKind) : makeSliceT Go.Proofs.Tryd.prog h 131 (.int k (Int.ofNat l)) (.int k' (Int.ofNat c)) = mkS h 1 8 (zeroT Go.Proofs.Tryd.prog 36) l c := by kernel_rfl
attribute [go_sem] ms_131
theorem eq_131 (xo yo : Operand) (a b c : Nat) (d : Cap) : binT Go.Proofs.Tryd.prog .eql 131 xo yo (.sl a b c d) .nils = some (.bool false) := by kernel_rfl
attribute [go_sem] eq_131
theorem eq_131_n (xo yo : Operand) : binT Go.Proofs.Tryd.prog .eql 131 xo yo .nils .nils = some (.bool true) := by kernel_rfl
attribute [go_sem] eq_131_n
theorem eq_131_z (xo yo : Operand) (a b c d : Nat) : binT Go.Proofs.Tryd.prog .eql 131 xo yo (.sl0 a b c d) .nils = some (.bool false) := by kernel_rfl
attribute [go_sem] eq_131_z
theorem ne_131 (xo yo : Operand) (a b c : Nat) (d : Cap) : binT Go.Proofs.Tryd.prog .neq 131 xo yo (.sl a b c d) .nils = some (.bool true) := by kernel_rfl
attribute [go_sem] ne_131
theorem ne_131_n (xo yo : Operand) : binT Go.Proofs.Tryd.prog .neq 131 xo yo .nils .nils = some (.bool false) := by kernel_rfl
attribute [go_sem] ne_131_n
theorem ne_131_z (xo yo : Operand) (a b c d : Nat) : binT Go.Proofs.Tryd.prog .neq 131 xo yo (.sl0 a b c d) .nils = some (.bool true) := by kernel_rfl
attribute [go_sem] ne_131_z
theorem len_131_z (h : H) (a b c d : Nat) (ts : List TypeId) (az : List CV) : builtinT Go.Proofs.Tryd.prog h .len (131 :: ts) (.sl0 a b c d :: az) = some (.val (.int .i64 0)) := by kernel_rfl
attribute [go_sem] len_131_z
theorem app_131_z (h : H) (s : CV) (a b c d : Nat) (ts : List TypeId) (az : List CV) : builtinT Go.Proofs.Tryd.prog h .append (131 :: 131 :: ts) (s :: .sl0 a b c d :: az) = uv (appendT Go.Proofs.Tryd.prog h 131 s (.sl0 a b c d)) := by kernel_rfl
attribute [go_sem] app_131_z
theorem sz_132 : szOf Go.Proofs.Tryd.prog 132 = some 1 := by kernel_rfl
attribute [go_sem] sz_132
theorem ld_132 (h : H) (id off : Nat) : loadT Go.Proofs.Tryd.prog h 132 id off = @thn _ _ (h.blk id) ⟨fun b => b.get off⟩ := by kernel_rfl
attribute [go_sem] ld_132
theorem st_132 (h : H) (id off : Nat) (v : CV) : storeT Go.Proofs.Tryd.prog h 132 id off v = @thn _ _ (h.blk id) ⟨fun b => cond (Nat.beq v.cells.length 1 && !b.ro) ((b.storeA off v.cells).map fun b' => h.put id (.cells b')) none⟩ := by kernel_rfl
attribute [go_sem] st_132
theorem part_132 (cs : List CV) (off : Nat) : partT Go.Proofs.Tryd.prog 132 cs off = nth cs off := by kernel_rfl
attribute [go_sem] part_132
theorem ze_132 : zeroT Go.Proofs.Tryd.prog 132 = some (.nilf) := by kernel_rfl
attribute [go_sem] ze_132
theorem eq_132 (xo yo : Operand) (f : Fn) (a b : List CV) : binT Go.Proofs.Tryd.prog .eql 132 xo yo (.fn f a b) .nilf = some (.bool false) := by kernel_rfl
attribute [go_sem] eq_132
theorem eq_132_n (xo yo : Operand) : binT Go.Proofs.Tryd.prog .eql 132 xo yo .nilf .nilf = some (.bool true) := by kernel_rfl
attribute [go_sem] eq_132_n
theorem ne_132 (xo yo : Operand) (f : Fn) (a b : List CV) : binT Go.Proofs.Tryd.prog .neq 132 xo yo (.fn f a b) .nilf = some (.bool true) := by kernel_rfl
attribute [go_sem] ne_132
theorem ne_132_n (xo yo : Operand) : binT Go.Proofs.Tryd.prog .neq 132 xo yo .nilf .nilf = some (.bool false) := by kernel_rfl
attribute [go_sem] ne_132_n
theorem sz_133 : szOf Go.Proofs.Tryd.prog 133 = some 1 := by kernel_rfl
attribute [go_sem] sz_133
theorem ld_133 (h : H) (id off : Nat) : loadT Go.Proofs.Tryd.prog h 133 id off = @thn _ _ (h.blk id) ⟨fun b => b.get off⟩ := by kernel_rfl
attribute [go_sem] ld_133
theorem st_133 (h : H) (id off : Nat) (v : CV) : storeT Go.Proofs.Tryd.prog h 133 id off v = @thn _ _ (h.blk id) ⟨fun b => cond (Nat.beq v.cells.length 1 && !b.ro) ((b.storeA off v.cells).map fun b' => h.put id (.cells b')) none⟩ := by kernel_rfl
attribute [go_sem] st_133
theorem part_133 (cs : List CV) (off : Nat) : partT Go.Proofs.Tryd.prog 133 cs off = nth cs off := by kernel_rfl
attribute [go_sem] part_133
theorem ze_133 : zeroT Go.Proofs.Tryd.prog 133 = some (.nilf) := by kernel_rfl
attribute [go_sem] ze_133
theorem eq_133 (xo yo : Operand) (f : Fn) (a b : List CV) : binT Go.Proofs.Tryd.prog .eql 133 xo yo (.fn f a b) .nilf = some (.bool false) := by kernel_rfl
attribute [go_sem] eq_133
theorem eq_133_n (xo yo : Operand) : binT Go.Proofs.Tryd.prog .eql 133 xo yo .nilf .nilf = some (.bool true) := by kernel_rfl
attribute [go_sem] eq_133_n
theorem ne_133 (xo yo : Operand) (f : Fn) (a b : List CV) : binT Go.Proofs.Tryd.prog .neq 133 xo yo (.fn f a b) .nilf = some (.bool true) := by kernel_rfl
attribute [go_sem] ne_133
theorem ne_133_n (xo yo : Operand) : binT Go.Proofs.Tryd.prog .neq 133 xo yo .nilf .nilf = some (.bool false) := by kernel_rfl
attribute [go_sem] ne_133_n
theorem sz_134 : szOf Go.Proofs.Tryd.prog 134 = some 1 := by kernel_rfl
attribute [go_sem] sz_134
theorem ld_134 (h : H) (id off : Nat) : loadT Go.Proofs.Tryd.prog h 134 id off = @thn _ _ (h.blk id) ⟨fun b => b.get off⟩ := by kernel_rfl
attribute [go_sem] ld_134
theorem st_134 (h : H) (id off : Nat) (v : CV) : storeT Go.Proofs.Tryd.prog h 134 id off v = @thn _ _ (h.blk id) ⟨fun b => cond (Nat.beq v.cells.length 1 && !b.ro) ((b.storeA off v.cells).map fun b' => h.put id (.cells b')) none⟩ := by kernel_rfl
attribute [go_sem] st_134
theorem part_134 (cs : List CV) (off : Nat) : partT Go.Proofs.Tryd.prog 134 cs off = nth cs off := by kernel_rfl
attribute [go_sem] part_134
theorem ze_134 : zeroT Go.Proofs.Tryd.prog 134 = some (.nilf) := by kernel_rfl
attribute [go_sem] ze_134
theorem eq_134 (xo yo : Operand) (f : Fn) (a b : List CV) : binT Go.Proofs.Tryd.prog .eql 134 xo yo (.fn f a b) .nilf = some (.bool false) := by kernel_rfl
attribute [go_sem] eq_134
theorem eq_134_n (xo yo : Operand) : binT Go.Proofs.Tryd.prog .eql 134 xo yo .nilf .nilf = some (.bool true) := by kernel_rfl
attribute [go_sem] eq_134_n
theorem ne_134 (xo yo : Operand) (f : Fn) (a b : List CV) : binT Go.Proofs.Tryd.prog .neq 134 xo yo (.fn f a b) .nilf = some (.bool true) := by kernel_rfl
attribute [go_sem] ne_134
theorem ne_134_n (xo yo : Operand) : binT Go.Proofs.Tryd.prog .neq 134 xo yo .nilf .nilf = some (.bool false) := by kernel_rfl
attribute [go_sem] ne_134_n
theorem sz_135 : szOf Go.Proofs.Tryd.prog 135 = some 4 := by kernel_rfl
attribute [go_sem] sz_135
theorem ld_135 (h : H) (id off : Nat) : loadT Go.Proofs.Tryd.prog h 135 id off = @thn _ _ (h.blk id) ⟨fun b => (b.loadN off 4).map .agg⟩ := by kernel_rfl
attribute [go_sem] ld_135
theorem st_135 (h : H) (id off : Nat) (v : CV) : storeT Go.Proofs.Tryd.prog h 135 id off v = @thn _ _ (h.blk id) ⟨fun b => cond (Nat.beq v.cells.length 4 && !b.ro) ((b.storeA off v.cells).map fun b' => h.put id (.cells b')) none⟩ := by kernel_rfl
attribute [go_sem] st_135
theorem part_135 (cs : List CV) (off : Nat) : partT Go.Proofs.Tryd.prog 135 cs off = some (.agg ((cs.drop off).take 4)) := by kernel_rfl
attribute [go_sem] part_135
theorem ze_135 : zeroT Go.Proofs.Tryd.prog 135 = some (.agg [.nilp, .nilp, .nilp, .str []]) := by kernel_rfl
attribute [go_sem] ze_135
theorem bt_135 (parts : List (Nat × CV)) : buildT Go.Proofs.Tryd.prog 135 parts = finB (CV.cells (.agg [.nilp, .nilp, .nilp, .str []])) (nth [(0, 1), (1, 1), (2, 1), (3, 1)]) parts := by kernel_rfl
attribute [go_sem] bt_135
theorem fa_135_0 (id off : Nat) : fieldAddrT Go.Proofs.Tryd.prog 135 (.ptr id off) 0 = some (.ptr id (off)) := by kernel_rfl
attribute [go_sem] fa_135_0
theorem fd_135_0 (cs : List CV) : fieldT Go.Proofs.Tryd.prog 135 (.agg cs) 0 = partT Go.Proofs.Tryd.prog 17 cs 0 := by kernel_rfl
attribute [go_sem] fd_135_0
theorem fa_135_1 (id off : Nat) : fieldAddrT Go.Proofs.Tryd.prog 135 (.ptr id off) 1 = some (.ptr id (off + 1)) := by kernel_rfl
attribute [go_sem] fa_135_1
theorem fd_135_1 (cs : List CV) : fieldT Go.Proofs.Tryd.prog 135 (.agg cs) 1 = partT Go.Proofs.Tryd.prog 17 cs 1 := by kernel_rfl
attribute [go_sem] fd_135_1
theorem fa_135_2 (id off : Nat) : fieldAddrT Go.Proofs.Tryd.prog 135 (.ptr id off) 2 = some (.ptr id (off + 2)) := by kernel_rfl
attribute [go_sem] fa_135_2
theorem fd_135_2 (cs : List CV) : fieldT Go.Proofs.Tryd.prog 135 (.agg cs) 2 = partT Go.Proofs.Tryd.prog 17 cs 2 := by kernel_rfl
attribute [go_sem] fd_135_2
theorem fa_135_3 (id off : Nat) : fieldAddrT Go.Proofs.Tryd.prog 135 (.ptr id off) 3 = some (.ptr id (off + 3)) := by kernel_rfl
attribute [go_sem] fa_135_3
theorem fd_135_3 (cs : List CV) : fieldT Go.Proofs.Tryd.prog 135 (.agg cs) 3 = partT Go.Proofs.Tryd.prog 9 cs 3 := by kernel_rfl
attribute [go_sem] fd_135_3
theorem sz_136 : szOf Go.Proofs.Tryd.prog 136 = some 4 := by kernel_rfl
attribute [go_sem] sz_136
theorem ld_136 (h : H) (id off : Nat) : loadT Go.Proofs.Tryd.prog h 136 id off = @thn _ _ (h.blk id) ⟨fun b => (b.loadN off 4).map .agg⟩ := by kernel_rfl
attribute [go_sem] ld_136
theorem st_136 (h : H) (id off : Nat) (v : CV) : storeT Go.Proofs.Tryd.prog h 136 id off v = @thn _ _ (h.blk id) ⟨fun b => cond (Nat.beq v.cells.length 4 && !b.ro) ((b.storeA off v.cells).map fun b' => h.put id (.cells b')) none⟩ := by kernel_rfl
attribute [go_sem] st_136
theorem part_136 (cs : List CV) (off : Nat) : partT Go.Proofs.Tryd.prog 136 cs off = some (.agg ((cs.drop off).take 4)) := by kernel_rfl
attribute [go_sem] part_136
theorem ze_136 : zeroT Go.Proofs.Tryd.prog 136 = some (.agg [.nilp, .nilp, .nilp, .str []]) := by kernel_rfl
attribute [go_sem] ze_136
theorem bt_136 (parts : List (Nat × CV)) : buildT Go.Proofs.Tryd.prog 136 parts = finB (CV.cells (.agg [.nilp, .nilp, .nilp, .str []])) (nth [(0, 1), (1, 1), (2, 1), (3, 1)]) parts := by kernel_rfl
attribute [go_sem] bt_136
theorem fa_136_0 (id off : Nat) : fieldAddrT Go.Proofs.Tryd.prog 136 (.ptr id off) 0 = some (.ptr id (off)) := by kernel_rfl
attribute [go_sem] fa_136_0
theorem fd_136_0 (cs : List CV) : fieldT Go.Proofs.Tryd.prog 136 (.agg cs) 0 = partT Go.Proofs.Tryd.prog 17 cs 0 := by kernel_rfl
attribute [go_sem] fd_136_0
theorem fa_136_1 (id off : Nat) : fieldAddrT Go.Proofs.Tryd.prog 136 (.ptr id off) 1 = some (.ptr id (off + 1)) := by kernel_rfl
attribute [go_sem] fa_136_1
theorem fd_136_1 (cs : List CV) : fieldT Go.Proofs.Tryd.prog 136 (.agg cs) 1 = partT Go.Proofs.Tryd.prog 17 cs 1 := by kernel_rfl
attribute [go_sem] fd_136_1
theorem fa_136_2 (id off : Nat) : fieldAddrT Go.Proofs.Tryd.prog 136 (.ptr id off) 2 = some (.ptr id (off + 2)) := by kernel_rfl
attribute [go_sem] fa_136_2
theorem fd_136_2 (cs : List CV) : fieldT Go.Proofs.Tryd.prog 136 (.agg cs) 2 = partT Go.Proofs.Tryd.prog 17 cs 2 := by kernel_rfl
attribute [go_sem] fd_136_2
theorem fa_136_3 (id off : Nat) : fieldAddrT Go.Proofs.Tryd.prog 136 (.ptr id off) 3 = some (.ptr id (off + 3)) := by kernel_rfl
attribute [go_sem] fa_136_3
theorem fd_136_3 (cs : List CV) : fieldT Go.Proofs.Tryd.prog 136 (.agg cs) 3 = partT Go.Proofs.Tryd.prog 9 cs 3 := by kernel_rfl
attribute [go_sem] fd_136_3
theorem sz_137 : szOf Go.Proofs.Tryd.prog 137 = some 0 := by kernel_rfl
attribute [go_sem] sz_137
theorem ld_137 (h : H) (id off : Nat) : loadT Go.Proofs.Tryd.prog h 137 id off = @thn _ _ (h.blk id) ⟨fun b => (b.loadN off 0).map .agg⟩ := by kernel_rfl
attribute [go_sem] ld_137
theorem st_137 (h : H) (id off : Nat) (v : CV) : storeT Go.Proofs.Tryd.prog h 137 id off v = @thn _ _ (h.blk id) ⟨fun b => cond (Nat.beq v.cells.length 0 && !b.ro) ((b.storeA off v.cells).map fun b' => h.put id (.cells b')) none⟩ := by kernel_rfl
attribute [go_sem] st_137
theorem part_137 (cs : List CV) (off : Nat) : partT Go.Proofs.Tryd.prog 137 cs off = some (.agg ((cs.drop off).take 0)) := by kernel_rfl
attribute [go_sem] part_137
theorem ze_137 : zeroT Go.Proofs.Tryd.prog 137 = some (.agg []) := by kernel_rfl
attribute [go_sem] ze_137
theorem ia_137 (id off k : Nat) (kd : IntKind) : indexAddrT Go.Proofs.Tryd.prog 137 (.ptr id off) (.int kd (Int.ofNat k)) = cond (Nat.blt k 0) (some (.ptr id (off + k * 1))) none := by kernel_rfl
attribute [go_sem] ia_137
theorem ix_137 (cs : List CV) (k : Nat) (kd : IntKind) : indexT Go.Proofs.Tryd.prog 137 (.agg cs) (.int kd (Int.ofNat k)) = cond (Nat.blt k 0) (partT Go.Proofs.Tryd.prog 16 cs (k * 1)) none := by kernel_rfl
attribute [go_sem] ix_137
theorem len_137 (h : H) (ts : List TypeId) (az : List CV) (a : CV) : builtinT Go.Proofs.Tryd.prog h .len (137 :: ts) (a :: az) = some (.val (.int .i64 0)) := by kernel_rfl
attribute [go_sem] len_137
theorem bt_137 (parts : List (Nat × CV)) : buildT Go.Proofs.Tryd.prog 137 parts = finB (CV.cells (.agg [])) (fun i => some (i * 1, 1)) parts := by kernel_rfl
attribute [go_sem] bt_137
theorem sz_138 : szOf Go.Proofs.Tryd.prog 138 = some 0 := by kernel_rfl
attribute [go_sem] sz_138
theorem ld_138 (h : H) (id off : Nat) : loadT Go.Proofs.Tryd.prog h 138 id off = @thn _ _ (h.blk id) ⟨fun b => (b.loadN off 0).map .agg⟩ := by kernel_rfl
attribute [go_sem] ld_138
theorem st_138 (h : H) (id off : Nat) (v : CV) : storeT Go.Proofs.Tryd.prog h 138 id off v = @thn _ _ (h.blk id) ⟨fun b => cond (Nat.beq v.cells.length 0 && !b.ro) ((b.storeA off v.cells).map fun b' => h.put id (.cells b')) none⟩ := by kernel_rfl
attribute [go_sem] st_138
theorem part_138 (cs : List CV) (off : Nat) : partT Go.Proofs.Tryd.prog 138 cs off = some (.agg ((cs.drop off).take 0)) := by kernel_rfl
attribute [go_sem] part_138
theorem ze_138 : zeroT Go.Proofs.Tryd.prog 138 = some (.agg []) := by kernel_rfl
attribute [go_sem] ze_138
theorem bt_138 (parts : List (Nat × CV)) : buildT Go.Proofs.Tryd.prog 138 parts = finB (CV.cells (.agg [])) (nth [(0, 0)]) parts := by kernel_rfl
attribute [go_sem] bt_138
theorem fd_138_0 (cs : List CV) : fieldT Go.Proofs.Tryd.prog 138 (.agg cs) 0 = partT Go.Proofs.Tryd.prog 137 cs 0 := by kernel_rfl
attribute [go_sem] fd_138_0
theorem sz_139 : szOf Go.Proofs.Tryd.prog 139 = some 0 := by kernel_rfl
attribute [go_sem] sz_139
theorem ld_139 (h : H) (id off : Nat) : loadT Go.Proofs.Tryd.prog h 139 id off = @thn _ _ (h.blk id) ⟨fun b => (b.loadN off 0).map .agg⟩ := by kernel_rfl
attribute [go_sem] ld_139
theorem st_139 (h : H) (id off : Nat) (v : CV) : storeT Go.Proofs.Tryd.prog h 139 id off v = @thn _ _ (h.blk id) ⟨fun b => cond (Nat.beq v.cells.length 0 && !b.ro) ((b.storeA off v.cells).map fun b' => h.put id (.cells b')) none⟩ := by kernel_rfl
attribute [go_sem] st_139
theorem part_139 (cs : List CV) (off : Nat) : partT Go.Proofs.Tryd.prog 139 cs off = some (.agg ((cs.drop off).take 0)) := by kernel_rfl
attribute [go_sem] part_139
theorem ze_139 : zeroT Go.Proofs.Tryd.prog 139 = some (.agg []) := by kernel_rfl
attribute [go_sem] ze_139
theorem bt_139 (parts : List (Nat × CV)) : buildT Go.Proofs.Tryd.prog 139 parts = finB (CV.cells (.agg [])) (nth [(0, 0)]) parts := by kernel_rfl
attribute [go_sem] bt_139
theorem fd_139_0 (cs : List CV) : fieldT Go.Proofs.Tryd.prog 139 (.agg cs) 0 = partT Go.Proofs.Tryd.prog 137 cs 0 := by kernel_rfl
attribute [go_sem] fd_139_0
theorem sz_140 : szOf Go.Proofs.Tryd.prog 140 = some 1 := by kernel_rfl
attribute [go_sem] sz_140
theorem ld_140 (h : H) (id off : Nat) : loadT Go.Proofs.Tryd.prog h 140 id off = @thn _ _ (h.blk id) ⟨fun b => b.get off⟩ := by kernel_rfl
attribute [go_sem] ld_140
theorem st_140 (h : H) (id off : Nat) (v : CV) : storeT Go.Proofs.Tryd.prog h 140 id off v = @thn _ _ (h.blk id) ⟨fun b => cond (Nat.beq v.cells.length 1 && !b.ro) ((b.storeA off v.cells).map fun b' => h.put id (.cells b')) none⟩ := by kernel_rfl
attribute [go_sem] st_140
theorem part_140 (cs : List CV) (off : Nat) : partT Go.Proofs.Tryd.prog 140 cs off = nth cs off := by kernel_rfl
attribute [go_sem] part_140
theorem ze_140 : zeroT Go.Proofs.Tryd.prog 140 = some (.int .u8 0) := by kernel_rfl
attribute [go_sem] ze_140
theorem sz_141 : szOf Go.Proofs.Tryd.prog 141 = some 1 := by kernel_rfl
attribute [go_sem] sz_141
theorem ld_141 (h : H) (id off : Nat) : loadT Go.Proofs.Tryd.prog h 141 id off = @thn _ _ (h.blk id) ⟨fun b => b.get off⟩ := by kernel_rfl
attribute [go_sem] ld_141
theorem st_141 (h : H) (id off : Nat) (v : CV) : storeT Go.Proofs.Tryd.prog h 141 id off v = @thn _ _ (h.blk id) ⟨fun b => cond (Nat.beq v.cells.length 1 && !b.ro) ((b.storeA off v.cells).map fun b' => h.put id (.cells b')) none⟩ := by kernel_rfl
attribute [go_sem] st_141
theorem part_141 (cs : List CV) (off : Nat) : partT Go.Proofs.Tryd.prog 141 cs off = nth cs off := by kernel_rfl
attribute [go_sem] part_141
theorem ze_141 : zeroT Go.Proofs.Tryd.prog 141 = some (.int .u8 0) := by kernel_rfl
attribute [go_sem] ze_141
theorem sz_142 : szOf Go.Proofs.Tryd.prog 142 = some 1 := by kernel_rfl
attribute [go_sem] sz_142
theorem ld_142 (h : H) (id off : Nat) : loadT Go.Proofs.Tryd.prog h 142 id off = @thn _ _ (h.blk id) ⟨fun b => b.get off⟩ := by kernel_rfl
attribute [go_sem] ld_142
theorem st_142 (h : H) (id off : Nat) (v : CV) : storeT Go.Proofs.Tryd.prog h 142 id off v = @thn _ _ (h.blk id) ⟨fun b => cond (Nat.beq v.cells.length 1 && !b.ro) ((b.storeA off v.cells).map fun b' => h.put id (.cells b')) none⟩ := by kernel_rfl
attribute [go_sem] st_142
theorem part_142 (cs : List CV) (off : Nat) : partT Go.Proofs.Tryd.prog 142 cs off = nth cs off := by kernel_rfl
attribute [go_sem] part_142
theorem ze_142 : zeroT Go.Proofs.Tryd.prog 142 = some (.nilf) := by kernel_rfl
attribute [go_sem] ze_142
theorem eq_142 (xo yo : Operand) (f : Fn) (a b : List CV) : binT Go.Proofs.Tryd.prog .eql 142 xo yo (.fn f a b) .nilf = some (.bool false) := by kernel_rfl
attribute [go_sem] eq_142
theorem eq_142_n (xo yo : Operand) : binT Go.Proofs.Tryd.prog .eql 142 xo yo .nilf .nilf = some (.bool true) := by kernel_rfl
attribute [go_sem] eq_142_n
theorem ne_142 (xo yo : Operand) (f : Fn) (a b : List CV) : binT Go.Proofs.Tryd.prog .neq 142 xo yo (.fn f a b) .nilf = some (.bool true) := by kernel_rfl
attribute [go_sem] ne_142
theorem ne_142_n (xo yo : Operand) : binT Go.Proofs.Tryd.prog .neq 142 xo yo .nilf .nilf = some (.bool false) := by kernel_rfl
attribute [go_sem] ne_142_n
theorem sz_143 : szOf Go.Proofs.Tryd.prog 143 = some 1 := by kernel_rfl
attribute [go_sem] sz_143
theorem ld_143 (h : H) (id off : Nat) : loadT Go.Proofs.Tryd.prog h 143 id off = @thn _ _ (h.blk id) ⟨fun b => b.get off⟩ := by kernel_rfl
attribute [go_sem] ld_143
theorem st_143 (h : H) (id off : Nat) (v : CV) : storeT Go.Proofs.Tryd.prog h 143 id off v = @thn _ _ (h.blk id) ⟨fun b => cond (Nat.beq v.cells.length 1 && !b.ro) ((b.storeA off v.cells).map fun b' => h.put id (.cells b')) none⟩ := by kernel_rfl
attribute [go_sem] st_143
theorem part_143 (cs : List CV) (off : Nat) : partT Go.Proofs.Tryd.prog 143 cs off = nth cs off := by kernel_rfl
attribute [go_sem] part_143
theorem ze_143 : zeroT Go.Proofs.Tryd.prog 143 = some (.nilp) := by kernel_rfl
attribute [go_sem] ze_143
theorem eq_143 (xo yo : Operand) (a b : Nat) : binT Go.Proofs.Tryd.prog .eql 143 xo yo (.ptr a b) .nilp = some (.bool false) := by kernel_rfl
attribute [go_sem] eq_143
theorem eq_143_n (xo yo : Operand) : binT Go.Proofs.Tryd.prog .eql 143 xo yo .nilp .nilp = some (.bool true) := by kernel_rfl
attribute [go_sem] eq_143_n
theorem ne_143 (xo yo : Operand) (a b : Nat) : binT Go.Proofs.Tryd.prog .neq 143 xo yo (.ptr a b) .nilp = some (.bool true) := by kernel_rfl
attribute [go_sem] ne_143
theorem ne_143_n (xo yo : Operand) : binT Go.Proofs.Tryd.prog .neq 143 xo yo .nilp .nilp = some (.bool false) := by kernel_rfl
attribute [go_sem] ne_143_n
theorem sz_144 : szOf Go.Proofs.Tryd.prog 144 = some 1 := by kernel_rfl
attribute [go_sem] sz_144
theorem ld_144 (h : H) (id off : Nat) : loadT Go.Proofs.Tryd.prog h 144 id off = @thn _ _ (h.blk id) ⟨fun b => b.get off⟩ := by kernel_rfl
attribute [go_sem] ld_144
theorem st_144 (h : H) (id off : Nat) (v : CV) : storeT Go.Proofs.Tryd.prog h 144 id off v = @thn _ _ (h.blk id) ⟨fun b => cond (Nat.beq v.cells.length 1 && !b.ro) ((b.storeA off v.cells).map fun b' => h.put id (.cells b')) none⟩ := by kernel_rfl
attribute [go_sem] st_144
theorem part_144 (cs : List CV) (off : Nat) : partT Go.Proofs.Tryd.prog 144 cs off = nth cs off := by kernel_rfl
attribute [go_sem] part_144
theorem ze_144 : zeroT Go.Proofs.Tryd.prog 144 = some (.int .i32 0) := by kernel_rfl
attribute [go_sem] ze_144
theorem sz_145 : szOf Go.Proofs.Tryd.prog 145 = some 1 := by kernel_rfl
attribute [go_sem] sz_145
theorem ld_145 (h : H) (id off : Nat) : loadT Go.Proofs.Tryd.prog h 145 id off = @thn _ _ (h.blk id) ⟨fun b => b.get off⟩ := by kernel_rfl
attribute [go_sem] ld_145
theorem st_145 (h : H) (id off : Nat) (v : CV) : storeT Go.Proofs.Tryd.prog h 145 id off v = @thn _ _ (h.blk id) ⟨fun b => cond (Nat.beq v.cells.length 1 && !b.ro) ((b.storeA off v.cells).map fun b' => h.put id (.cells b')) none⟩ := by kernel_rfl
attribute [go_sem] st_145
theorem part_145 (cs : List CV) (off : Nat) : partT Go.Proofs.Tryd.prog 145 cs off = nth cs off := by kernel_rfl
attribute [go_sem] part_145
theorem ze_145 : zeroT Go.Proofs.Tryd.prog 145 = some (.int .i32 0) := by kernel_rfl
attribute [go_sem] ze_145
theorem sz_146 : szOf Go.Proofs.Tryd.prog 146 = some 11 := by kernel_rfl
attribute [go_sem] sz_146
theorem ld_146 (h : H) (id off : Nat) : loadT Go.Proofs.Tryd.prog h 146 id off = @thn _ _ (h.blk id) ⟨fun b => (b.loadN off 11).map .agg⟩ := by kernel_rfl
attribute [go_sem] ld_146
theorem st_146 (h : H) (id off : Nat) (v : CV) : storeT Go.Proofs.Tryd.prog h 146 id off v = @thn _ _ (h.blk id) ⟨fun b => cond (Nat.beq v.cells.length 11 && !b.ro) ((b.storeA off v.cells).map fun b' => h.put id (.cells b')) none⟩ := by kernel_rfl
attribute [go_sem] st_146
theorem part_146 (cs : List CV) (off : Nat) : partT Go.Proofs.Tryd.prog 146 cs off = some (.agg ((cs.drop off).take 11)) := by kernel_rfl
attribute [go_sem] part_146
theorem ze_146 : zeroT Go.Proofs.Tryd.prog 146 = some (.agg [.int .u64 0, .int .u64 0, .int .u32 0, .int .u8 0, .int .u8 0, .int .u8 0, .int .u8 0, .nilf, .nilp, .int .i32 0, .int .i32 0]) := by kernel_rfl
attribute [go_sem] ze_146
theorem bt_146 (parts : List (Nat × CV)) : buildT Go.Proofs.Tryd.prog 146 parts = finB (CV.cells (.agg [.int .u64 0, .int .u64 0, .int .u32 0, .int .u8 0, .int .u8 0, .int .u8 0, .int .u8 0, .nilf, .nilp, .int .i32 0, .int .i32 0])) (nth [(0, 1), (1, 1), (2, 1), (3, 1), (4, 1), (5, 1), (6, 1), (7, 1), (8, 1), (9, 1), (10, 1)]) parts := by kernel_rfl
attribute [go_sem] bt_146
theorem fa_146_0 (id off : Nat) : fieldAddrT Go.Proofs.Tryd.prog 146 (.ptr id off) 0 = some (.ptr id (off)) := by kernel_rfl
attribute [go_sem] fa_146_0
theorem fd_146_0 (cs : List CV) : fieldT Go.Proofs.Tryd.prog 146 (.agg cs) 0 = partT Go.Proofs.Tryd.prog 12 cs 0 := by kernel_rfl
attribute [go_sem] fd_146_0
theorem fa_146_1 (id off : Nat) : fieldAddrT Go.Proofs.Tryd.prog 146 (.ptr id off) 1 = some (.ptr id (off + 1)) := by kernel_rfl
attribute [go_sem] fa_146_1
theorem fd_146_1 (cs : List CV) : fieldT Go.Proofs.Tryd.prog 146 (.agg cs) 1 = partT Go.Proofs.Tryd.prog 12 cs 1 := by kernel_rfl
attribute [go_sem] fd_146_1
theorem fa_146_2 (id off : Nat) : fieldAddrT Go.Proofs.Tryd.prog 146 (.ptr id off) 2 = some (.ptr id (off + 2)) := by kernel_rfl
attribute [go_sem] fa_146_2
theorem fd_146_2 (cs : List CV) : fieldT Go.Proofs.Tryd.prog 146 (.agg cs) 2 = partT Go.Proofs.Tryd.prog 104 cs 2 := by kernel_rfl
attribute [go_sem] fd_146_2
theorem fa_146_3 (id off : Nat) : fieldAddrT Go.Proofs.Tryd.prog 146 (.ptr id off) 3 = some (.ptr id (off + 3)) := by kernel_rfl
attribute [go_sem] fa_146_3
theorem fd_146_3 (cs : List CV) : fieldT Go.Proofs.Tryd.prog 146 (.agg cs) 3 = partT Go.Proofs.Tryd.prog 140 cs 3 := by kernel_rfl
attribute [go_sem] fd_146_3
theorem fa_146_4 (id off : Nat) : fieldAddrT Go.Proofs.Tryd.prog 146 (.ptr id off) 4 = some (.ptr id (off + 4)) := by kernel_rfl
attribute [go_sem] fa_146_4
theorem fd_146_4 (cs : List CV) : fieldT Go.Proofs.Tryd.prog 146 (.agg cs) 4 = partT Go.Proofs.Tryd.prog 5 cs 4 := by kernel_rfl
attribute [go_sem] fd_146_4
theorem fa_146_5 (id off : Nat) : fieldAddrT Go.Proofs.Tryd.prog 146 (.ptr id off) 5 = some (.ptr id (off + 5)) := by kernel_rfl
attribute [go_sem] fa_146_5
theorem fd_146_5 (cs : List CV) : fieldT Go.Proofs.Tryd.prog 146 (.agg cs) 5 = partT Go.Proofs.Tryd.prog 5 cs 5 := by kernel_rfl
attribute [go_sem] fd_146_5
theorem fa_146_6 (id off : Nat) : fieldAddrT Go.Proofs.Tryd.prog 146 (.ptr id off) 6 = some (.ptr id (off + 6)) := by kernel_rfl
attribute [go_sem] fa_146_6
theorem fd_146_6 (cs : List CV) : fieldT Go.Proofs.Tryd.prog 146 (.agg cs) 6 = partT Go.Proofs.Tryd.prog 141 cs 6 := by kernel_rfl
attribute [go_sem] fd_146_6
theorem fa_146_7 (id off : Nat) : fieldAddrT Go.Proofs.Tryd.prog 146 (.ptr id off) 7 = some (.ptr id (off + 7)) := by kernel_rfl
attribute [go_sem] fa_146_7
theorem fd_146_7 (cs : List CV) : fieldT Go.Proofs.Tryd.prog 146 (.agg cs) 7 = partT Go.Proofs.Tryd.prog 142 cs 7 := by kernel_rfl
attribute [go_sem] fd_146_7
theorem fa_146_8 (id off : Nat) : fieldAddrT Go.Proofs.Tryd.prog 146 (.ptr id off) 8 = some (.ptr id (off + 8)) := by kernel_rfl
attribute [go_sem] fa_146_8
theorem fd_146_8 (cs : List CV) : fieldT Go.Proofs.Tryd.prog 146 (.agg cs) 8 = partT Go.Proofs.Tryd.prog 143 cs 8 := by kernel_rfl
attribute [go_sem] fd_146_8
theorem fa_146_9 (id off : Nat) : fieldAddrT Go.Proofs.Tryd.prog 146 (.ptr id off) 9 = some (.ptr id (off + 9)) := by kernel_rfl
attribute [go_sem] fa_146_9
theorem fd_146_9 (cs : List CV) : fieldT Go.Proofs.Tryd.prog 146 (.agg cs) 9 = partT Go.Proofs.Tryd.prog 144 cs 9 := by kernel_rfl
attribute [go_sem] fd_146_9
theorem fa_146_10 (id off : Nat) : fieldAddrT Go.Proofs.Tryd.prog 146 (.ptr id off) 10 = some (.ptr id (off + 10)) := by kernel_rfl
attribute [go_sem] fa_146_10
theorem fd_146_10 (cs : List CV) : fieldT Go.Proofs.Tryd.prog 146 (.agg cs) 10 = partT Go.Proofs.Tryd.prog 145 cs 10 := by kernel_rfl
attribute [go_sem] fd_146_10
theorem sz_147 : szOf Go.Proofs.Tryd.prog 147 = some 11 := by kernel_rfl
attribute [go_sem] sz_147
theorem ld_147 (h : H) (id off : Nat) : loadT Go.Proofs.Tryd.prog h 147 id off = @thn _ _ (h.blk id) ⟨fun b => (b.loadN off 11).map .agg⟩ := by kernel_rfl
attribute [go_sem] ld_147
theorem st_147 (h : H) (id off : Nat) (v : CV) : storeT Go.Proofs.Tryd.prog h 147 id off v = @thn _ _ (h.blk id) ⟨fun b => cond (Nat.beq v.cells.length 11 && !b.ro) ((b.storeA off v.cells).map fun b' => h.put id (.cells b')) none⟩ := by kernel_rfl
attribute [go_sem] st_147
theorem part_147 (cs : List CV) (off : Nat) : partT Go.Proofs.Tryd.prog 147 cs off = some (.agg ((cs.drop off).take 11)) := by kernel_rfl
attribute [go_sem] part_147
theorem ze_147 : zeroT Go.Proofs.Tryd.prog 147 = some (.agg [.int .u64 0, .int .u64 0, .int .u32 0, .int .u8 0, .int .u8 0, .int .u8 0, .int .u8 0, .nilf, .nilp, .int .i32 0, .int .i32 0]) := by kernel_rfl
attribute [go_sem] ze_147
theorem bt_147 (parts : List (Nat × CV)) : buildT Go.Proofs.Tryd.prog 147 parts = finB (CV.cells (.agg [.int .u64 0, .int .u64 0, .int .u32 0, .int .u8 0, .int .u8 0, .int .u8 0, .int .u8 0, .nilf, .nilp, .int .i32 0, .int .i32 0])) (nth [(0, 1), (1, 1), (2, 1), (3, 1), (4, 1), (5, 1), (6, 1), (7, 1), (8, 1), (9, 1), (10, 1)]) parts := by kernel_rfl
attribute [go_sem] bt_147
theorem fa_147_0 (id off : Nat) : fieldAddrT Go.Proofs.Tryd.prog 147 (.ptr id off) 0 = some (.ptr id (off)) := by kernel_rfl
attribute [go_sem] fa_147_0
theorem fd_147_0 (cs : List CV) : fieldT Go.Proofs.Tryd.prog 147 (.agg cs) 0 = partT Go.Proofs.Tryd.prog 12 cs 0 := by kernel_rfl
attribute [go_sem] fd_147_0
theorem fa_147_1 (id off : Nat) : fieldAddrT Go.Proofs.Tryd.prog 147 (.ptr id off) 1 = some (.ptr id (off + 1)) := by kernel_rfl
attribute [go_sem] fa_147_1
theorem fd_147_1 (cs : List CV) : fieldT Go.Proofs.Tryd.prog 147 (.agg cs) 1 = partT Go.Proofs.Tryd.prog 12 cs 1 := by kernel_rfl
attribute [go_sem] fd_147_1
theorem fa_147_2 (id off : Nat) : fieldAddrT Go.Proofs.Tryd.prog 147 (.ptr id off) 2 = some (.ptr id (off + 2)) := by kernel_rfl
attribute [go_sem] fa_147_2
theorem fd_147_2 (cs : List CV) : fieldT Go.Proofs.Tryd.prog 147 (.agg cs) 2 = partT Go.Proofs.Tryd.prog 104 cs 2 := by kernel_rfl
attribute [go_sem] fd_147_2
theorem fa_147_3 (id off : Nat) : fieldAddrT Go.Proofs.Tryd.prog 147 (.ptr id off) 3 = some (.ptr id (off + 3)) := by kernel_rfl
attribute [go_sem] fa_147_3
theorem fd_147_3 (cs : List CV) : fieldT Go.Proofs.Tryd.prog 147 (.agg cs) 3 = partT Go.Proofs.Tryd.prog 140 cs 3 := by kernel_rfl
attribute [go_sem] fd_147_3
theorem fa_147_4 (id off : Nat) : fieldAddrT Go.Proofs.Tryd.prog 147 (.ptr id off) 4 = some (.ptr id (off + 4)) := by kernel_rfl
attribute [go_sem] fa_147_4
theorem fd_147_4 (cs : List CV) : fieldT Go.Proofs.Tryd.prog 147 (.agg cs) 4 = partT Go.Proofs.Tryd.prog 5 cs 4 := by kernel_rfl
attribute [go_sem] fd_147_4
theorem fa_147_5 (id off : Nat) : fieldAddrT Go.Proofs.Tryd.prog 147 (.ptr id off) 5 = some (.ptr id (off + 5)) := by kernel_rfl
attribute [go_sem] fa_147_5
theorem fd_147_5 (cs : List CV) : fieldT Go.Proofs.Tryd.prog 147 (.agg cs) 5 = partT Go.Proofs.Tryd.prog 5 cs 5 := by kernel_rfl
attribute [go_sem] fd_147_5
theorem fa_147_6 (id off : Nat) : fieldAddrT Go.Proofs.Tryd.prog 147 (.ptr id off) 6 = some (.ptr id (off + 6)) := by kernel_rfl
attribute [go_sem] fa_147_6
theorem fd_147_6 (cs : List CV) : fieldT Go.Proofs.Tryd.prog 147 (.agg cs) 6 = partT Go.Proofs.Tryd.prog 141 cs 6 := by kernel_rfl
attribute [go_sem] fd_147_6
theorem fa_147_7 (id off : Nat) : fieldAddrT Go.Proofs.Tryd.prog 147 (.ptr id off) 7 = some (.ptr id (off + 7)) := by kernel_rfl
attribute [go_sem] fa_147_7
theorem fd_147_7 (cs : List CV) : fieldT Go.Proofs.Tryd.prog 147 (.agg cs) 7 = partT Go.Proofs.Tryd.prog 142 cs 7 := by kernel_rfl
attribute [go_sem] fd_147_7
theorem fa_147_8 (id off : Nat) : fieldAddrT Go.Proofs.Tryd.prog 147 (.ptr id off) 8 = some (.ptr id (off + 8)) := by kernel_rfl
attribute [go_sem] fa_147_8
theorem fd_147_8 (cs : List CV) : fieldT Go.Proofs.Tryd.prog 147 (.agg cs) 8 = partT Go.Proofs.Tryd.prog 143 cs 8 := by kernel_rfl
attribute [go_sem] fd_147_8
theorem fa_147_9 (id off : Nat) : fieldAddrT Go.Proofs.Tryd.prog 147 (.ptr id off) 9 = some (.ptr id (off + 9)) := by kernel_rfl
attribute [go_sem] fa_147_9
theorem fd_147_9 (cs : List CV) : fieldT Go.Proofs.Tryd.prog 147 (.agg cs) 9 = partT Go.Proofs.Tryd.prog 144 cs 9 := by kernel_rfl
attribute [go_sem] fd_147_9
theorem fa_147_10 (id off : Nat) : fieldAddrT Go.Proofs.Tryd.prog 147 (.ptr id off) 10 = some (.ptr id (off + 10)) := by kernel_rfl
attribute [go_sem] fa_147_10
theorem fd_147_10 (cs : List CV) : fieldT Go.Proofs.Tryd.prog 147 (.agg cs) 10 = partT Go.Proofs.Tryd.prog 145 cs 10 := by kernel_rfl
attribute [go_sem] fd_147_10
theorem sz_148 : szOf Go.Proofs.Tryd.prog 148 = some 1 := by kernel_rfl
attribute [go_sem] sz_148
theorem ld_148 (h : H) (id off : Nat) : loadT Go.Proofs.Tryd.prog h 148 id off = @thn _ _ (h.blk id) ⟨fun b => b.get off⟩ := by kernel_rfl
attribute [go_sem] ld_148
theorem st_148 (h : H) (id off : Nat) (v : CV) : storeT Go.Proofs.Tryd.prog h 148 id off v = @thn _ _ (h.blk id) ⟨fun b => cond (Nat.beq v.cells.length 1 && !b.ro) ((b.storeA off v.cells).map fun b' => h.put id (.cells b')) none⟩ := by kernel_rfl
attribute [go_sem] st_148
theorem part_148 (cs : List CV) (off : Nat) : partT Go.Proofs.Tryd.prog 148 cs off = nth cs off := by kernel_rfl
attribute [go_sem] part_148
theorem ze_148 : zeroT Go.Proofs.Tryd.prog 148 = some (.nilf) := by kernel_rfl
attribute [go_sem] ze_148
theorem eq_148 (xo yo : Operand) (f : Fn) (a b : List CV) : binT Go.Proofs.Tryd.prog .eql 148 xo yo (.fn f a b) .nilf = some (.bool false) := by kernel_rfl
attribute [go_sem] eq_148
theorem eq_148_n (xo yo : Operand) : binT Go.Proofs.Tryd.prog .eql 148 xo yo .nilf .nilf = some (.bool true) := by kernel_rfl
attribute [go_sem] eq_148_n
theorem ne_148 (xo yo : Operand) (f : Fn) (a b : List CV) : binT Go.Proofs.Tryd.prog .neq 148 xo yo (.fn f a b) .nilf = some (.bool true) := by kernel_rfl
attribute [go_sem] ne_148
theorem ne_148_n (xo yo : Operand) : binT Go.Proofs.Tryd.prog .neq 148 xo yo .nilf .nilf = some (.bool false) := by kernel_rfl
attribute [go_sem] ne_148_n
theorem sz_149 : szOf Go.Proofs.Tryd.prog 149 = some 1 := by kernel_rfl
attribute [go_sem] sz_149
theorem ld_149 (h : H) (id off : Nat) : loadT Go.Proofs.Tryd.prog h 149 id off = @thn _ _ (h.blk id) ⟨fun b => b.get off⟩ := by kernel_rfl
attribute [go_sem] ld_149
theorem st_149 (h : H) (id off : Nat) (v : CV) : storeT Go.Proofs.Tryd.prog h 149 id off v = @thn _ _ (h.blk id) ⟨fun b => cond (Nat.beq v.cells.length 1 && !b.ro) ((b.storeA off v.cells).map fun b' => h.put id (.cells b')) none⟩ := by kernel_rfl
attribute [go_sem] st_149
theorem part_149 (cs : List CV) (off : Nat) : partT Go.Proofs.Tryd.prog 149 cs off = nth cs off := by kernel_rfl
attribute [go_sem] part_149
theorem ze_149 : zeroT Go.Proofs.Tryd.prog 149 = some (.nilp) := by kernel_rfl
attribute [go_sem] ze_149
theorem cv_3_5 (h : H) (k : IntKind) (x : Int) : convT Go.Proofs.Tryd.prog h 3 5 (.int k x) = some (.val (.int .u8 (IntKind.wrap .u8 x))) := by kernel_rfl
attribute [go_sem] cv_3_5
theorem cv_28_9 (h : H) (id off len : Nat) (c : Cap) : convT Go.Proofs.Tryd.prog h 28 9 (.sl id off len c) = @thn _ _ (h.blk id) ⟨fun b => (b.loadN off len).bind fun cs => (bytesOf cs).map fun l => .val (.str l)⟩ := by kernel_rfl
attribute [go_sem] cv_28_9
theorem cv_28_9_n (h : H) : convT Go.Proofs.Tryd.prog h 28 9 .nils = some (.val (.str [])) := by kernel_rfl
attribute [go_sem] cv_28_9_n
theorem cv_28_9_z (h : H) (x y z w : Nat) : convT Go.Proofs.Tryd.prog h 28 9 (.sl0 x y z w) = some (.val (.str [])) := by kernel_rfl
attribute [go_sem] cv_28_9_z
theorem cv_67_5 (h : H) (k : IntKind) (x : Int) : convT Go.Proofs.Tryd.prog h 67 5 (.int k x) = some (.val (.int .u8 (IntKind.wrap .u8 x))) := by kernel_rfl
attribute [go_sem] cv_67_5
theorem cv_36_67 (h : H) (k : IntKind) (x : Int) : convT Go.Proofs.Tryd.prog h 36 67 (.int k x) = some (.val (.int .i64 (IntKind.wrap .i64 x))) := by kernel_rfl
attribute [go_sem] cv_36_67
theorem cv_3_36 (h : H) (k : IntKind) (x : Int) : convT Go.Proofs.Tryd.prog h 3 36 (.int k x) = some (.val (.int .u64 (IntKind.wrap .u64 x))) := by kernel_rfl
attribute [go_sem] cv_3_36
theorem cv_3_103 (h : H) (k : IntKind) (x : Int) : convT Go.Proofs.Tryd.prog h 3 103 (.int k x) = some (.val (.int .u64 (IntKind.wrap .u64 x))) := by kernel_rfl
attribute [go_sem] cv_3_103
theorem cv_36_5 (h : H) (k : IntKind) (x : Int) : convT Go.Proofs.Tryd.prog h 36 5 (.int k x) = some (.val (.int .u8 (IntKind.wrap .u8 x))) := by kernel_rfl
attribute [go_sem] cv_36_5
theorem cv_104_5 (h : H) (k : IntKind) (x : Int) : convT Go.Proofs.Tryd.prog h 104 5 (.int k x) = some (.val (.int .u8 (IntKind.wrap .u8 x))) := by kernel_rfl
attribute [go_sem] cv_104_5
theorem cv_5_36 (h : H) (k : IntKind) (x : Int) : convT Go.Proofs.Tryd.prog h 5 36 (.int k x) = some (.val (.int .u64 (IntKind.wrap .u64 x))) := by kernel_rfl
attribute [go_sem] cv_5_36
theorem cv_36_3 (h : H) (k : IntKind) (x : Int) : convT Go.Proofs.Tryd.prog h 36 3 (.int k x) = some (.val (.int .i64 (IntKind.wrap .i64 x))) := by kernel_rfl
attribute [go_sem] cv_36_3
theorem cv_67_36 (h : H) (k : IntKind) (x : Int) : convT Go.Proofs.Tryd.prog h 67 36 (.int k x) = some (.val (.int .u64 (IntKind.wrap .u64 x))) := by kernel_rfl
attribute [go_sem] cv_67_36
theorem cv_5_104 (h : H) (k : IntKind) (x : Int) : convT Go.Proofs.Tryd.prog h 5 104 (.int k x) = some (.val (.int .u32 (IntKind.wrap .u32 x))) := by kernel_rfl
attribute [go_sem] cv_5_104
theorem cv_36_104 (h : H) (k : IntKind) (x : Int) : convT Go.Proofs.Tryd.prog h 36 104 (.int k x) = some (.val (.int .u32 (IntKind.wrap .u32 x))) := by kernel_rfl
attribute [go_sem] cv_36_104
theorem eq_20 (xo yo : Operand) (u : TypeId) (v : CV) : binT Go.Proofs.Tryd.prog .eql 20 xo yo (.ifc u v) .nili = some (.bool false) := by kernel_rfl
attribute [go_sem] eq_20
theorem eq_20_n (n : Nat) (v : Value) : binT Go.Proofs.Tryd.prog .eql 20 (.tmp n) (.const v) .nili .nili = some (.bool true) := by kernel_rfl
attribute [go_sem] eq_20_n
theorem ne_20 (xo yo : Operand) (u : TypeId) (v : CV) : binT Go.Proofs.Tryd.prog .neq 20 xo yo (.ifc u v) .nili = some (.bool true) := by kernel_rfl
attribute [go_sem] ne_20
theorem ne_20_n (n : Nat) (v : Value) : binT Go.Proofs.Tryd.prog .neq 20 (.tmp n) (.const v) .nili .nili = some (.bool false) := by kernel_rfl
attribute [go_sem] ne_20_n
theorem fn_2 : nth Go.Proofs.Tryd.prog.funcs.toList 2 = some Go.Proofs.Tryd.f2 := by kernel_rfl
attribute [go_sem] fn_2
theorem tx_2 : isTextO Go.Proofs.Tryd.prog 2 = some () := by kernel_rfl
attribute [go_sem] tx_2
theorem fn_3 : nth Go.Proofs.Tryd.prog.funcs.toList 3 = some Go.Proofs.Tryd.f3 := by kernel_rfl
attribute [go_sem] fn_3
theorem tx_3 : isTextO Go.Proofs.Tryd.prog 3 = some () := by kernel_rfl
attribute [go_sem] tx_3
theorem fn_4 : nth Go.Proofs.Tryd.prog.funcs.toList 4 = some Go.Proofs.Tryd.f4 := by kernel_rfl
attribute [go_sem] fn_4
theorem tx_4 : isTextO Go.Proofs.Tryd.prog 4 = some () := by kernel_rfl
attribute [go_sem] tx_4
theorem fn_5 : nth Go.Proofs.Tryd.prog.funcs.toList 5 = some Go.Proofs.Tryd.f5 := by kernel_rfl
attribute [go_sem] fn_5
theorem tx_5 : isTextO Go.Proofs.Tryd.prog 5 = some () := by kernel_rfl
attribute [go_sem] tx_5
theorem fn_6 : nth Go.Proofs.Tryd.prog.funcs.toList 6 = some Go.Proofs.Tryd.f6 := by kernel_rfl
attribute [go_sem] fn_6
theorem tx_6 : isTextO Go.Proofs.Tryd.prog 6 = some () := by kernel_rfl
attribute [go_sem] tx_6
theorem fn_7 : nth Go.Proofs.Tryd.prog.funcs.toList 7 = some Go.Proofs.Tryd.f7 := by kernel_rfl
attribute [go_sem] fn_7
theorem tx_7 : isTextO Go.Proofs.Tryd.prog 7 = some () := by kernel_rfl
attribute [go_sem] tx_7
theorem fn_8 : nth Go.Proofs.Tryd.prog.funcs.toList 8 = some Go.Proofs.Tryd.f8 := by kernel_rfl
attribute [go_sem] fn_8
theorem tx_8 : isTextO Go.Proofs.Tryd.prog 8 = some () := by kernel_rfl
attribute [go_sem] tx_8
theorem fn_9 : nth Go.Proofs.Tryd.prog.funcs.toList 9 = some Go.Proofs.Tryd.f9 := by kernel_rfl
attribute [go_sem] fn_9
theorem tx_9 : isTextO Go.Proofs.Tryd.prog 9 = some () := by kernel_rfl
attribute [go_sem] tx_9
theorem fn_10 : nth Go.Proofs.Tryd.prog.funcs.toList 10 = some Go.Proofs.Tryd.f10 := by kernel_rfl
attribute [go_sem] fn_10
theorem tx_10 : isTextO Go.Proofs.Tryd.prog 10 = some () := by kernel_rfl
attribute [go_sem] tx_10
theorem fn_11 : nth Go.Proofs.Tryd.prog.funcs.toList 11 = some Go.Proofs.Tryd.f11 := by kernel_rfl
attribute [go_sem] fn_11
theorem tx_11 : isTextO Go.Proofs.Tryd.prog 11 = some () := by kernel_rfl
attribute [go_sem] tx_11
theorem fn_12 : nth Go.Proofs.Tryd.prog.funcs.toList 12 = some Go.Proofs.Tryd.f12 := by kernel_rfl
attribute [go_sem] fn_12
theorem tx_12 : isTextO Go.Proofs.Tryd.prog 12 = some () := by kernel_rfl
attribute [go_sem] tx_12
theorem fn_13 : nth Go.Proofs.Tryd.prog.funcs.toList 13 = some Go.Proofs.Tryd.f13 := by kernel_rfl
attribute [go_sem] fn_13
theorem tx_13 : isTextO Go.Proofs.Tryd.prog 13 = some () := by kernel_rfl
attribute [go_sem] tx_13
theorem fn_14 : nth Go.Proofs.Tryd.prog.funcs.toList 14 = some Go.Proofs.Tryd.f14 := by kernel_rfl
attribute [go_sem] fn_14
theorem tx_14 : isTextO Go.Proofs.Tryd.prog 14 = some () := by kernel_rfl
attribute [go_sem] tx_14
theorem fn_15 : nth Go.Proofs.Tryd.prog.funcs.toList 15 = some Go.Proofs.Tryd.f15 := by kernel_rfl
attribute [go_sem] fn_15
theorem tx_15 : isTextO Go.Proofs.Tryd.prog 15 = some () := by kernel_rfl
attribute [go_sem] tx_15
theorem fn_16 : nth Go.Proofs.Tryd.prog.funcs.toList 16 = some Go.Proofs.Tryd.f16 := by kernel_rfl
attribute [go_sem] fn_16
theorem tx_16 : isTextO Go.Proofs.Tryd.prog 16 = some () := by kernel_rfl
attribute [go_sem] tx_16
theorem fn_17 : nth Go.Proofs.Tryd.prog.funcs.toList 17 = some Go.Proofs.Tryd.f17 := by kernel_rfl
attribute [go_sem] fn_17
theorem tx_17 : isTextO Go.Proofs.Tryd.prog 17 = some () := by kernel_rfl
attribute [go_sem] tx_17
theorem fn_18 : nth Go.Proofs.Tryd.prog.funcs.toList 18 = some Go.Proofs.Tryd.f18 := by kernel_rfl
attribute [go_sem] fn_18
theorem tx_18 : isTextO Go.Proofs.Tryd.prog 18 = some () := by kernel_rfl
attribute [go_sem] tx_18
theorem fn_19 : nth Go.Proofs.Tryd.prog.funcs.toList 19 = some Go.Proofs.Tryd.f19 := by kernel_rfl
attribute [go_sem] fn_19
theorem tx_19 : isTextO Go.Proofs.Tryd.prog 19 = some () := by kernel_rfl
attribute [go_sem] tx_19
theorem fn_20 : nth Go.Proofs.Tryd.prog.funcs.toList 20 = some Go.Proofs.Tryd.f20 := by kernel_rfl
attribute [go_sem] fn_20
theorem tx_20 : isTextO Go.Proofs.Tryd.prog 20 = some () := by kernel_rfl
attribute [go_sem] tx_20
theorem fn_21 : nth Go.Proofs.Tryd.prog.funcs.toList 21 = some Go.Proofs.Tryd.f21 := by kernel_rfl
attribute [go_sem] fn_21
theorem tx_21 : isTextO Go.Proofs.Tryd.prog 21 = some () := by kernel_rfl
attribute [go_sem] tx_21
theorem fn_22 : nth Go.Proofs.Tryd.prog.funcs.toList 22 = some Go.Proofs.Tryd.f22 := by kernel_rfl
attribute [go_sem] fn_22
theorem tx_22 : isTextO Go.Proofs.Tryd.prog 22 = some () := by kernel_rfl
attribute [go_sem] tx_22
theorem fn_23 : nth Go.Proofs.Tryd.prog.funcs.toList 23 = some Go.Proofs.Tryd.f23 := by kernel_rfl
attribute [go_sem] fn_23
theorem tx_23 : isTextO Go.Proofs.Tryd.prog 23 = some () := by kernel_rfl
attribute [go_sem] tx_23
theorem fn_24 : nth Go.Proofs.Tryd.prog.funcs.toList 24 = some Go.Proofs.Tryd.f24 := by kernel_rfl
attribute [go_sem] fn_24
theorem tx_24 : isTextO Go.Proofs.Tryd.prog 24 = some () := by kernel_rfl
attribute [go_sem] tx_24
theorem fn_25 : nth Go.Proofs.Tryd.prog.funcs.toList 25 = some Go.Proofs.Tryd.f25 := by kernel_rfl
attribute [go_sem] fn_25
theorem tx_25 : isTextO Go.Proofs.Tryd.prog 25 = some () := by kernel_rfl
attribute [go_sem] tx_25
theorem fn_26 : nth Go.Proofs.Tryd.prog.funcs.toList 26 = some Go.Proofs.Tryd.f26 := by kernel_rfl
attribute [go_sem] fn_26
theorem tx_26 : isTextO Go.Proofs.Tryd.prog 26 = some () := by kernel_rfl
attribute [go_sem] tx_26
theorem fn_27 : nth Go.Proofs.Tryd.prog.funcs.toList 27 = some Go.Proofs.Tryd.f27 := by kernel_rfl
attribute [go_sem] fn_27
theorem tx_27 : isTextO Go.Proofs.Tryd.prog 27 = some () := by kernel_rfl
attribute [go_sem] tx_27
theorem fn_28 : nth Go.Proofs.Tryd.prog.funcs.toList 28 = some Go.Proofs.Tryd.f28 := by kernel_rfl
attribute [go_sem] fn_28
theorem tx_28 : isTextO Go.Proofs.Tryd.prog 28 = some () := by kernel_rfl
attribute [go_sem] tx_28
theorem fn_29 : nth Go.Proofs.Tryd.prog.funcs.toList 29 = some Go.Proofs.Tryd.f29 := by kernel_rfl
attribute [go_sem] fn_29
theorem tx_29 : isTextO Go.Proofs.Tryd.prog 29 = some () := by kernel_rfl
attribute [go_sem] tx_29
theorem fn_30 : nth Go.Proofs.Tryd.prog.funcs.toList 30 = some Go.Proofs.Tryd.f30 := by kernel_rfl
attribute [go_sem] fn_30
theorem tx_30 : isTextO Go.Proofs.Tryd.prog 30 = some () := by kernel_rfl
attribute [go_sem] tx_30
theorem fn_31 : nth Go.Proofs.Tryd.prog.funcs.toList 31 = some Go.Proofs.Tryd.f31 := by kernel_rfl
attribute [go_sem] fn_31
theorem tx_31 : isTextO Go.Proofs.Tryd.prog 31 = some () := by kernel_rfl
attribute [go_sem] tx_31
theorem fn_32 : nth Go.Proofs.Tryd.prog.funcs.toList 32 = some Go.Proofs.Tryd.f32 := by kernel_rfl
attribute [go_sem] fn_32
theorem tx_32 : isTextO Go.Proofs.Tryd.prog 32 = some () := by kernel_rfl
attribute [go_sem] tx_32
theorem fn_33 : nth Go.Proofs.Tryd.prog.funcs.toList 33 = some Go.Proofs.Tryd.f33 := by kernel_rfl
attribute [go_sem] fn_33
theorem tx_33 : isTextO Go.Proofs.Tryd.prog 33 = some () := by kernel_rfl
attribute [go_sem] tx_33
theorem fn_34 : nth Go.Proofs.Tryd.prog.funcs.toList 34 = some Go.Proofs.Tryd.f34 := by kernel_rfl
attribute [go_sem] fn_34
theorem tx_34 : isTextO Go.Proofs.Tryd.prog 34 = some () := by kernel_rfl
attribute [go_sem] tx_34
theorem fn_35 : nth Go.Proofs.Tryd.prog.funcs.toList 35 = some Go.Proofs.Tryd.f35 := by kernel_rfl
attribute [go_sem] fn_35
theorem tx_35 : isTextO Go.Proofs.Tryd.prog 35 = some () := by kernel_rfl
attribute [go_sem] tx_35
theorem fn_36 : nth Go.Proofs.Tryd.prog.funcs.toList 36 = some Go.Proofs.Tryd.f36 := by kernel_rfl
attribute [go_sem] fn_36
theorem tx_36 : isTextO Go.Proofs.Tryd.prog 36 = some () := by kernel_rfl
attribute [go_sem] tx_36
theorem fn_37 : nth Go.Proofs.Tryd.prog.funcs.toList 37 = some Go.Proofs.Tryd.f37 := by kernel_rfl
attribute [go_sem] fn_37
theorem tx_37 : isTextO Go.Proofs.Tryd.prog 37 = some () := by kernel_rfl
attribute [go_sem] tx_37
theorem fn_38 : nth Go.Proofs.Tryd.prog.funcs.toList 38 = some Go.Proofs.Tryd.f38 := by kernel_rfl
attribute [go_sem] fn_38
theorem tx_38 : isTextO Go.Proofs.Tryd.prog 38 = some () := by kernel_rfl
attribute [go_sem] tx_38
theorem fn_39 : nth Go.Proofs.Tryd.prog.funcs.toList 39 = some Go.Proofs.Tryd.f39 := by kernel_rfl
attribute [go_sem] fn_39
theorem tx_39 : isTextO Go.Proofs.Tryd.prog 39 = some () := by kernel_rfl
attribute [go_sem] tx_39
theorem fn_40 : nth Go.Proofs.Tryd.prog.funcs.toList 40 = some Go.Proofs.Tryd.f40 := by kernel_rfl
attribute [go_sem] fn_40
theorem tx_40 : isTextO Go.Proofs.Tryd.prog 40 = some () := by kernel_rfl
attribute [go_sem] tx_40
theorem fn_41 : nth Go.Proofs.Tryd.prog.funcs.toList 41 = some Go.Proofs.Tryd.f41 := by kernel_rfl
attribute [go_sem] fn_41
theorem tx_41 : isTextO Go.Proofs.Tryd.prog 41 = some () := by kernel_rfl
attribute [go_sem] tx_41
theorem fn_42 : nth Go.Proofs.Tryd.prog.funcs.toList 42 = some Go.Proofs.Tryd.f42 := by kernel_rfl
attribute [go_sem] fn_42
theorem tx_42 : isTextO Go.Proofs.Tryd.prog 42 = some () := by kernel_rfl
attribute [go_sem] tx_42
theorem fn_43 : nth Go.Proofs.Tryd.prog.funcs.toList 43 = some Go.Proofs.Tryd.f43 := by kernel_rfl
attribute [go_sem] fn_43
theorem tx_43 : isTextO Go.Proofs.Tryd.prog 43 = some () := by kernel_rfl
attribute [go_sem] tx_43
theorem fn_44 : nth Go.Proofs.Tryd.prog.funcs.toList 44 = some Go.Proofs.Tryd.f44 := by kernel_rfl
attribute [go_sem] fn_44
theorem tx_44 : isTextO Go.Proofs.Tryd.prog 44 = some () := by kernel_rfl
attribute [go_sem] tx_44
theorem fn_45 : nth Go.Proofs.Tryd.prog.funcs.toList 45 = some Go.Proofs.Tryd.f45 := by kernel_rfl
attribute [go_sem] fn_45
theorem tx_45 : isTextO Go.Proofs.Tryd.prog 45 = some () := by kernel_rfl
attribute [go_sem] tx_45
theorem fn_46 : nth Go.Proofs.Tryd.prog.funcs.toList 46 = some Go.Proofs.Tryd.f46 := by kernel_rfl
attribute [go_sem] fn_46
theorem tx_46 : isTextO Go.Proofs.Tryd.prog 46 = some () := by kernel_rfl
attribute [go_sem] tx_46
theorem fn_47 : nth Go.Proofs.Tryd.prog.funcs.toList 47 = some Go.Proofs.Tryd.f47 := by kernel_rfl
attribute [go_sem] fn_47
theorem tx_47 : isTextO Go.Proofs.Tryd.prog 47 = some () := by kernel_rfl
attribute [go_sem] tx_47
theorem fn_48 : nth Go.Proofs.Tryd.prog.funcs.toList 48 = some Go.Proofs.Tryd.f48 := by kernel_rfl
attribute [go_sem] fn_48
theorem tx_48 : isTextO Go.Proofs.Tryd.prog 48 = some () := by kernel_rfl
attribute [go_sem] tx_48
theorem fn_49 : nth Go.Proofs.Tryd.prog.funcs.toList 49 = some Go.Proofs.Tryd.f49 := by kernel_rfl
attribute [go_sem] fn_49
theorem tx_49 : isTextO Go.Proofs.Tryd.prog 49 = some () := by kernel_rfl
attribute [go_sem] tx_49
theorem fn_50 : nth Go.Proofs.Tryd.prog.funcs.toList 50 = some Go.Proofs.Tryd.f50 := by kernel_rfl
attribute [go_sem] fn_50
theorem tx_50 : isTextO Go.Proofs.Tryd.prog 50 = some () := by kernel_rfl
attribute [go_sem] tx_50
theorem fn_51 : nth Go.Proofs.Tryd.prog.funcs.toList 51 = some Go.Proofs.Tryd.f51 := by kernel_rfl
attribute [go_sem] fn_51
theorem tx_51 : isTextO Go.Proofs.Tryd.prog 51 = some () := by kernel_rfl
attribute [go_sem] tx_51
theorem fn_52 : nth Go.Proofs.Tryd.prog.funcs.toList 52 = some Go.Proofs.Tryd.f52 := by kernel_rfl
attribute [go_sem] fn_52
theorem tx_52 : isTextO Go.Proofs.Tryd.prog 52 = some () := by kernel_rfl
attribute [go_sem] tx_52
theorem fn_53 : nth Go.Proofs.Tryd.prog.funcs.toList 53 = some Go.Proofs.Tryd.f53 := by kernel_rfl
attribute [go_sem] fn_53
theorem tx_53 : isTextO Go.Proofs.Tryd.prog 53 = some () := by kernel_rfl
attribute [go_sem] tx_53
theorem fn_54 : nth Go.Proofs.Tryd.prog.funcs.toList 54 = some Go.Proofs.Tryd.f54 := by kernel_rfl
attribute [go_sem] fn_54
theorem tx_54 : isTextO Go.Proofs.Tryd.prog 54 = some () := by kernel_rfl
attribute [go_sem] tx_54
theorem fn_55 : nth Go.Proofs.Tryd.prog.funcs.toList 55 = some Go.Proofs.Tryd.f55 := by kernel_rfl
attribute [go_sem] fn_55
theorem tx_55 : isTextO Go.Proofs.Tryd.prog 55 = some () := by kernel_rfl
attribute [go_sem] tx_55
theorem fn_56 : nth Go.Proofs.Tryd.prog.funcs.toList 56 = some Go.Proofs.Tryd.f56 := by kernel_rfl
attribute [go_sem] fn_56
theorem tx_56 : isTextO Go.Proofs.Tryd.prog 56 = some () := by kernel_rfl
attribute [go_sem] tx_56
theorem fn_57 : nth Go.Proofs.Tryd.prog.funcs.toList 57 = some Go.Proofs.Tryd.f57 := by kernel_rfl
attribute [go_sem] fn_57
theorem tx_57 : isTextO Go.Proofs.Tryd.prog 57 = some () := by kernel_rfl
attribute [go_sem] tx_57
theorem fn_58 : nth Go.Proofs.Tryd.prog.funcs.toList 58 = some Go.Proofs.Tryd.f58 := by kernel_rfl
attribute [go_sem] fn_58
theorem tx_58 : isTextO Go.Proofs.Tryd.prog 58 = some () := by kernel_rfl
attribute [go_sem] tx_58
theorem fn_59 : nth Go.Proofs.Tryd.prog.funcs.toList 59 = some Go.Proofs.Tryd.f59 := by kernel_rfl
attribute [go_sem] fn_59
theorem tx_59 : isTextO Go.Proofs.Tryd.prog 59 = some () := by kernel_rfl
attribute [go_sem] tx_59
theorem fn_60 : nth Go.Proofs.Tryd.prog.funcs.toList 60 = some Go.Proofs.Tryd.f60 := by kernel_rfl
attribute [go_sem] fn_60
theorem tx_60 : isTextO Go.Proofs.Tryd.prog 60 = some () := by kernel_rfl
attribute [go_sem] tx_60
theorem fn_61 : nth Go.Proofs.Tryd.prog.funcs.toList 61 = some Go.Proofs.Tryd.f61 := by kernel_rfl
attribute [go_sem] fn_61
theorem tx_61 : isTextO Go.Proofs.Tryd.prog 61 = some () := by kernel_rfl
attribute [go_sem] tx_61
theorem fn_62 : nth Go.Proofs.Tryd.prog.funcs.toList 62 = some Go.Proofs.Tryd.f62 := by kernel_rfl
attribute [go_sem] fn_62
theorem tx_62 : isTextO Go.Proofs.Tryd.prog 62 = some () := by kernel_rfl
attribute [go_sem] tx_62
theorem fn_63 : nth Go.Proofs.Tryd.prog.funcs.toList 63 = some Go.Proofs.Tryd.f63 := by kernel_rfl
attribute [go_sem] fn_63
theorem tx_63 : isTextO Go.Proofs.Tryd.prog 63 = some () := by kernel_rfl
attribute [go_sem] tx_63
theorem fn_64 : nth Go.Proofs.Tryd.prog.funcs.toList 64 = some Go.Proofs.Tryd.f64 := by kernel_rfl
attribute [go_sem] fn_64
theorem tx_64 : isTextO Go.Proofs.Tryd.prog 64 = some () := by kernel_rfl
attribute [go_sem] tx_64
theorem fn_65 : nth Go.Proofs.Tryd.prog.funcs.toList 65 = some Go.Proofs.Tryd.f65 := by kernel_rfl
attribute [go_sem] fn_65
theorem tx_65 : isTextO Go.Proofs.Tryd.prog 65 = some () := by kernel_rfl
attribute [go_sem] tx_65
theorem fn_66 : nth Go.Proofs.Tryd.prog.funcs.toList 66 = some Go.Proofs.Tryd.f66 := by kernel_rfl
attribute [go_sem] fn_66
theorem tx_66 : isTextO Go.Proofs.Tryd.prog 66 = some () := by kernel_rfl
attribute [go_sem] tx_66
theorem fn_67 : nth Go.Proofs.Tryd.prog.funcs.toList 67 = some Go.Proofs.Tryd.f67 := by kernel_rfl
attribute [go_sem] fn_67
theorem tx_67 : isTextO Go.Proofs.Tryd.prog 67 = some () := by kernel_rfl
attribute [go_sem] tx_67
theorem fn_68 : nth Go.Proofs.Tryd.prog.funcs.toList 68 = some Go.Proofs.Tryd.f68 := by kernel_rfl
attribute [go_sem] fn_68
theorem tx_68 : isTextO Go.Proofs.Tryd.prog 68 = some () := by kernel_rfl
attribute [go_sem] tx_68
theorem fn_69 : nth Go.Proofs.Tryd.prog.funcs.toList 69 = some Go.Proofs.Tryd.f69 := by kernel_rfl
attribute [go_sem] fn_69
theorem tx_69 : isTextO Go.Proofs.Tryd.prog 69 = some () := by kernel_rfl
attribute [go_sem] tx_69
theorem fn_70 : nth Go.Proofs.Tryd.prog.funcs.toList 70 = some Go.Proofs.Tryd.f70 := by kernel_rfl
attribute [go_sem] fn_70
theorem tx_70 : isTextO Go.Proofs.Tryd.prog 70 = some () := by kernel_rfl
attribute [go_sem] tx_70
theorem fn_71 : nth Go.Proofs.Tryd.prog.funcs.toList 71 = some Go.Proofs.Tryd.f71 := by kernel_rfl
attribute [go_sem] fn_71
theorem tx_71 : isTextO Go.Proofs.Tryd.prog 71 = some () := by kernel_rfl
attribute [go_sem] tx_71
theorem fn_72 : nth Go.Proofs.Tryd.prog.funcs.toList 72 = some Go.Proofs.Tryd.f72 := by kernel_rfl
attribute [go_sem] fn_72
theorem tx_72 : isTextO Go.Proofs.Tryd.prog 72 = some () := by kernel_rfl
attribute [go_sem] tx_72
theorem fn_73 : nth Go.Proofs.Tryd.prog.funcs.toList 73 = some Go.Proofs.Tryd.f73 := by kernel_rfl
attribute [go_sem] fn_73
theorem tx_73 : isTextO Go.Proofs.Tryd.prog 73 = some () := by kernel_rfl
attribute [go_sem] tx_73
theorem fn_74 : nth Go.Proofs.Tryd.prog.funcs.toList 74 = some Go.Proofs.Tryd.f74 := by kernel_rfl
attribute [go_sem] fn_74
theorem tx_74 : isTextO Go.Proofs.Tryd.prog 74 = some () := by kernel_rfl
attribute [go_sem] tx_74
theorem fn_75 : nth Go.Proofs.Tryd.prog.funcs.toList 75 = some Go.Proofs.Tryd.f75 := by kernel_rfl
attribute [go_sem] fn_75
theorem tx_75 : isTextO Go.Proofs.Tryd.prog 75 = some () := by kernel_rfl
attribute [go_sem] tx_75
theorem fn_76 : nth Go.Proofs.Tryd.prog.funcs.toList 76 = some Go.Proofs.Tryd.f76 := by kernel_rfl
attribute [go_sem] fn_76
theorem tx_76 : isTextO Go.Proofs.Tryd.prog 76 = some () := by kernel_rfl
attribute [go_sem] tx_76
theorem fn_77 : nth Go.Proofs.Tryd.prog.funcs.toList 77 = some Go.Proofs.Tryd.f77 := by kernel_rfl
attribute [go_sem] fn_77
theorem tx_77 : isTextO Go.Proofs.Tryd.prog 77 = some () := by kernel_rfl
attribute [go_sem] tx_77
theorem fn_78 : nth Go.Proofs.Tryd.prog.funcs.toList 78 = some Go.Proofs.Tryd.f78 := by kernel_rfl
attribute [go_sem] fn_78
theorem tx_78 : isTextO Go.Proofs.Tryd.prog 78 = some () := by kernel_rfl
attribute [go_sem] tx_78
theorem fn_79 : nth Go.Proofs.Tryd.prog.funcs.toList 79 = some Go.Proofs.Tryd.f79 := by kernel_rfl
attribute [go_sem] fn_79
theorem tx_79 : isTextO Go.Proofs.Tryd.prog 79 = some () := by kernel_rfl
attribute [go_sem] tx_79
theorem fn_80 : nth Go.Proofs.Tryd.prog.funcs.toList 80 = some Go.Proofs.Tryd.f80 := by kernel_rfl
attribute [go_sem] fn_80
theorem tx_80 : isTextO Go.Proofs.Tryd.prog 80 = some () := by kernel_rfl
attribute [go_sem] tx_80
theorem fn_81 : nth Go.Proofs.Tryd.prog.funcs.toList 81 = some Go.Proofs.Tryd.f81 := by kernel_rfl
attribute [go_sem] fn_81
theorem tx_81 : isTextO Go.Proofs.Tryd.prog 81 = some () := by kernel_rfl
attribute [go_sem] tx_81
theorem fn_82 : nth Go.Proofs.Tryd.prog.funcs.toList 82 = some Go.Proofs.Tryd.f82 := by kernel_rfl
attribute [go_sem] fn_82
theorem tx_82 : isTextO Go.Proofs.Tryd.prog 82 = some () := by kernel_rfl
attribute [go_sem] tx_82
theorem fn_103 : nth Go.Proofs.Tryd.prog.funcs.toList 103 = some Go.Proofs.Tryd.f103 := by kernel_rfl
attribute [go_sem] fn_103
theorem tx_103 : isTextO Go.Proofs.Tryd.prog 103 = some () := by kernel_rfl
attribute [go_sem] tx_103
end Go.Cl.Sh
