/- Facts of the program's tables, each read off by the kernel. -/
import Derived.Attr
import Derived.KernelRfl
import Derived.Test.YtmpaohmapdcckaaDoorProg
import Derived.Test.YtmpaohmapdcckaaDoorClG
set_option linter.all false
namespace Go.Cl.U
open Go Go.Cl
theorem sz_0 : szOf Go.Proofs.Tryd.prog 0 = some 1 := by kernel_rfl
attribute [go_sem] sz_0
theorem ld_0 (h : H) (id off : Nat) : loadT Go.Proofs.Tryd.prog h 0 id off = @thn _ _ (h.blk id) ⟨fun b => b.get off⟩ := by kernel_rfl
attribute [go_sem] ld_0
theorem st_0 (h : H) (id off : Nat) (v : CV) : storeT Go.Proofs.Tryd.prog h 0 id off v = @thn _ _ (h.blk id) ⟨fun b => cond (Nat.beq v.cells.length 1 && !b.ro) ((b.storeA off v.cells).map fun b' => h.put id (.cells b')) none⟩ := by kernel_rfl
attribute [go_sem] st_0
theorem part_0 (cs : List CV) (off : Nat) : partT Go.Proofs.Tryd.prog 0 cs off = nth cs off := by kernel_rfl
attribute [go_sem] part_0
theorem sz_1 : szOf Go.Proofs.Tryd.prog 1 = some 1 := by kernel_rfl
attribute [go_sem] sz_1
theorem ld_1 (h : H) (id off : Nat) : loadT Go.Proofs.Tryd.prog h 1 id off = @thn _ _ (h.blk id) ⟨fun b => b.get off⟩ := by kernel_rfl
attribute [go_sem] ld_1
theorem st_1 (h : H) (id off : Nat) (v : CV) : storeT Go.Proofs.Tryd.prog h 1 id off v = @thn _ _ (h.blk id) ⟨fun b => cond (Nat.beq v.cells.length 1 && !b.ro) ((b.storeA off v.cells).map fun b' => h.put id (.cells b')) none⟩ := by kernel_rfl
attribute [go_sem] st_1
theorem part_1 (cs : List CV) (off : Nat) : partT Go.Proofs.Tryd.prog 1 cs off = nth cs off := by kernel_rfl
attribute [go_sem] part_1
theorem ze_1 : zeroT Go.Proofs.Tryd.prog 1 = some (.nilf) := by kernel_rfl
attribute [go_sem] ze_1
theorem eq_1 (xo yo : Operand) (f : Fn) (a b : List CV) : binT Go.Proofs.Tryd.prog .eql 1 xo yo (.fn f a b) .nilf = some (.bool false) := by kernel_rfl
attribute [go_sem] eq_1
theorem eq_1_n (xo yo : Operand) : binT Go.Proofs.Tryd.prog .eql 1 xo yo .nilf .nilf = some (.bool true) := by kernel_rfl
attribute [go_sem] eq_1_n
theorem ne_1 (xo yo : Operand) (f : Fn) (a b : List CV) : binT Go.Proofs.Tryd.prog .neq 1 xo yo (.fn f a b) .nilf = some (.bool true) := by kernel_rfl
attribute [go_sem] ne_1
theorem ne_1_n (xo yo : Operand) : binT Go.Proofs.Tryd.prog .neq 1 xo yo .nilf .nilf = some (.bool false) := by kernel_rfl
attribute [go_sem] ne_1_n
theorem sz_2 : szOf Go.Proofs.Tryd.prog 2 = some 1 := by kernel_rfl
attribute [go_sem] sz_2
theorem ld_2 (h : H) (id off : Nat) : loadT Go.Proofs.Tryd.prog h 2 id off = @thn _ _ (h.blk id) ⟨fun b => b.get off⟩ := by kernel_rfl
attribute [go_sem] ld_2
theorem st_2 (h : H) (id off : Nat) (v : CV) : storeT Go.Proofs.Tryd.prog h 2 id off v = @thn _ _ (h.blk id) ⟨fun b => cond (Nat.beq v.cells.length 1 && !b.ro) ((b.storeA off v.cells).map fun b' => h.put id (.cells b')) none⟩ := by kernel_rfl
attribute [go_sem] st_2
theorem part_2 (cs : List CV) (off : Nat) : partT Go.Proofs.Tryd.prog 2 cs off = nth cs off := by kernel_rfl
attribute [go_sem] part_2
theorem ze_2 : zeroT Go.Proofs.Tryd.prog 2 = some (.int .i64 0) := by kernel_rfl
attribute [go_sem] ze_2
theorem sz_3 : szOf Go.Proofs.Tryd.prog 3 = some 1 := by kernel_rfl
attribute [go_sem] sz_3
theorem ld_3 (h : H) (id off : Nat) : loadT Go.Proofs.Tryd.prog h 3 id off = @thn _ _ (h.blk id) ⟨fun b => b.get off⟩ := by kernel_rfl
attribute [go_sem] ld_3
theorem st_3 (h : H) (id off : Nat) (v : CV) : storeT Go.Proofs.Tryd.prog h 3 id off v = @thn _ _ (h.blk id) ⟨fun b => cond (Nat.beq v.cells.length 1 && !b.ro) ((b.storeA off v.cells).map fun b' => h.put id (.cells b')) none⟩ := by kernel_rfl
attribute [go_sem] st_3
theorem part_3 (cs : List CV) (off : Nat) : partT Go.Proofs.Tryd.prog 3 cs off = nth cs off := by kernel_rfl
attribute [go_sem] part_3
theorem ze_3 : zeroT Go.Proofs.Tryd.prog 3 = some (.int .i64 0) := by kernel_rfl
attribute [go_sem] ze_3
theorem sz_4 : szOf Go.Proofs.Tryd.prog 4 = some 1 := by kernel_rfl
attribute [go_sem] sz_4
theorem ld_4 (h : H) (id off : Nat) : loadT Go.Proofs.Tryd.prog h 4 id off = @thn _ _ (h.blk id) ⟨fun b => b.get off⟩ := by kernel_rfl
attribute [go_sem] ld_4
theorem st_4 (h : H) (id off : Nat) (v : CV) : storeT Go.Proofs.Tryd.prog h 4 id off v = @thn _ _ (h.blk id) ⟨fun b => cond (Nat.beq v.cells.length 1 && !b.ro) ((b.storeA off v.cells).map fun b' => h.put id (.cells b')) none⟩ := by kernel_rfl
attribute [go_sem] st_4
theorem part_4 (cs : List CV) (off : Nat) : partT Go.Proofs.Tryd.prog 4 cs off = nth cs off := by kernel_rfl
attribute [go_sem] part_4
theorem ze_4 : zeroT Go.Proofs.Tryd.prog 4 = some (.bool false) := by kernel_rfl
attribute [go_sem] ze_4
theorem eq_4 (xo yo : Operand) (a b : Bool) : binT Go.Proofs.Tryd.prog .eql 4 xo yo (.bool a) (.bool b) = some (.bool (a == b)) := by kernel_rfl
attribute [go_sem] eq_4
theorem ne_4 (xo yo : Operand) (a b : Bool) : binT Go.Proofs.Tryd.prog .neq 4 xo yo (.bool a) (.bool b) = some (.bool (!(a == b))) := by kernel_rfl
attribute [go_sem] ne_4
theorem sz_5 : szOf Go.Proofs.Tryd.prog 5 = some 1 := by kernel_rfl
attribute [go_sem] sz_5
theorem ld_5 (h : H) (id off : Nat) : loadT Go.Proofs.Tryd.prog h 5 id off = @thn _ _ (h.blk id) ⟨fun b => b.get off⟩ := by kernel_rfl
attribute [go_sem] ld_5
theorem st_5 (h : H) (id off : Nat) (v : CV) : storeT Go.Proofs.Tryd.prog h 5 id off v = @thn _ _ (h.blk id) ⟨fun b => cond (Nat.beq v.cells.length 1 && !b.ro) ((b.storeA off v.cells).map fun b' => h.put id (.cells b')) none⟩ := by kernel_rfl
attribute [go_sem] st_5
theorem part_5 (cs : List CV) (off : Nat) : partT Go.Proofs.Tryd.prog 5 cs off = nth cs off := by kernel_rfl
attribute [go_sem] part_5
theorem ze_5 : zeroT Go.Proofs.Tryd.prog 5 = some (.int .u8 0) := by kernel_rfl
attribute [go_sem] ze_5
theorem sz_6 : szOf Go.Proofs.Tryd.prog 6 = some 1 := by kernel_rfl
attribute [go_sem] sz_6
theorem ld_6 (h : H) (id off : Nat) : loadT Go.Proofs.Tryd.prog h 6 id off = @thn _ _ (h.blk id) ⟨fun b => b.get off⟩ := by kernel_rfl
attribute [go_sem] ld_6
theorem st_6 (h : H) (id off : Nat) (v : CV) : storeT Go.Proofs.Tryd.prog h 6 id off v = @thn _ _ (h.blk id) ⟨fun b => cond (Nat.beq v.cells.length 1 && !b.ro) ((b.storeA off v.cells).map fun b' => h.put id (.cells b')) none⟩ := by kernel_rfl
attribute [go_sem] st_6
theorem part_6 (cs : List CV) (off : Nat) : partT Go.Proofs.Tryd.prog 6 cs off = nth cs off := by kernel_rfl
attribute [go_sem] part_6
theorem ze_6 : zeroT Go.Proofs.Tryd.prog 6 = some (.int .u8 0) := by kernel_rfl
attribute [go_sem] ze_6
theorem sz_7 : szOf Go.Proofs.Tryd.prog 7 = some 4 := by kernel_rfl
attribute [go_sem] sz_7
theorem ld_7 (h : H) (id off : Nat) : loadT Go.Proofs.Tryd.prog h 7 id off = @thn _ _ (h.blk id) ⟨fun b => (b.loadN off 4).map .agg⟩ := by kernel_rfl
attribute [go_sem] ld_7
theorem st_7 (h : H) (id off : Nat) (v : CV) : storeT Go.Proofs.Tryd.prog h 7 id off v = @thn _ _ (h.blk id) ⟨fun b => cond (Nat.beq v.cells.length 4 && !b.ro) ((b.storeA off v.cells).map fun b' => h.put id (.cells b')) none⟩ := by kernel_rfl
attribute [go_sem] st_7
theorem part_7 (cs : List CV) (off : Nat) : partT Go.Proofs.Tryd.prog 7 cs off = some (.agg ((cs.drop off).take 4)) := by kernel_rfl
attribute [go_sem] part_7
theorem ze_7 : zeroT Go.Proofs.Tryd.prog 7 = some (.agg [.int .i64 0, .int .i64 0, .bool false, .int .u8 0]) := by kernel_rfl
attribute [go_sem] ze_7
theorem bt_7 (parts : List (Nat × CV)) : buildT Go.Proofs.Tryd.prog 7 parts = finB (CV.cells (.agg [.int .i64 0, .int .i64 0, .bool false, .int .u8 0])) (nth [(0, 1), (1, 1), (2, 1), (3, 1)]) parts := by kernel_rfl
attribute [go_sem] bt_7
theorem fa_7_0 (id off : Nat) : fieldAddrT Go.Proofs.Tryd.prog 7 (.ptr id off) 0 = some (.ptr id (off)) := by kernel_rfl
attribute [go_sem] fa_7_0
theorem fd_7_0 (cs : List CV) : fieldT Go.Proofs.Tryd.prog 7 (.agg cs) 0 = partT Go.Proofs.Tryd.prog 2 cs 0 := by kernel_rfl
attribute [go_sem] fd_7_0
theorem fa_7_1 (id off : Nat) : fieldAddrT Go.Proofs.Tryd.prog 7 (.ptr id off) 1 = some (.ptr id (off + 1)) := by kernel_rfl
attribute [go_sem] fa_7_1
theorem fd_7_1 (cs : List CV) : fieldT Go.Proofs.Tryd.prog 7 (.agg cs) 1 = partT Go.Proofs.Tryd.prog 3 cs 1 := by kernel_rfl
attribute [go_sem] fd_7_1
theorem fa_7_2 (id off : Nat) : fieldAddrT Go.Proofs.Tryd.prog 7 (.ptr id off) 2 = some (.ptr id (off + 2)) := by kernel_rfl
attribute [go_sem] fa_7_2
theorem fd_7_2 (cs : List CV) : fieldT Go.Proofs.Tryd.prog 7 (.agg cs) 2 = partT Go.Proofs.Tryd.prog 4 cs 2 := by kernel_rfl
attribute [go_sem] fd_7_2
theorem fa_7_3 (id off : Nat) : fieldAddrT Go.Proofs.Tryd.prog 7 (.ptr id off) 3 = some (.ptr id (off + 3)) := by kernel_rfl
attribute [go_sem] fa_7_3
theorem fd_7_3 (cs : List CV) : fieldT Go.Proofs.Tryd.prog 7 (.agg cs) 3 = partT Go.Proofs.Tryd.prog 6 cs 3 := by kernel_rfl
attribute [go_sem] fd_7_3
theorem sz_8 : szOf Go.Proofs.Tryd.prog 8 = some 4 := by kernel_rfl
attribute [go_sem] sz_8
theorem ld_8 (h : H) (id off : Nat) : loadT Go.Proofs.Tryd.prog h 8 id off = @thn _ _ (h.blk id) ⟨fun b => (b.loadN off 4).map .agg⟩ := by kernel_rfl
attribute [go_sem] ld_8
theorem st_8 (h : H) (id off : Nat) (v : CV) : storeT Go.Proofs.Tryd.prog h 8 id off v = @thn _ _ (h.blk id) ⟨fun b => cond (Nat.beq v.cells.length 4 && !b.ro) ((b.storeA off v.cells).map fun b' => h.put id (.cells b')) none⟩ := by kernel_rfl
attribute [go_sem] st_8
theorem part_8 (cs : List CV) (off : Nat) : partT Go.Proofs.Tryd.prog 8 cs off = some (.agg ((cs.drop off).take 4)) := by kernel_rfl
attribute [go_sem] part_8
theorem ze_8 : zeroT Go.Proofs.Tryd.prog 8 = some (.agg [.int .i64 0, .int .i64 0, .bool false, .int .u8 0]) := by kernel_rfl
attribute [go_sem] ze_8
theorem bt_8 (parts : List (Nat × CV)) : buildT Go.Proofs.Tryd.prog 8 parts = finB (CV.cells (.agg [.int .i64 0, .int .i64 0, .bool false, .int .u8 0])) (nth [(0, 1), (1, 1), (2, 1), (3, 1)]) parts := by kernel_rfl
attribute [go_sem] bt_8
theorem fa_8_0 (id off : Nat) : fieldAddrT Go.Proofs.Tryd.prog 8 (.ptr id off) 0 = some (.ptr id (off)) := by kernel_rfl
attribute [go_sem] fa_8_0
theorem fd_8_0 (cs : List CV) : fieldT Go.Proofs.Tryd.prog 8 (.agg cs) 0 = partT Go.Proofs.Tryd.prog 2 cs 0 := by kernel_rfl
attribute [go_sem] fd_8_0
theorem fa_8_1 (id off : Nat) : fieldAddrT Go.Proofs.Tryd.prog 8 (.ptr id off) 1 = some (.ptr id (off + 1)) := by kernel_rfl
attribute [go_sem] fa_8_1
theorem fd_8_1 (cs : List CV) : fieldT Go.Proofs.Tryd.prog 8 (.agg cs) 1 = partT Go.Proofs.Tryd.prog 3 cs 1 := by kernel_rfl
attribute [go_sem] fd_8_1
theorem fa_8_2 (id off : Nat) : fieldAddrT Go.Proofs.Tryd.prog 8 (.ptr id off) 2 = some (.ptr id (off + 2)) := by kernel_rfl
attribute [go_sem] fa_8_2
theorem fd_8_2 (cs : List CV) : fieldT Go.Proofs.Tryd.prog 8 (.agg cs) 2 = partT Go.Proofs.Tryd.prog 4 cs 2 := by kernel_rfl
attribute [go_sem] fd_8_2
theorem fa_8_3 (id off : Nat) : fieldAddrT Go.Proofs.Tryd.prog 8 (.ptr id off) 3 = some (.ptr id (off + 3)) := by kernel_rfl
attribute [go_sem] fa_8_3
theorem fd_8_3 (cs : List CV) : fieldT Go.Proofs.Tryd.prog 8 (.agg cs) 3 = partT Go.Proofs.Tryd.prog 6 cs 3 := by kernel_rfl
attribute [go_sem] fd_8_3
theorem sz_9 : szOf Go.Proofs.Tryd.prog 9 = some 1 := by kernel_rfl
attribute [go_sem] sz_9
theorem ld_9 (h : H) (id off : Nat) : loadT Go.Proofs.Tryd.prog h 9 id off = @thn _ _ (h.blk id) ⟨fun b => b.get off⟩ := by kernel_rfl
attribute [go_sem] ld_9
theorem st_9 (h : H) (id off : Nat) (v : CV) : storeT Go.Proofs.Tryd.prog h 9 id off v = @thn _ _ (h.blk id) ⟨fun b => cond (Nat.beq v.cells.length 1 && !b.ro) ((b.storeA off v.cells).map fun b' => h.put id (.cells b')) none⟩ := by kernel_rfl
attribute [go_sem] st_9
theorem part_9 (cs : List CV) (off : Nat) : partT Go.Proofs.Tryd.prog 9 cs off = nth cs off := by kernel_rfl
attribute [go_sem] part_9
theorem ze_9 : zeroT Go.Proofs.Tryd.prog 9 = some (.str []) := by kernel_rfl
attribute [go_sem] ze_9
theorem ix_9 (s : List Nat) (k : Nat) (kd : IntKind) : indexT Go.Proofs.Tryd.prog 9 (.str s) (.int kd (Int.ofNat k)) = (nth s k).map fun b => .int .u8 (Int.ofNat b) := by kernel_rfl
attribute [go_sem] ix_9
theorem len_9 (h : H) (ts : List TypeId) (az : List CV) (s : List Nat) : builtinT Go.Proofs.Tryd.prog h .len (9 :: ts) (.str s :: az) = some (.val (.int .i64 (Int.ofNat s.length))) := by kernel_rfl
attribute [go_sem] len_9
theorem sz_10 : szOf Go.Proofs.Tryd.prog 10 = some 1 := by kernel_rfl
attribute [go_sem] sz_10
theorem ld_10 (h : H) (id off : Nat) : loadT Go.Proofs.Tryd.prog h 10 id off = @thn _ _ (h.blk id) ⟨fun b => b.get off⟩ := by kernel_rfl
attribute [go_sem] ld_10
theorem st_10 (h : H) (id off : Nat) (v : CV) : storeT Go.Proofs.Tryd.prog h 10 id off v = @thn _ _ (h.blk id) ⟨fun b => cond (Nat.beq v.cells.length 1 && !b.ro) ((b.storeA off v.cells).map fun b' => h.put id (.cells b')) none⟩ := by kernel_rfl
attribute [go_sem] st_10
theorem part_10 (cs : List CV) (off : Nat) : partT Go.Proofs.Tryd.prog 10 cs off = nth cs off := by kernel_rfl
attribute [go_sem] part_10
theorem ze_10 : zeroT Go.Proofs.Tryd.prog 10 = some (.str []) := by kernel_rfl
attribute [go_sem] ze_10
theorem ix_10 (s : List Nat) (k : Nat) (kd : IntKind) : indexT Go.Proofs.Tryd.prog 10 (.str s) (.int kd (Int.ofNat k)) = (nth s k).map fun b => .int .u8 (Int.ofNat b) := by kernel_rfl
attribute [go_sem] ix_10
theorem len_10 (h : H) (ts : List TypeId) (az : List CV) (s : List Nat) : builtinT Go.Proofs.Tryd.prog h .len (10 :: ts) (.str s :: az) = some (.val (.int .i64 (Int.ofNat s.length))) := by kernel_rfl
attribute [go_sem] len_10
theorem sz_11 : szOf Go.Proofs.Tryd.prog 11 = some 1 := by kernel_rfl
attribute [go_sem] sz_11
theorem ld_11 (h : H) (id off : Nat) : loadT Go.Proofs.Tryd.prog h 11 id off = @thn _ _ (h.blk id) ⟨fun b => b.get off⟩ := by kernel_rfl
attribute [go_sem] ld_11
theorem st_11 (h : H) (id off : Nat) (v : CV) : storeT Go.Proofs.Tryd.prog h 11 id off v = @thn _ _ (h.blk id) ⟨fun b => cond (Nat.beq v.cells.length 1 && !b.ro) ((b.storeA off v.cells).map fun b' => h.put id (.cells b')) none⟩ := by kernel_rfl
attribute [go_sem] st_11
theorem part_11 (cs : List CV) (off : Nat) : partT Go.Proofs.Tryd.prog 11 cs off = nth cs off := by kernel_rfl
attribute [go_sem] part_11
theorem ze_11 : zeroT Go.Proofs.Tryd.prog 11 = some (.str []) := by kernel_rfl
attribute [go_sem] ze_11
theorem ix_11 (s : List Nat) (k : Nat) (kd : IntKind) : indexT Go.Proofs.Tryd.prog 11 (.str s) (.int kd (Int.ofNat k)) = (nth s k).map fun b => .int .u8 (Int.ofNat b) := by kernel_rfl
attribute [go_sem] ix_11
theorem len_11 (h : H) (ts : List TypeId) (az : List CV) (s : List Nat) : builtinT Go.Proofs.Tryd.prog h .len (11 :: ts) (.str s :: az) = some (.val (.int .i64 (Int.ofNat s.length))) := by kernel_rfl
attribute [go_sem] len_11
theorem sz_12 : szOf Go.Proofs.Tryd.prog 12 = some 1 := by kernel_rfl
attribute [go_sem] sz_12
theorem ld_12 (h : H) (id off : Nat) : loadT Go.Proofs.Tryd.prog h 12 id off = @thn _ _ (h.blk id) ⟨fun b => b.get off⟩ := by kernel_rfl
attribute [go_sem] ld_12
theorem st_12 (h : H) (id off : Nat) (v : CV) : storeT Go.Proofs.Tryd.prog h 12 id off v = @thn _ _ (h.blk id) ⟨fun b => cond (Nat.beq v.cells.length 1 && !b.ro) ((b.storeA off v.cells).map fun b' => h.put id (.cells b')) none⟩ := by kernel_rfl
attribute [go_sem] st_12
theorem part_12 (cs : List CV) (off : Nat) : partT Go.Proofs.Tryd.prog 12 cs off = nth cs off := by kernel_rfl
attribute [go_sem] part_12
theorem ze_12 : zeroT Go.Proofs.Tryd.prog 12 = some (.int .u64 0) := by kernel_rfl
attribute [go_sem] ze_12
theorem sz_13 : szOf Go.Proofs.Tryd.prog 13 = some 2 := by kernel_rfl
attribute [go_sem] sz_13
theorem ld_13 (h : H) (id off : Nat) : loadT Go.Proofs.Tryd.prog h 13 id off = @thn _ _ (h.blk id) ⟨fun b => (b.loadN off 2).map .agg⟩ := by kernel_rfl
attribute [go_sem] ld_13
theorem st_13 (h : H) (id off : Nat) (v : CV) : storeT Go.Proofs.Tryd.prog h 13 id off v = @thn _ _ (h.blk id) ⟨fun b => cond (Nat.beq v.cells.length 2 && !b.ro) ((b.storeA off v.cells).map fun b' => h.put id (.cells b')) none⟩ := by kernel_rfl
attribute [go_sem] st_13
theorem part_13 (cs : List CV) (off : Nat) : partT Go.Proofs.Tryd.prog 13 cs off = some (.agg ((cs.drop off).take 2)) := by kernel_rfl
attribute [go_sem] part_13
theorem ze_13 : zeroT Go.Proofs.Tryd.prog 13 = some (.agg [.str [], .int .u64 0]) := by kernel_rfl
attribute [go_sem] ze_13
theorem bt_13 (parts : List (Nat × CV)) : buildT Go.Proofs.Tryd.prog 13 parts = finB (CV.cells (.agg [.str [], .int .u64 0])) (nth [(0, 1), (1, 1)]) parts := by kernel_rfl
attribute [go_sem] bt_13
theorem fa_13_0 (id off : Nat) : fieldAddrT Go.Proofs.Tryd.prog 13 (.ptr id off) 0 = some (.ptr id (off)) := by kernel_rfl
attribute [go_sem] fa_13_0
theorem fd_13_0 (cs : List CV) : fieldT Go.Proofs.Tryd.prog 13 (.agg cs) 0 = partT Go.Proofs.Tryd.prog 9 cs 0 := by kernel_rfl
attribute [go_sem] fd_13_0
theorem fa_13_1 (id off : Nat) : fieldAddrT Go.Proofs.Tryd.prog 13 (.ptr id off) 1 = some (.ptr id (off + 1)) := by kernel_rfl
attribute [go_sem] fa_13_1
theorem fd_13_1 (cs : List CV) : fieldT Go.Proofs.Tryd.prog 13 (.agg cs) 1 = partT Go.Proofs.Tryd.prog 12 cs 1 := by kernel_rfl
attribute [go_sem] fd_13_1
theorem sz_14 : szOf Go.Proofs.Tryd.prog 14 = some 2 := by kernel_rfl
attribute [go_sem] sz_14
theorem ld_14 (h : H) (id off : Nat) : loadT Go.Proofs.Tryd.prog h 14 id off = @thn _ _ (h.blk id) ⟨fun b => (b.loadN off 2).map .agg⟩ := by kernel_rfl
attribute [go_sem] ld_14
theorem st_14 (h : H) (id off : Nat) (v : CV) : storeT Go.Proofs.Tryd.prog h 14 id off v = @thn _ _ (h.blk id) ⟨fun b => cond (Nat.beq v.cells.length 2 && !b.ro) ((b.storeA off v.cells).map fun b' => h.put id (.cells b')) none⟩ := by kernel_rfl
attribute [go_sem] st_14
theorem part_14 (cs : List CV) (off : Nat) : partT Go.Proofs.Tryd.prog 14 cs off = some (.agg ((cs.drop off).take 2)) := by kernel_rfl
attribute [go_sem] part_14
theorem ze_14 : zeroT Go.Proofs.Tryd.prog 14 = some (.agg [.str [], .int .u64 0]) := by kernel_rfl
attribute [go_sem] ze_14
theorem bt_14 (parts : List (Nat × CV)) : buildT Go.Proofs.Tryd.prog 14 parts = finB (CV.cells (.agg [.str [], .int .u64 0])) (nth [(0, 1), (1, 1)]) parts := by kernel_rfl
attribute [go_sem] bt_14
theorem fa_14_0 (id off : Nat) : fieldAddrT Go.Proofs.Tryd.prog 14 (.ptr id off) 0 = some (.ptr id (off)) := by kernel_rfl
attribute [go_sem] fa_14_0
theorem fd_14_0 (cs : List CV) : fieldT Go.Proofs.Tryd.prog 14 (.agg cs) 0 = partT Go.Proofs.Tryd.prog 9 cs 0 := by kernel_rfl
attribute [go_sem] fd_14_0
theorem fa_14_1 (id off : Nat) : fieldAddrT Go.Proofs.Tryd.prog 14 (.ptr id off) 1 = some (.ptr id (off + 1)) := by kernel_rfl
attribute [go_sem] fa_14_1
theorem fd_14_1 (cs : List CV) : fieldT Go.Proofs.Tryd.prog 14 (.agg cs) 1 = partT Go.Proofs.Tryd.prog 12 cs 1 := by kernel_rfl
attribute [go_sem] fd_14_1
theorem sz_15 : szOf Go.Proofs.Tryd.prog 15 = some 1 := by kernel_rfl
attribute [go_sem] sz_15
theorem ld_15 (h : H) (id off : Nat) : loadT Go.Proofs.Tryd.prog h 15 id off = @thn _ _ (h.blk id) ⟨fun b => b.get off⟩ := by kernel_rfl
attribute [go_sem] ld_15
theorem st_15 (h : H) (id off : Nat) (v : CV) : storeT Go.Proofs.Tryd.prog h 15 id off v = @thn _ _ (h.blk id) ⟨fun b => cond (Nat.beq v.cells.length 1 && !b.ro) ((b.storeA off v.cells).map fun b' => h.put id (.cells b')) none⟩ := by kernel_rfl
attribute [go_sem] st_15
theorem part_15 (cs : List CV) (off : Nat) : partT Go.Proofs.Tryd.prog 15 cs off = nth cs off := by kernel_rfl
attribute [go_sem] part_15
theorem ze_15 : zeroT Go.Proofs.Tryd.prog 15 = some (.nilp) := by kernel_rfl
attribute [go_sem] ze_15
theorem eq_15 (xo yo : Operand) (a b : Nat) : binT Go.Proofs.Tryd.prog .eql 15 xo yo (.ptr a b) .nilp = some (.bool false) := by kernel_rfl
attribute [go_sem] eq_15
theorem eq_15_n (xo yo : Operand) : binT Go.Proofs.Tryd.prog .eql 15 xo yo .nilp .nilp = some (.bool true) := by kernel_rfl
attribute [go_sem] eq_15_n
theorem ne_15 (xo yo : Operand) (a b : Nat) : binT Go.Proofs.Tryd.prog .neq 15 xo yo (.ptr a b) .nilp = some (.bool true) := by kernel_rfl
attribute [go_sem] ne_15
theorem ne_15_n (xo yo : Operand) : binT Go.Proofs.Tryd.prog .neq 15 xo yo .nilp .nilp = some (.bool false) := by kernel_rfl
attribute [go_sem] ne_15_n
theorem sz_16 : szOf Go.Proofs.Tryd.prog 16 = some 1 := by kernel_rfl
attribute [go_sem] sz_16
theorem ld_16 (h : H) (id off : Nat) : loadT Go.Proofs.Tryd.prog h 16 id off = @thn _ _ (h.blk id) ⟨fun b => b.get off⟩ := by kernel_rfl
attribute [go_sem] ld_16
theorem st_16 (h : H) (id off : Nat) (v : CV) : storeT Go.Proofs.Tryd.prog h 16 id off v = @thn _ _ (h.blk id) ⟨fun b => cond (Nat.beq v.cells.length 1 && !b.ro) ((b.storeA off v.cells).map fun b' => h.put id (.cells b')) none⟩ := by kernel_rfl
attribute [go_sem] st_16
theorem part_16 (cs : List CV) (off : Nat) : partT Go.Proofs.Tryd.prog 16 cs off = nth cs off := by kernel_rfl
attribute [go_sem] part_16
theorem ze_16 : zeroT Go.Proofs.Tryd.prog 16 = some (.nilp) := by kernel_rfl
attribute [go_sem] ze_16
theorem eq_16 (xo yo : Operand) (a b : Nat) : binT Go.Proofs.Tryd.prog .eql 16 xo yo (.ptr a b) .nilp = some (.bool false) := by kernel_rfl
attribute [go_sem] eq_16
theorem eq_16_n (xo yo : Operand) : binT Go.Proofs.Tryd.prog .eql 16 xo yo .nilp .nilp = some (.bool true) := by kernel_rfl
attribute [go_sem] eq_16_n
theorem ne_16 (xo yo : Operand) (a b : Nat) : binT Go.Proofs.Tryd.prog .neq 16 xo yo (.ptr a b) .nilp = some (.bool true) := by kernel_rfl
attribute [go_sem] ne_16
theorem ne_16_n (xo yo : Operand) : binT Go.Proofs.Tryd.prog .neq 16 xo yo .nilp .nilp = some (.bool false) := by kernel_rfl
attribute [go_sem] ne_16_n
theorem sz_17 : szOf Go.Proofs.Tryd.prog 17 = some 1 := by kernel_rfl
attribute [go_sem] sz_17
theorem ld_17 (h : H) (id off : Nat) : loadT Go.Proofs.Tryd.prog h 17 id off = @thn _ _ (h.blk id) ⟨fun b => b.get off⟩ := by kernel_rfl
attribute [go_sem] ld_17
theorem st_17 (h : H) (id off : Nat) (v : CV) : storeT Go.Proofs.Tryd.prog h 17 id off v = @thn _ _ (h.blk id) ⟨fun b => cond (Nat.beq v.cells.length 1 && !b.ro) ((b.storeA off v.cells).map fun b' => h.put id (.cells b')) none⟩ := by kernel_rfl
attribute [go_sem] st_17
theorem part_17 (cs : List CV) (off : Nat) : partT Go.Proofs.Tryd.prog 17 cs off = nth cs off := by kernel_rfl
attribute [go_sem] part_17
theorem ze_17 : zeroT Go.Proofs.Tryd.prog 17 = some (.nilp) := by kernel_rfl
attribute [go_sem] ze_17
theorem eq_17 (xo yo : Operand) (a b : Nat) : binT Go.Proofs.Tryd.prog .eql 17 xo yo (.ptr a b) .nilp = some (.bool false) := by kernel_rfl
attribute [go_sem] eq_17
theorem eq_17_n (xo yo : Operand) : binT Go.Proofs.Tryd.prog .eql 17 xo yo .nilp .nilp = some (.bool true) := by kernel_rfl
attribute [go_sem] eq_17_n
theorem ne_17 (xo yo : Operand) (a b : Nat) : binT Go.Proofs.Tryd.prog .neq 17 xo yo (.ptr a b) .nilp = some (.bool true) := by kernel_rfl
attribute [go_sem] ne_17
theorem ne_17_n (xo yo : Operand) : binT Go.Proofs.Tryd.prog .neq 17 xo yo .nilp .nilp = some (.bool false) := by kernel_rfl
attribute [go_sem] ne_17_n
theorem sz_18 : szOf Go.Proofs.Tryd.prog 18 = some 1 := by kernel_rfl
attribute [go_sem] sz_18
theorem ld_18 (h : H) (id off : Nat) : loadT Go.Proofs.Tryd.prog h 18 id off = @thn _ _ (h.blk id) ⟨fun b => (b.loadN off 1).map .agg⟩ := by kernel_rfl
attribute [go_sem] ld_18
theorem st_18 (h : H) (id off : Nat) (v : CV) : storeT Go.Proofs.Tryd.prog h 18 id off v = @thn _ _ (h.blk id) ⟨fun b => cond (Nat.beq v.cells.length 1 && !b.ro) ((b.storeA off v.cells).map fun b' => h.put id (.cells b')) none⟩ := by kernel_rfl
attribute [go_sem] st_18
theorem part_18 (cs : List CV) (off : Nat) : partT Go.Proofs.Tryd.prog 18 cs off = some (.agg ((cs.drop off).take 1)) := by kernel_rfl
attribute [go_sem] part_18
theorem ze_18 : zeroT Go.Proofs.Tryd.prog 18 = some (.agg [.nilp]) := by kernel_rfl
attribute [go_sem] ze_18
theorem bt_18 (parts : List (Nat × CV)) : buildT Go.Proofs.Tryd.prog 18 parts = finB (CV.cells (.agg [.nilp])) (nth [(0, 1)]) parts := by kernel_rfl
attribute [go_sem] bt_18
theorem fa_18_0 (id off : Nat) : fieldAddrT Go.Proofs.Tryd.prog 18 (.ptr id off) 0 = some (.ptr id (off)) := by kernel_rfl
attribute [go_sem] fa_18_0
theorem fd_18_0 (cs : List CV) : fieldT Go.Proofs.Tryd.prog 18 (.agg cs) 0 = partT Go.Proofs.Tryd.prog 17 cs 0 := by kernel_rfl
attribute [go_sem] fd_18_0
theorem sz_19 : szOf Go.Proofs.Tryd.prog 19 = some 1 := by kernel_rfl
attribute [go_sem] sz_19
theorem ld_19 (h : H) (id off : Nat) : loadT Go.Proofs.Tryd.prog h 19 id off = @thn _ _ (h.blk id) ⟨fun b => (b.loadN off 1).map .agg⟩ := by kernel_rfl
attribute [go_sem] ld_19
theorem st_19 (h : H) (id off : Nat) (v : CV) : storeT Go.Proofs.Tryd.prog h 19 id off v = @thn _ _ (h.blk id) ⟨fun b => cond (Nat.beq v.cells.length 1 && !b.ro) ((b.storeA off v.cells).map fun b' => h.put id (.cells b')) none⟩ := by kernel_rfl
attribute [go_sem] st_19
theorem part_19 (cs : List CV) (off : Nat) : partT Go.Proofs.Tryd.prog 19 cs off = some (.agg ((cs.drop off).take 1)) := by kernel_rfl
attribute [go_sem] part_19
theorem ze_19 : zeroT Go.Proofs.Tryd.prog 19 = some (.agg [.nilp]) := by kernel_rfl
attribute [go_sem] ze_19
theorem bt_19 (parts : List (Nat × CV)) : buildT Go.Proofs.Tryd.prog 19 parts = finB (CV.cells (.agg [.nilp])) (nth [(0, 1)]) parts := by kernel_rfl
attribute [go_sem] bt_19
theorem fa_19_0 (id off : Nat) : fieldAddrT Go.Proofs.Tryd.prog 19 (.ptr id off) 0 = some (.ptr id (off)) := by kernel_rfl
attribute [go_sem] fa_19_0
theorem fd_19_0 (cs : List CV) : fieldT Go.Proofs.Tryd.prog 19 (.agg cs) 0 = partT Go.Proofs.Tryd.prog 17 cs 0 := by kernel_rfl
attribute [go_sem] fd_19_0
theorem sz_20 : szOf Go.Proofs.Tryd.prog 20 = some 1 := by kernel_rfl
attribute [go_sem] sz_20
theorem ld_20 (h : H) (id off : Nat) : loadT Go.Proofs.Tryd.prog h 20 id off = @thn _ _ (h.blk id) ⟨fun b => b.get off⟩ := by kernel_rfl
attribute [go_sem] ld_20
theorem st_20 (h : H) (id off : Nat) (v : CV) : storeT Go.Proofs.Tryd.prog h 20 id off v = @thn _ _ (h.blk id) ⟨fun b => cond (Nat.beq v.cells.length 1 && !b.ro) ((b.storeA off v.cells).map fun b' => h.put id (.cells b')) none⟩ := by kernel_rfl
attribute [go_sem] st_20
theorem part_20 (cs : List CV) (off : Nat) : partT Go.Proofs.Tryd.prog 20 cs off = nth cs off := by kernel_rfl
attribute [go_sem] part_20
theorem ze_20 : zeroT Go.Proofs.Tryd.prog 20 = some (.nili) := by kernel_rfl
attribute [go_sem] ze_20
theorem sz_21 : szOf Go.Proofs.Tryd.prog 21 = some 1 := by kernel_rfl
attribute [go_sem] sz_21
theorem ld_21 (h : H) (id off : Nat) : loadT Go.Proofs.Tryd.prog h 21 id off = @thn _ _ (h.blk id) ⟨fun b => b.get off⟩ := by kernel_rfl
attribute [go_sem] ld_21
theorem st_21 (h : H) (id off : Nat) (v : CV) : storeT Go.Proofs.Tryd.prog h 21 id off v = @thn _ _ (h.blk id) ⟨fun b => cond (Nat.beq v.cells.length 1 && !b.ro) ((b.storeA off v.cells).map fun b' => h.put id (.cells b')) none⟩ := by kernel_rfl
attribute [go_sem] st_21
theorem part_21 (cs : List CV) (off : Nat) : partT Go.Proofs.Tryd.prog 21 cs off = nth cs off := by kernel_rfl
attribute [go_sem] part_21
theorem ze_21 : zeroT Go.Proofs.Tryd.prog 21 = some (.int .i32 0) := by kernel_rfl
attribute [go_sem] ze_21
theorem sz_22 : szOf Go.Proofs.Tryd.prog 22 = some 1 := by kernel_rfl
attribute [go_sem] sz_22
theorem ld_22 (h : H) (id off : Nat) : loadT Go.Proofs.Tryd.prog h 22 id off = @thn _ _ (h.blk id) ⟨fun b => b.get off⟩ := by kernel_rfl
attribute [go_sem] ld_22
theorem st_22 (h : H) (id off : Nat) (v : CV) : storeT Go.Proofs.Tryd.prog h 22 id off v = @thn _ _ (h.blk id) ⟨fun b => cond (Nat.beq v.cells.length 1 && !b.ro) ((b.storeA off v.cells).map fun b' => h.put id (.cells b')) none⟩ := by kernel_rfl
attribute [go_sem] st_22
theorem part_22 (cs : List CV) (off : Nat) : partT Go.Proofs.Tryd.prog 22 cs off = nth cs off := by kernel_rfl
attribute [go_sem] part_22
theorem ze_22 : zeroT Go.Proofs.Tryd.prog 22 = some (.int .u64 0) := by kernel_rfl
attribute [go_sem] ze_22
theorem sz_23 : szOf Go.Proofs.Tryd.prog 23 = some 1 := by kernel_rfl
attribute [go_sem] sz_23
theorem ld_23 (h : H) (id off : Nat) : loadT Go.Proofs.Tryd.prog h 23 id off = @thn _ _ (h.blk id) ⟨fun b => b.get off⟩ := by kernel_rfl
attribute [go_sem] ld_23
theorem st_23 (h : H) (id off : Nat) (v : CV) : storeT Go.Proofs.Tryd.prog h 23 id off v = @thn _ _ (h.blk id) ⟨fun b => cond (Nat.beq v.cells.length 1 && !b.ro) ((b.storeA off v.cells).map fun b' => h.put id (.cells b')) none⟩ := by kernel_rfl
attribute [go_sem] st_23
theorem part_23 (cs : List CV) (off : Nat) : partT Go.Proofs.Tryd.prog 23 cs off = nth cs off := by kernel_rfl
attribute [go_sem] part_23
theorem ze_23 : zeroT Go.Proofs.Tryd.prog 23 = some (.nils) := by kernel_rfl
attribute [go_sem] ze_23
theorem ia_23 (id off len k : Nat) (c : Cap) (kd : IntKind) : indexAddrT Go.Proofs.Tryd.prog 23 (.sl id off len c) (.int kd (Int.ofNat k)) = cond (Nat.blt k len) (some (.ptr id (off + k * 2))) none := by kernel_rfl
attribute [go_sem] ia_23
theorem len_23 (h : H) (id off len : Nat) (c : Cap) (ts : List TypeId) (az : List CV) : builtinT Go.Proofs.Tryd.prog h .len (23 :: ts) (.sl id off len c :: az) = some (.val (.int .i64 (Int.ofNat len))) := by kernel_rfl
attribute [go_sem] len_23
theorem len_23_n (h : H) (ts : List TypeId) (az : List CV) : builtinT Go.Proofs.Tryd.prog h .len (23 :: ts) (.nils :: az) = some (.val (.int .i64 0)) := by kernel_rfl
attribute [go_sem] len_23_n
theorem app_23 (h : H) (s : CV) (id off len : Nat) (c : Cap) (ts : List TypeId) (az : List CV) : builtinT Go.Proofs.Tryd.prog h .append (23 :: 23 :: ts) (s :: .sl id off len c :: az) = uv (appendT Go.Proofs.Tryd.prog h 23 s (.sl id off len c)) := by kernel_rfl
attribute [go_sem] app_23
theorem app_23_n (h : H) (s : CV) (ts : List TypeId) (az : List CV) : builtinT Go.Proofs.Tryd.prog h .append (23 :: 23 :: ts) (s :: .nils :: az) = uv (appendT Go.Proofs.Tryd.prog h 23 s .nils) := by kernel_rfl
attribute [go_sem] app_23_n
theorem ap_23 (h : H) (s : CV) (id off len : Nat) (c : Cap) : appendT Go.Proofs.Tryd.prog h 23 s (.sl id off len c) = appS h 2 16 2 s len (firstC h 2 len (.sl id off len c)) := by kernel_rfl
attribute [go_sem] ap_23
theorem ap_23_n (h : H) (s : CV) : appendT Go.Proofs.Tryd.prog h 23 s .nils = appS h 2 16 2 s 0 (some []) := by kernel_rfl
attribute [go_sem] ap_23_n
theorem ap_23_z (h : H) (s : CV) (a b c d : Nat) : appendT Go.Proofs.Tryd.prog h 23 s (.sl0 a b c d) = appS h 2 16 2 s 0 (some []) := by kernel_rfl
attribute [go_sem] ap_23_z
theorem bs_23 (h : H) (n : Nat) (parts : List (Nat × CV)) : buildSliceT Go.Proofs.Tryd.prog h 23 n parts = bslS h 2 (CV.cells (.agg [.int .u64 0, .int .u64 0])) n parts := by kernel_rfl
attribute [go_sem] bs_23
theorem ms_23 (h : H) (l c : Nat) (k k' : IntKind) : makeSliceT Go.Proofs.Tryd.prog h 23 (.int k (Int.ofNat l)) (.int k' (Int.ofNat c)) = mkS h 2 16 (zeroT Go.Proofs.Tryd.prog 40) l c := by kernel_rfl
attribute [go_sem] ms_23
theorem eq_23 (xo yo : Operand) (a b c : Nat) (d : Cap) : binT Go.Proofs.Tryd.prog .eql 23 xo yo (.sl a b c d) .nils = some (.bool false) := by kernel_rfl
attribute [go_sem] eq_23
theorem eq_23_n (xo yo : Operand) : binT Go.Proofs.Tryd.prog .eql 23 xo yo .nils .nils = some (.bool true) := by kernel_rfl
attribute [go_sem] eq_23_n
theorem eq_23_z (xo yo : Operand) (a b c d : Nat) : binT Go.Proofs.Tryd.prog .eql 23 xo yo (.sl0 a b c d) .nils = some (.bool false) := by kernel_rfl
attribute [go_sem] eq_23_z
theorem ne_23 (xo yo : Operand) (a b c : Nat) (d : Cap) : binT Go.Proofs.Tryd.prog .neq 23 xo yo (.sl a b c d) .nils = some (.bool true) := by kernel_rfl
attribute [go_sem] ne_23
theorem ne_23_n (xo yo : Operand) : binT Go.Proofs.Tryd.prog .neq 23 xo yo .nils .nils = some (.bool false) := by kernel_rfl
attribute [go_sem] ne_23_n
theorem ne_23_z (xo yo : Operand) (a b c d : Nat) : binT Go.Proofs.Tryd.prog .neq 23 xo yo (.sl0 a b c d) .nils = some (.bool true) := by kernel_rfl
attribute [go_sem] ne_23_z
theorem len_23_z (h : H) (a b c d : Nat) (ts : List TypeId) (az : List CV) : builtinT Go.Proofs.Tryd.prog h .len (23 :: ts) (.sl0 a b c d :: az) = some (.val (.int .i64 0)) := by kernel_rfl
attribute [go_sem] len_23_z
theorem app_23_z (h : H) (s : CV) (a b c d : Nat) (ts : List TypeId) (az : List CV) : builtinT Go.Proofs.Tryd.prog h .append (23 :: 23 :: ts) (s :: .sl0 a b c d :: az) = uv (appendT Go.Proofs.Tryd.prog h 23 s (.sl0 a b c d)) := by kernel_rfl
attribute [go_sem] app_23_z
theorem sz_24 : szOf Go.Proofs.Tryd.prog 24 = some 2 := by kernel_rfl
attribute [go_sem] sz_24
theorem ld_24 (h : H) (id off : Nat) : loadT Go.Proofs.Tryd.prog h 24 id off = @thn _ _ (h.blk id) ⟨fun b => (b.loadN off 2).map .agg⟩ := by kernel_rfl
attribute [go_sem] ld_24
theorem st_24 (h : H) (id off : Nat) (v : CV) : storeT Go.Proofs.Tryd.prog h 24 id off v = @thn _ _ (h.blk id) ⟨fun b => cond (Nat.beq v.cells.length 2 && !b.ro) ((b.storeA off v.cells).map fun b' => h.put id (.cells b')) none⟩ := by kernel_rfl
attribute [go_sem] st_24
theorem part_24 (cs : List CV) (off : Nat) : partT Go.Proofs.Tryd.prog 24 cs off = some (.agg ((cs.drop off).take 2)) := by kernel_rfl
attribute [go_sem] part_24
theorem ze_24 : zeroT Go.Proofs.Tryd.prog 24 = some (.agg [.int .u64 0, .int .u64 0]) := by kernel_rfl
attribute [go_sem] ze_24
theorem ia_24 (id off k : Nat) (kd : IntKind) : indexAddrT Go.Proofs.Tryd.prog 24 (.ptr id off) (.int kd (Int.ofNat k)) = cond (Nat.blt k 2) (some (.ptr id (off + k * 1))) none := by kernel_rfl
attribute [go_sem] ia_24
theorem ix_24 (cs : List CV) (k : Nat) (kd : IntKind) : indexT Go.Proofs.Tryd.prog 24 (.agg cs) (.int kd (Int.ofNat k)) = cond (Nat.blt k 2) (partT Go.Proofs.Tryd.prog 22 cs (k * 1)) none := by kernel_rfl
attribute [go_sem] ix_24
theorem len_24 (h : H) (ts : List TypeId) (az : List CV) (a : CV) : builtinT Go.Proofs.Tryd.prog h .len (24 :: ts) (a :: az) = some (.val (.int .i64 2)) := by kernel_rfl
attribute [go_sem] len_24
theorem bt_24 (parts : List (Nat × CV)) : buildT Go.Proofs.Tryd.prog 24 parts = finB (CV.cells (.agg [.int .u64 0, .int .u64 0])) (fun i => some (i * 1, 1)) parts := by kernel_rfl
attribute [go_sem] bt_24
theorem sz_25 : szOf Go.Proofs.Tryd.prog 25 = some 4 := by kernel_rfl
attribute [go_sem] sz_25
theorem ld_25 (h : H) (id off : Nat) : loadT Go.Proofs.Tryd.prog h 25 id off = @thn _ _ (h.blk id) ⟨fun b => (b.loadN off 4).map .agg⟩ := by kernel_rfl
attribute [go_sem] ld_25
theorem st_25 (h : H) (id off : Nat) (v : CV) : storeT Go.Proofs.Tryd.prog h 25 id off v = @thn _ _ (h.blk id) ⟨fun b => cond (Nat.beq v.cells.length 4 && !b.ro) ((b.storeA off v.cells).map fun b' => h.put id (.cells b')) none⟩ := by kernel_rfl
attribute [go_sem] st_25
theorem part_25 (cs : List CV) (off : Nat) : partT Go.Proofs.Tryd.prog 25 cs off = some (.agg ((cs.drop off).take 4)) := by kernel_rfl
attribute [go_sem] part_25
theorem ze_25 : zeroT Go.Proofs.Tryd.prog 25 = some (.agg [.int .u64 0, .int .u64 0, .int .u64 0, .int .u64 0]) := by kernel_rfl
attribute [go_sem] ze_25
theorem bt_25 (parts : List (Nat × CV)) : buildT Go.Proofs.Tryd.prog 25 parts = finB (CV.cells (.agg [.int .u64 0, .int .u64 0, .int .u64 0, .int .u64 0])) (nth [(0, 1), (1, 1), (2, 2)]) parts := by kernel_rfl
attribute [go_sem] bt_25
theorem fa_25_0 (id off : Nat) : fieldAddrT Go.Proofs.Tryd.prog 25 (.ptr id off) 0 = some (.ptr id (off)) := by kernel_rfl
attribute [go_sem] fa_25_0
theorem fd_25_0 (cs : List CV) : fieldT Go.Proofs.Tryd.prog 25 (.agg cs) 0 = partT Go.Proofs.Tryd.prog 22 cs 0 := by kernel_rfl
attribute [go_sem] fd_25_0
theorem fa_25_1 (id off : Nat) : fieldAddrT Go.Proofs.Tryd.prog 25 (.ptr id off) 1 = some (.ptr id (off + 1)) := by kernel_rfl
attribute [go_sem] fa_25_1
theorem fd_25_1 (cs : List CV) : fieldT Go.Proofs.Tryd.prog 25 (.agg cs) 1 = partT Go.Proofs.Tryd.prog 22 cs 1 := by kernel_rfl
attribute [go_sem] fd_25_1
theorem fa_25_2 (id off : Nat) : fieldAddrT Go.Proofs.Tryd.prog 25 (.ptr id off) 2 = some (.ptr id (off + 2)) := by kernel_rfl
attribute [go_sem] fa_25_2
theorem fd_25_2 (cs : List CV) : fieldT Go.Proofs.Tryd.prog 25 (.agg cs) 2 = partT Go.Proofs.Tryd.prog 24 cs 2 := by kernel_rfl
attribute [go_sem] fd_25_2
theorem sz_26 : szOf Go.Proofs.Tryd.prog 26 = some 4 := by kernel_rfl
attribute [go_sem] sz_26
theorem ld_26 (h : H) (id off : Nat) : loadT Go.Proofs.Tryd.prog h 26 id off = @thn _ _ (h.blk id) ⟨fun b => (b.loadN off 4).map .agg⟩ := by kernel_rfl
attribute [go_sem] ld_26
theorem st_26 (h : H) (id off : Nat) (v : CV) : storeT Go.Proofs.Tryd.prog h 26 id off v = @thn _ _ (h.blk id) ⟨fun b => cond (Nat.beq v.cells.length 4 && !b.ro) ((b.storeA off v.cells).map fun b' => h.put id (.cells b')) none⟩ := by kernel_rfl
attribute [go_sem] st_26
theorem part_26 (cs : List CV) (off : Nat) : partT Go.Proofs.Tryd.prog 26 cs off = some (.agg ((cs.drop off).take 4)) := by kernel_rfl
attribute [go_sem] part_26
theorem ze_26 : zeroT Go.Proofs.Tryd.prog 26 = some (.agg [.int .u64 0, .int .u64 0, .int .u64 0, .int .u64 0]) := by kernel_rfl
attribute [go_sem] ze_26
theorem bt_26 (parts : List (Nat × CV)) : buildT Go.Proofs.Tryd.prog 26 parts = finB (CV.cells (.agg [.int .u64 0, .int .u64 0, .int .u64 0, .int .u64 0])) (nth [(0, 1), (1, 1), (2, 2)]) parts := by kernel_rfl
attribute [go_sem] bt_26
theorem fa_26_0 (id off : Nat) : fieldAddrT Go.Proofs.Tryd.prog 26 (.ptr id off) 0 = some (.ptr id (off)) := by kernel_rfl
attribute [go_sem] fa_26_0
theorem fd_26_0 (cs : List CV) : fieldT Go.Proofs.Tryd.prog 26 (.agg cs) 0 = partT Go.Proofs.Tryd.prog 22 cs 0 := by kernel_rfl
attribute [go_sem] fd_26_0
theorem fa_26_1 (id off : Nat) : fieldAddrT Go.Proofs.Tryd.prog 26 (.ptr id off) 1 = some (.ptr id (off + 1)) := by kernel_rfl
attribute [go_sem] fa_26_1
theorem fd_26_1 (cs : List CV) : fieldT Go.Proofs.Tryd.prog 26 (.agg cs) 1 = partT Go.Proofs.Tryd.prog 22 cs 1 := by kernel_rfl
attribute [go_sem] fd_26_1
theorem fa_26_2 (id off : Nat) : fieldAddrT Go.Proofs.Tryd.prog 26 (.ptr id off) 2 = some (.ptr id (off + 2)) := by kernel_rfl
attribute [go_sem] fa_26_2
theorem fd_26_2 (cs : List CV) : fieldT Go.Proofs.Tryd.prog 26 (.agg cs) 2 = partT Go.Proofs.Tryd.prog 24 cs 2 := by kernel_rfl
attribute [go_sem] fd_26_2
theorem sz_27 : szOf Go.Proofs.Tryd.prog 27 = some 1 := by kernel_rfl
attribute [go_sem] sz_27
theorem ld_27 (h : H) (id off : Nat) : loadT Go.Proofs.Tryd.prog h 27 id off = @thn _ _ (h.blk id) ⟨fun b => b.get off⟩ := by kernel_rfl
attribute [go_sem] ld_27
theorem st_27 (h : H) (id off : Nat) (v : CV) : storeT Go.Proofs.Tryd.prog h 27 id off v = @thn _ _ (h.blk id) ⟨fun b => cond (Nat.beq v.cells.length 1 && !b.ro) ((b.storeA off v.cells).map fun b' => h.put id (.cells b')) none⟩ := by kernel_rfl
attribute [go_sem] st_27
theorem part_27 (cs : List CV) (off : Nat) : partT Go.Proofs.Tryd.prog 27 cs off = nth cs off := by kernel_rfl
attribute [go_sem] part_27
theorem ze_27 : zeroT Go.Proofs.Tryd.prog 27 = some (.nilf) := by kernel_rfl
attribute [go_sem] ze_27
theorem eq_27 (xo yo : Operand) (f : Fn) (a b : List CV) : binT Go.Proofs.Tryd.prog .eql 27 xo yo (.fn f a b) .nilf = some (.bool false) := by kernel_rfl
attribute [go_sem] eq_27
theorem eq_27_n (xo yo : Operand) : binT Go.Proofs.Tryd.prog .eql 27 xo yo .nilf .nilf = some (.bool true) := by kernel_rfl
attribute [go_sem] eq_27_n
theorem ne_27 (xo yo : Operand) (f : Fn) (a b : List CV) : binT Go.Proofs.Tryd.prog .neq 27 xo yo (.fn f a b) .nilf = some (.bool true) := by kernel_rfl
attribute [go_sem] ne_27
theorem ne_27_n (xo yo : Operand) : binT Go.Proofs.Tryd.prog .neq 27 xo yo .nilf .nilf = some (.bool false) := by kernel_rfl
attribute [go_sem] ne_27_n
theorem sz_28 : szOf Go.Proofs.Tryd.prog 28 = some 1 := by kernel_rfl
attribute [go_sem] sz_28
theorem ld_28 (h : H) (id off : Nat) : loadT Go.Proofs.Tryd.prog h 28 id off = @thn _ _ (h.blk id) ⟨fun b => b.get off⟩ := by kernel_rfl
attribute [go_sem] ld_28
theorem st_28 (h : H) (id off : Nat) (v : CV) : storeT Go.Proofs.Tryd.prog h 28 id off v = @thn _ _ (h.blk id) ⟨fun b => cond (Nat.beq v.cells.length 1 && !b.ro) ((b.storeA off v.cells).map fun b' => h.put id (.cells b')) none⟩ := by kernel_rfl
attribute [go_sem] st_28
theorem part_28 (cs : List CV) (off : Nat) : partT Go.Proofs.Tryd.prog 28 cs off = nth cs off := by kernel_rfl
attribute [go_sem] part_28
theorem ze_28 : zeroT Go.Proofs.Tryd.prog 28 = some (.nilf) := by kernel_rfl
attribute [go_sem] ze_28
theorem eq_28 (xo yo : Operand) (f : Fn) (a b : List CV) : binT Go.Proofs.Tryd.prog .eql 28 xo yo (.fn f a b) .nilf = some (.bool false) := by kernel_rfl
attribute [go_sem] eq_28
theorem eq_28_n (xo yo : Operand) : binT Go.Proofs.Tryd.prog .eql 28 xo yo .nilf .nilf = some (.bool true) := by kernel_rfl
attribute [go_sem] eq_28_n
theorem ne_28 (xo yo : Operand) (f : Fn) (a b : List CV) : binT Go.Proofs.Tryd.prog .neq 28 xo yo (.fn f a b) .nilf = some (.bool true) := by kernel_rfl
attribute [go_sem] ne_28
theorem ne_28_n (xo yo : Operand) : binT Go.Proofs.Tryd.prog .neq 28 xo yo .nilf .nilf = some (.bool false) := by kernel_rfl
attribute [go_sem] ne_28_n
theorem sz_29 : szOf Go.Proofs.Tryd.prog 29 = some 1 := by kernel_rfl
attribute [go_sem] sz_29
theorem ld_29 (h : H) (id off : Nat) : loadT Go.Proofs.Tryd.prog h 29 id off = @thn _ _ (h.blk id) ⟨fun b => b.get off⟩ := by kernel_rfl
attribute [go_sem] ld_29
theorem st_29 (h : H) (id off : Nat) (v : CV) : storeT Go.Proofs.Tryd.prog h 29 id off v = @thn _ _ (h.blk id) ⟨fun b => cond (Nat.beq v.cells.length 1 && !b.ro) ((b.storeA off v.cells).map fun b' => h.put id (.cells b')) none⟩ := by kernel_rfl
attribute [go_sem] st_29
theorem part_29 (cs : List CV) (off : Nat) : partT Go.Proofs.Tryd.prog 29 cs off = nth cs off := by kernel_rfl
attribute [go_sem] part_29
theorem ze_29 : zeroT Go.Proofs.Tryd.prog 29 = some (.nilp) := by kernel_rfl
attribute [go_sem] ze_29
theorem eq_29 (xo yo : Operand) (a b : Nat) : binT Go.Proofs.Tryd.prog .eql 29 xo yo (.ptr a b) .nilp = some (.bool false) := by kernel_rfl
attribute [go_sem] eq_29
theorem eq_29_n (xo yo : Operand) : binT Go.Proofs.Tryd.prog .eql 29 xo yo .nilp .nilp = some (.bool true) := by kernel_rfl
attribute [go_sem] eq_29_n
theorem ne_29 (xo yo : Operand) (a b : Nat) : binT Go.Proofs.Tryd.prog .neq 29 xo yo (.ptr a b) .nilp = some (.bool true) := by kernel_rfl
attribute [go_sem] ne_29
theorem ne_29_n (xo yo : Operand) : binT Go.Proofs.Tryd.prog .neq 29 xo yo .nilp .nilp = some (.bool false) := by kernel_rfl
attribute [go_sem] ne_29_n
theorem sz_30 : szOf Go.Proofs.Tryd.prog 30 = some 1 := by kernel_rfl
attribute [go_sem] sz_30
theorem ld_30 (h : H) (id off : Nat) : loadT Go.Proofs.Tryd.prog h 30 id off = @thn _ _ (h.blk id) ⟨fun b => b.get off⟩ := by kernel_rfl
attribute [go_sem] ld_30
theorem st_30 (h : H) (id off : Nat) (v : CV) : storeT Go.Proofs.Tryd.prog h 30 id off v = @thn _ _ (h.blk id) ⟨fun b => cond (Nat.beq v.cells.length 1 && !b.ro) ((b.storeA off v.cells).map fun b' => h.put id (.cells b')) none⟩ := by kernel_rfl
attribute [go_sem] st_30
theorem part_30 (cs : List CV) (off : Nat) : partT Go.Proofs.Tryd.prog 30 cs off = nth cs off := by kernel_rfl
attribute [go_sem] part_30
theorem ze_30 : zeroT Go.Proofs.Tryd.prog 30 = some (.int .i64 0) := by kernel_rfl
attribute [go_sem] ze_30
theorem sz_31 : szOf Go.Proofs.Tryd.prog 31 = some 1 := by kernel_rfl
attribute [go_sem] sz_31
theorem ld_31 (h : H) (id off : Nat) : loadT Go.Proofs.Tryd.prog h 31 id off = @thn _ _ (h.blk id) ⟨fun b => b.get off⟩ := by kernel_rfl
attribute [go_sem] ld_31
theorem st_31 (h : H) (id off : Nat) (v : CV) : storeT Go.Proofs.Tryd.prog h 31 id off v = @thn _ _ (h.blk id) ⟨fun b => cond (Nat.beq v.cells.length 1 && !b.ro) ((b.storeA off v.cells).map fun b' => h.put id (.cells b')) none⟩ := by kernel_rfl
attribute [go_sem] st_31
theorem part_31 (cs : List CV) (off : Nat) : partT Go.Proofs.Tryd.prog 31 cs off = nth cs off := by kernel_rfl
attribute [go_sem] part_31
theorem sz_32 : szOf Go.Proofs.Tryd.prog 32 = some 1 := by kernel_rfl
attribute [go_sem] sz_32
theorem ld_32 (h : H) (id off : Nat) : loadT Go.Proofs.Tryd.prog h 32 id off = @thn _ _ (h.blk id) ⟨fun b => b.get off⟩ := by kernel_rfl
attribute [go_sem] ld_32
theorem st_32 (h : H) (id off : Nat) (v : CV) : storeT Go.Proofs.Tryd.prog h 32 id off v = @thn _ _ (h.blk id) ⟨fun b => cond (Nat.beq v.cells.length 1 && !b.ro) ((b.storeA off v.cells).map fun b' => h.put id (.cells b')) none⟩ := by kernel_rfl
attribute [go_sem] st_32
theorem part_32 (cs : List CV) (off : Nat) : partT Go.Proofs.Tryd.prog 32 cs off = nth cs off := by kernel_rfl
attribute [go_sem] part_32
theorem ze_32 : zeroT Go.Proofs.Tryd.prog 32 = some (.nilf) := by kernel_rfl
attribute [go_sem] ze_32
theorem eq_32 (xo yo : Operand) (f : Fn) (a b : List CV) : binT Go.Proofs.Tryd.prog .eql 32 xo yo (.fn f a b) .nilf = some (.bool false) := by kernel_rfl
attribute [go_sem] eq_32
theorem eq_32_n (xo yo : Operand) : binT Go.Proofs.Tryd.prog .eql 32 xo yo .nilf .nilf = some (.bool true) := by kernel_rfl
attribute [go_sem] eq_32_n
theorem ne_32 (xo yo : Operand) (f : Fn) (a b : List CV) : binT Go.Proofs.Tryd.prog .neq 32 xo yo (.fn f a b) .nilf = some (.bool true) := by kernel_rfl
attribute [go_sem] ne_32
theorem ne_32_n (xo yo : Operand) : binT Go.Proofs.Tryd.prog .neq 32 xo yo .nilf .nilf = some (.bool false) := by kernel_rfl
attribute [go_sem] ne_32_n
theorem sz_33 : szOf Go.Proofs.Tryd.prog 33 = some 1 := by kernel_rfl
attribute [go_sem] sz_33
theorem ld_33 (h : H) (id off : Nat) : loadT Go.Proofs.Tryd.prog h 33 id off = @thn _ _ (h.blk id) ⟨fun b => b.get off⟩ := by kernel_rfl
attribute [go_sem] ld_33
theorem st_33 (h : H) (id off : Nat) (v : CV) : storeT Go.Proofs.Tryd.prog h 33 id off v = @thn _ _ (h.blk id) ⟨fun b => cond (Nat.beq v.cells.length 1 && !b.ro) ((b.storeA off v.cells).map fun b' => h.put id (.cells b')) none⟩ := by kernel_rfl
attribute [go_sem] st_33
theorem part_33 (cs : List CV) (off : Nat) : partT Go.Proofs.Tryd.prog 33 cs off = nth cs off := by kernel_rfl
attribute [go_sem] part_33
theorem ze_33 : zeroT Go.Proofs.Tryd.prog 33 = some (.nilf) := by kernel_rfl
attribute [go_sem] ze_33
theorem eq_33 (xo yo : Operand) (f : Fn) (a b : List CV) : binT Go.Proofs.Tryd.prog .eql 33 xo yo (.fn f a b) .nilf = some (.bool false) := by kernel_rfl
attribute [go_sem] eq_33
theorem eq_33_n (xo yo : Operand) : binT Go.Proofs.Tryd.prog .eql 33 xo yo .nilf .nilf = some (.bool true) := by kernel_rfl
attribute [go_sem] eq_33_n
theorem ne_33 (xo yo : Operand) (f : Fn) (a b : List CV) : binT Go.Proofs.Tryd.prog .neq 33 xo yo (.fn f a b) .nilf = some (.bool true) := by kernel_rfl
attribute [go_sem] ne_33
theorem ne_33_n (xo yo : Operand) : binT Go.Proofs.Tryd.prog .neq 33 xo yo .nilf .nilf = some (.bool false) := by kernel_rfl
attribute [go_sem] ne_33_n
theorem sz_34 : szOf Go.Proofs.Tryd.prog 34 = some 1 := by kernel_rfl
attribute [go_sem] sz_34
theorem ld_34 (h : H) (id off : Nat) : loadT Go.Proofs.Tryd.prog h 34 id off = @thn _ _ (h.blk id) ⟨fun b => b.get off⟩ := by kernel_rfl
attribute [go_sem] ld_34
theorem st_34 (h : H) (id off : Nat) (v : CV) : storeT Go.Proofs.Tryd.prog h 34 id off v = @thn _ _ (h.blk id) ⟨fun b => cond (Nat.beq v.cells.length 1 && !b.ro) ((b.storeA off v.cells).map fun b' => h.put id (.cells b')) none⟩ := by kernel_rfl
attribute [go_sem] st_34
theorem part_34 (cs : List CV) (off : Nat) : partT Go.Proofs.Tryd.prog 34 cs off = nth cs off := by kernel_rfl
attribute [go_sem] part_34
theorem ze_34 : zeroT Go.Proofs.Tryd.prog 34 = some (.int .i64 0) := by kernel_rfl
attribute [go_sem] ze_34
theorem sz_35 : szOf Go.Proofs.Tryd.prog 35 = some 1 := by kernel_rfl
attribute [go_sem] sz_35
theorem ld_35 (h : H) (id off : Nat) : loadT Go.Proofs.Tryd.prog h 35 id off = @thn _ _ (h.blk id) ⟨fun b => b.get off⟩ := by kernel_rfl
attribute [go_sem] ld_35
theorem st_35 (h : H) (id off : Nat) (v : CV) : storeT Go.Proofs.Tryd.prog h 35 id off v = @thn _ _ (h.blk id) ⟨fun b => cond (Nat.beq v.cells.length 1 && !b.ro) ((b.storeA off v.cells).map fun b' => h.put id (.cells b')) none⟩ := by kernel_rfl
attribute [go_sem] st_35
theorem part_35 (cs : List CV) (off : Nat) : partT Go.Proofs.Tryd.prog 35 cs off = nth cs off := by kernel_rfl
attribute [go_sem] part_35
theorem ze_35 : zeroT Go.Proofs.Tryd.prog 35 = some (.nilf) := by kernel_rfl
attribute [go_sem] ze_35
theorem eq_35 (xo yo : Operand) (f : Fn) (a b : List CV) : binT Go.Proofs.Tryd.prog .eql 35 xo yo (.fn f a b) .nilf = some (.bool false) := by kernel_rfl
attribute [go_sem] eq_35
theorem eq_35_n (xo yo : Operand) : binT Go.Proofs.Tryd.prog .eql 35 xo yo .nilf .nilf = some (.bool true) := by kernel_rfl
attribute [go_sem] eq_35_n
theorem ne_35 (xo yo : Operand) (f : Fn) (a b : List CV) : binT Go.Proofs.Tryd.prog .neq 35 xo yo (.fn f a b) .nilf = some (.bool true) := by kernel_rfl
attribute [go_sem] ne_35
theorem ne_35_n (xo yo : Operand) : binT Go.Proofs.Tryd.prog .neq 35 xo yo .nilf .nilf = some (.bool false) := by kernel_rfl
attribute [go_sem] ne_35_n
theorem sz_36 : szOf Go.Proofs.Tryd.prog 36 = some 1 := by kernel_rfl
attribute [go_sem] sz_36
theorem ld_36 (h : H) (id off : Nat) : loadT Go.Proofs.Tryd.prog h 36 id off = @thn _ _ (h.blk id) ⟨fun b => b.get off⟩ := by kernel_rfl
attribute [go_sem] ld_36
theorem st_36 (h : H) (id off : Nat) (v : CV) : storeT Go.Proofs.Tryd.prog h 36 id off v = @thn _ _ (h.blk id) ⟨fun b => cond (Nat.beq v.cells.length 1 && !b.ro) ((b.storeA off v.cells).map fun b' => h.put id (.cells b')) none⟩ := by kernel_rfl
attribute [go_sem] st_36
theorem part_36 (cs : List CV) (off : Nat) : partT Go.Proofs.Tryd.prog 36 cs off = nth cs off := by kernel_rfl
attribute [go_sem] part_36
theorem ze_36 : zeroT Go.Proofs.Tryd.prog 36 = some (.nilf) := by kernel_rfl
attribute [go_sem] ze_36
theorem eq_36 (xo yo : Operand) (f : Fn) (a b : List CV) : binT Go.Proofs.Tryd.prog .eql 36 xo yo (.fn f a b) .nilf = some (.bool false) := by kernel_rfl
attribute [go_sem] eq_36
theorem eq_36_n (xo yo : Operand) : binT Go.Proofs.Tryd.prog .eql 36 xo yo .nilf .nilf = some (.bool true) := by kernel_rfl
attribute [go_sem] eq_36_n
theorem ne_36 (xo yo : Operand) (f : Fn) (a b : List CV) : binT Go.Proofs.Tryd.prog .neq 36 xo yo (.fn f a b) .nilf = some (.bool true) := by kernel_rfl
attribute [go_sem] ne_36
theorem ne_36_n (xo yo : Operand) : binT Go.Proofs.Tryd.prog .neq 36 xo yo .nilf .nilf = some (.bool false) := by kernel_rfl
attribute [go_sem] ne_36_n
theorem sz_37 : szOf Go.Proofs.Tryd.prog 37 = some 1 := by kernel_rfl
attribute [go_sem] sz_37
theorem ld_37 (h : H) (id off : Nat) : loadT Go.Proofs.Tryd.prog h 37 id off = @thn _ _ (h.blk id) ⟨fun b => b.get off⟩ := by kernel_rfl
attribute [go_sem] ld_37
theorem st_37 (h : H) (id off : Nat) (v : CV) : storeT Go.Proofs.Tryd.prog h 37 id off v = @thn _ _ (h.blk id) ⟨fun b => cond (Nat.beq v.cells.length 1 && !b.ro) ((b.storeA off v.cells).map fun b' => h.put id (.cells b')) none⟩ := by kernel_rfl
attribute [go_sem] st_37
theorem part_37 (cs : List CV) (off : Nat) : partT Go.Proofs.Tryd.prog 37 cs off = nth cs off := by kernel_rfl
attribute [go_sem] part_37
theorem ze_37 : zeroT Go.Proofs.Tryd.prog 37 = some (.nilf) := by kernel_rfl
attribute [go_sem] ze_37
theorem eq_37 (xo yo : Operand) (f : Fn) (a b : List CV) : binT Go.Proofs.Tryd.prog .eql 37 xo yo (.fn f a b) .nilf = some (.bool false) := by kernel_rfl
attribute [go_sem] eq_37
theorem eq_37_n (xo yo : Operand) : binT Go.Proofs.Tryd.prog .eql 37 xo yo .nilf .nilf = some (.bool true) := by kernel_rfl
attribute [go_sem] eq_37_n
theorem ne_37 (xo yo : Operand) (f : Fn) (a b : List CV) : binT Go.Proofs.Tryd.prog .neq 37 xo yo (.fn f a b) .nilf = some (.bool true) := by kernel_rfl
attribute [go_sem] ne_37
theorem ne_37_n (xo yo : Operand) : binT Go.Proofs.Tryd.prog .neq 37 xo yo .nilf .nilf = some (.bool false) := by kernel_rfl
attribute [go_sem] ne_37_n
theorem sz_38 : szOf Go.Proofs.Tryd.prog 38 = some 1 := by kernel_rfl
attribute [go_sem] sz_38
theorem ld_38 (h : H) (id off : Nat) : loadT Go.Proofs.Tryd.prog h 38 id off = @thn _ _ (h.blk id) ⟨fun b => b.get off⟩ := by kernel_rfl
attribute [go_sem] ld_38
theorem st_38 (h : H) (id off : Nat) (v : CV) : storeT Go.Proofs.Tryd.prog h 38 id off v = @thn _ _ (h.blk id) ⟨fun b => cond (Nat.beq v.cells.length 1 && !b.ro) ((b.storeA off v.cells).map fun b' => h.put id (.cells b')) none⟩ := by kernel_rfl
attribute [go_sem] st_38
theorem part_38 (cs : List CV) (off : Nat) : partT Go.Proofs.Tryd.prog 38 cs off = nth cs off := by kernel_rfl
attribute [go_sem] part_38
theorem ze_38 : zeroT Go.Proofs.Tryd.prog 38 = some (.nilf) := by kernel_rfl
attribute [go_sem] ze_38
theorem eq_38 (xo yo : Operand) (f : Fn) (a b : List CV) : binT Go.Proofs.Tryd.prog .eql 38 xo yo (.fn f a b) .nilf = some (.bool false) := by kernel_rfl
attribute [go_sem] eq_38
theorem eq_38_n (xo yo : Operand) : binT Go.Proofs.Tryd.prog .eql 38 xo yo .nilf .nilf = some (.bool true) := by kernel_rfl
attribute [go_sem] eq_38_n
theorem ne_38 (xo yo : Operand) (f : Fn) (a b : List CV) : binT Go.Proofs.Tryd.prog .neq 38 xo yo (.fn f a b) .nilf = some (.bool true) := by kernel_rfl
attribute [go_sem] ne_38
theorem ne_38_n (xo yo : Operand) : binT Go.Proofs.Tryd.prog .neq 38 xo yo .nilf .nilf = some (.bool false) := by kernel_rfl
attribute [go_sem] ne_38_n
theorem sz_39 : szOf Go.Proofs.Tryd.prog 39 = some 2 := by kernel_rfl
attribute [go_sem] sz_39
theorem ld_39 (h : H) (id off : Nat) : loadT Go.Proofs.Tryd.prog h 39 id off = @thn _ _ (h.blk id) ⟨fun b => (b.loadN off 2).map .agg⟩ := by kernel_rfl
attribute [go_sem] ld_39
theorem st_39 (h : H) (id off : Nat) (v : CV) : storeT Go.Proofs.Tryd.prog h 39 id off v = @thn _ _ (h.blk id) ⟨fun b => cond (Nat.beq v.cells.length 2 && !b.ro) ((b.storeA off v.cells).map fun b' => h.put id (.cells b')) none⟩ := by kernel_rfl
attribute [go_sem] st_39
theorem part_39 (cs : List CV) (off : Nat) : partT Go.Proofs.Tryd.prog 39 cs off = some (.agg ((cs.drop off).take 2)) := by kernel_rfl
attribute [go_sem] part_39
theorem ze_39 : zeroT Go.Proofs.Tryd.prog 39 = some (.agg [.int .u64 0, .int .u64 0]) := by kernel_rfl
attribute [go_sem] ze_39
theorem bt_39 (parts : List (Nat × CV)) : buildT Go.Proofs.Tryd.prog 39 parts = finB (CV.cells (.agg [.int .u64 0, .int .u64 0])) (nth [(0, 1), (1, 1)]) parts := by kernel_rfl
attribute [go_sem] bt_39
theorem fa_39_0 (id off : Nat) : fieldAddrT Go.Proofs.Tryd.prog 39 (.ptr id off) 0 = some (.ptr id (off)) := by kernel_rfl
attribute [go_sem] fa_39_0
theorem fd_39_0 (cs : List CV) : fieldT Go.Proofs.Tryd.prog 39 (.agg cs) 0 = partT Go.Proofs.Tryd.prog 22 cs 0 := by kernel_rfl
attribute [go_sem] fd_39_0
theorem fa_39_1 (id off : Nat) : fieldAddrT Go.Proofs.Tryd.prog 39 (.ptr id off) 1 = some (.ptr id (off + 1)) := by kernel_rfl
attribute [go_sem] fa_39_1
theorem fd_39_1 (cs : List CV) : fieldT Go.Proofs.Tryd.prog 39 (.agg cs) 1 = partT Go.Proofs.Tryd.prog 22 cs 1 := by kernel_rfl
attribute [go_sem] fd_39_1
theorem sz_40 : szOf Go.Proofs.Tryd.prog 40 = some 2 := by kernel_rfl
attribute [go_sem] sz_40
theorem ld_40 (h : H) (id off : Nat) : loadT Go.Proofs.Tryd.prog h 40 id off = @thn _ _ (h.blk id) ⟨fun b => (b.loadN off 2).map .agg⟩ := by kernel_rfl
attribute [go_sem] ld_40
theorem st_40 (h : H) (id off : Nat) (v : CV) : storeT Go.Proofs.Tryd.prog h 40 id off v = @thn _ _ (h.blk id) ⟨fun b => cond (Nat.beq v.cells.length 2 && !b.ro) ((b.storeA off v.cells).map fun b' => h.put id (.cells b')) none⟩ := by kernel_rfl
attribute [go_sem] st_40
theorem part_40 (cs : List CV) (off : Nat) : partT Go.Proofs.Tryd.prog 40 cs off = some (.agg ((cs.drop off).take 2)) := by kernel_rfl
attribute [go_sem] part_40
theorem ze_40 : zeroT Go.Proofs.Tryd.prog 40 = some (.agg [.int .u64 0, .int .u64 0]) := by kernel_rfl
attribute [go_sem] ze_40
theorem bt_40 (parts : List (Nat × CV)) : buildT Go.Proofs.Tryd.prog 40 parts = finB (CV.cells (.agg [.int .u64 0, .int .u64 0])) (nth [(0, 1), (1, 1)]) parts := by kernel_rfl
attribute [go_sem] bt_40
theorem fa_40_0 (id off : Nat) : fieldAddrT Go.Proofs.Tryd.prog 40 (.ptr id off) 0 = some (.ptr id (off)) := by kernel_rfl
attribute [go_sem] fa_40_0
theorem fd_40_0 (cs : List CV) : fieldT Go.Proofs.Tryd.prog 40 (.agg cs) 0 = partT Go.Proofs.Tryd.prog 22 cs 0 := by kernel_rfl
attribute [go_sem] fd_40_0
theorem fa_40_1 (id off : Nat) : fieldAddrT Go.Proofs.Tryd.prog 40 (.ptr id off) 1 = some (.ptr id (off + 1)) := by kernel_rfl
attribute [go_sem] fa_40_1
theorem fd_40_1 (cs : List CV) : fieldT Go.Proofs.Tryd.prog 40 (.agg cs) 1 = partT Go.Proofs.Tryd.prog 22 cs 1 := by kernel_rfl
attribute [go_sem] fd_40_1
theorem sz_41 : szOf Go.Proofs.Tryd.prog 41 = some 1 := by kernel_rfl
attribute [go_sem] sz_41
theorem ld_41 (h : H) (id off : Nat) : loadT Go.Proofs.Tryd.prog h 41 id off = @thn _ _ (h.blk id) ⟨fun b => b.get off⟩ := by kernel_rfl
attribute [go_sem] ld_41
theorem st_41 (h : H) (id off : Nat) (v : CV) : storeT Go.Proofs.Tryd.prog h 41 id off v = @thn _ _ (h.blk id) ⟨fun b => cond (Nat.beq v.cells.length 1 && !b.ro) ((b.storeA off v.cells).map fun b' => h.put id (.cells b')) none⟩ := by kernel_rfl
attribute [go_sem] st_41
theorem part_41 (cs : List CV) (off : Nat) : partT Go.Proofs.Tryd.prog 41 cs off = nth cs off := by kernel_rfl
attribute [go_sem] part_41
theorem sz_42 : szOf Go.Proofs.Tryd.prog 42 = some 1 := by kernel_rfl
attribute [go_sem] sz_42
theorem ld_42 (h : H) (id off : Nat) : loadT Go.Proofs.Tryd.prog h 42 id off = @thn _ _ (h.blk id) ⟨fun b => b.get off⟩ := by kernel_rfl
attribute [go_sem] ld_42
theorem st_42 (h : H) (id off : Nat) (v : CV) : storeT Go.Proofs.Tryd.prog h 42 id off v = @thn _ _ (h.blk id) ⟨fun b => cond (Nat.beq v.cells.length 1 && !b.ro) ((b.storeA off v.cells).map fun b' => h.put id (.cells b')) none⟩ := by kernel_rfl
attribute [go_sem] st_42
theorem part_42 (cs : List CV) (off : Nat) : partT Go.Proofs.Tryd.prog 42 cs off = nth cs off := by kernel_rfl
attribute [go_sem] part_42
theorem ze_42 : zeroT Go.Proofs.Tryd.prog 42 = some (.nilf) := by kernel_rfl
attribute [go_sem] ze_42
theorem eq_42 (xo yo : Operand) (f : Fn) (a b : List CV) : binT Go.Proofs.Tryd.prog .eql 42 xo yo (.fn f a b) .nilf = some (.bool false) := by kernel_rfl
attribute [go_sem] eq_42
theorem eq_42_n (xo yo : Operand) : binT Go.Proofs.Tryd.prog .eql 42 xo yo .nilf .nilf = some (.bool true) := by kernel_rfl
attribute [go_sem] eq_42_n
theorem ne_42 (xo yo : Operand) (f : Fn) (a b : List CV) : binT Go.Proofs.Tryd.prog .neq 42 xo yo (.fn f a b) .nilf = some (.bool true) := by kernel_rfl
attribute [go_sem] ne_42
theorem ne_42_n (xo yo : Operand) : binT Go.Proofs.Tryd.prog .neq 42 xo yo .nilf .nilf = some (.bool false) := by kernel_rfl
attribute [go_sem] ne_42_n
theorem sz_43 : szOf Go.Proofs.Tryd.prog 43 = some 1 := by kernel_rfl
attribute [go_sem] sz_43
theorem ld_43 (h : H) (id off : Nat) : loadT Go.Proofs.Tryd.prog h 43 id off = @thn _ _ (h.blk id) ⟨fun b => b.get off⟩ := by kernel_rfl
attribute [go_sem] ld_43
theorem st_43 (h : H) (id off : Nat) (v : CV) : storeT Go.Proofs.Tryd.prog h 43 id off v = @thn _ _ (h.blk id) ⟨fun b => cond (Nat.beq v.cells.length 1 && !b.ro) ((b.storeA off v.cells).map fun b' => h.put id (.cells b')) none⟩ := by kernel_rfl
attribute [go_sem] st_43
theorem part_43 (cs : List CV) (off : Nat) : partT Go.Proofs.Tryd.prog 43 cs off = nth cs off := by kernel_rfl
attribute [go_sem] part_43
theorem ze_43 : zeroT Go.Proofs.Tryd.prog 43 = some (.nilm) := by kernel_rfl
attribute [go_sem] ze_43
theorem eq_43 (xo yo : Operand) (a : Nat) : binT Go.Proofs.Tryd.prog .eql 43 xo yo (.map a) .nilm = some (.bool false) := by kernel_rfl
attribute [go_sem] eq_43
theorem eq_43_n (xo yo : Operand) : binT Go.Proofs.Tryd.prog .eql 43 xo yo .nilm .nilm = some (.bool true) := by kernel_rfl
attribute [go_sem] eq_43_n
theorem ne_43 (xo yo : Operand) (a : Nat) : binT Go.Proofs.Tryd.prog .neq 43 xo yo (.map a) .nilm = some (.bool true) := by kernel_rfl
attribute [go_sem] ne_43
theorem ne_43_n (xo yo : Operand) : binT Go.Proofs.Tryd.prog .neq 43 xo yo .nilm .nilm = some (.bool false) := by kernel_rfl
attribute [go_sem] ne_43_n
theorem sz_44 : szOf Go.Proofs.Tryd.prog 44 = some 1 := by kernel_rfl
attribute [go_sem] sz_44
theorem ld_44 (h : H) (id off : Nat) : loadT Go.Proofs.Tryd.prog h 44 id off = @thn _ _ (h.blk id) ⟨fun b => b.get off⟩ := by kernel_rfl
attribute [go_sem] ld_44
theorem st_44 (h : H) (id off : Nat) (v : CV) : storeT Go.Proofs.Tryd.prog h 44 id off v = @thn _ _ (h.blk id) ⟨fun b => cond (Nat.beq v.cells.length 1 && !b.ro) ((b.storeA off v.cells).map fun b' => h.put id (.cells b')) none⟩ := by kernel_rfl
attribute [go_sem] st_44
theorem part_44 (cs : List CV) (off : Nat) : partT Go.Proofs.Tryd.prog 44 cs off = nth cs off := by kernel_rfl
attribute [go_sem] part_44
theorem ze_44 : zeroT Go.Proofs.Tryd.prog 44 = some (.nils) := by kernel_rfl
attribute [go_sem] ze_44
theorem ia_44 (id off len k : Nat) (c : Cap) (kd : IntKind) : indexAddrT Go.Proofs.Tryd.prog 44 (.sl id off len c) (.int kd (Int.ofNat k)) = cond (Nat.blt k len) (some (.ptr id (off + k * 1))) none := by kernel_rfl
attribute [go_sem] ia_44
theorem len_44 (h : H) (id off len : Nat) (c : Cap) (ts : List TypeId) (az : List CV) : builtinT Go.Proofs.Tryd.prog h .len (44 :: ts) (.sl id off len c :: az) = some (.val (.int .i64 (Int.ofNat len))) := by kernel_rfl
attribute [go_sem] len_44
theorem len_44_n (h : H) (ts : List TypeId) (az : List CV) : builtinT Go.Proofs.Tryd.prog h .len (44 :: ts) (.nils :: az) = some (.val (.int .i64 0)) := by kernel_rfl
attribute [go_sem] len_44_n
theorem app_44 (h : H) (s : CV) (id off len : Nat) (c : Cap) (ts : List TypeId) (az : List CV) : builtinT Go.Proofs.Tryd.prog h .append (44 :: 44 :: ts) (s :: .sl id off len c :: az) = uv (appendT Go.Proofs.Tryd.prog h 44 s (.sl id off len c)) := by kernel_rfl
attribute [go_sem] app_44
theorem app_44_n (h : H) (s : CV) (ts : List TypeId) (az : List CV) : builtinT Go.Proofs.Tryd.prog h .append (44 :: 44 :: ts) (s :: .nils :: az) = uv (appendT Go.Proofs.Tryd.prog h 44 s .nils) := by kernel_rfl
attribute [go_sem] app_44_n
theorem ap_44 (h : H) (s : CV) (id off len : Nat) (c : Cap) : appendT Go.Proofs.Tryd.prog h 44 s (.sl id off len c) = appS h 1 8 1 s len (firstC h 1 len (.sl id off len c)) := by kernel_rfl
attribute [go_sem] ap_44
theorem ap_44_n (h : H) (s : CV) : appendT Go.Proofs.Tryd.prog h 44 s .nils = appS h 1 8 1 s 0 (some []) := by kernel_rfl
attribute [go_sem] ap_44_n
theorem ap_44_z (h : H) (s : CV) (a b c d : Nat) : appendT Go.Proofs.Tryd.prog h 44 s (.sl0 a b c d) = appS h 1 8 1 s 0 (some []) := by kernel_rfl
attribute [go_sem] ap_44_z
theorem bs_44 (h : H) (n : Nat) (parts : List (Nat × CV)) : buildSliceT Go.Proofs.Tryd.prog h 44 n parts = bslS h 1 (CV.cells (.int .u64 0)) n parts := by kernel_rfl
attribute [go_sem] bs_44
theorem ms_44 (h : H) (l c : Nat) (k k' : IntKind) : makeSliceT Go.Proofs.Tryd.prog h 44 (.int k (Int.ofNat l)) (.int k' (Int.ofNat c)) = mkS h 1 8 (zeroT Go.Proofs.Tryd.prog 22) l c := by kernel_rfl
attribute [go_sem] ms_44
theorem eq_44 (xo yo : Operand) (a b c : Nat) (d : Cap) : binT Go.Proofs.Tryd.prog .eql 44 xo yo (.sl a b c d) .nils = some (.bool false) := by kernel_rfl
attribute [go_sem] eq_44
theorem eq_44_n (xo yo : Operand) : binT Go.Proofs.Tryd.prog .eql 44 xo yo .nils .nils = some (.bool true) := by kernel_rfl
attribute [go_sem] eq_44_n
theorem eq_44_z (xo yo : Operand) (a b c d : Nat) : binT Go.Proofs.Tryd.prog .eql 44 xo yo (.sl0 a b c d) .nils = some (.bool false) := by kernel_rfl
attribute [go_sem] eq_44_z
theorem ne_44 (xo yo : Operand) (a b c : Nat) (d : Cap) : binT Go.Proofs.Tryd.prog .neq 44 xo yo (.sl a b c d) .nils = some (.bool true) := by kernel_rfl
attribute [go_sem] ne_44
theorem ne_44_n (xo yo : Operand) : binT Go.Proofs.Tryd.prog .neq 44 xo yo .nils .nils = some (.bool false) := by kernel_rfl
attribute [go_sem] ne_44_n
theorem ne_44_z (xo yo : Operand) (a b c d : Nat) : binT Go.Proofs.Tryd.prog .neq 44 xo yo (.sl0 a b c d) .nils = some (.bool true) := by kernel_rfl
attribute [go_sem] ne_44_z
theorem len_44_z (h : H) (a b c d : Nat) (ts : List TypeId) (az : List CV) : builtinT Go.Proofs.Tryd.prog h .len (44 :: ts) (.sl0 a b c d :: az) = some (.val (.int .i64 0)) := by kernel_rfl
attribute [go_sem] len_44_z
theorem app_44_z (h : H) (s : CV) (a b c d : Nat) (ts : List TypeId) (az : List CV) : builtinT Go.Proofs.Tryd.prog h .append (44 :: 44 :: ts) (s :: .sl0 a b c d :: az) = uv (appendT Go.Proofs.Tryd.prog h 44 s (.sl0 a b c d)) := by kernel_rfl
attribute [go_sem] app_44_z
theorem sz_45 : szOf Go.Proofs.Tryd.prog 45 = some 2 := by kernel_rfl
attribute [go_sem] sz_45
theorem ld_45 (h : H) (id off : Nat) : loadT Go.Proofs.Tryd.prog h 45 id off = @thn _ _ (h.blk id) ⟨fun b => (b.loadN off 2).map .agg⟩ := by kernel_rfl
attribute [go_sem] ld_45
theorem st_45 (h : H) (id off : Nat) (v : CV) : storeT Go.Proofs.Tryd.prog h 45 id off v = @thn _ _ (h.blk id) ⟨fun b => cond (Nat.beq v.cells.length 2 && !b.ro) ((b.storeA off v.cells).map fun b' => h.put id (.cells b')) none⟩ := by kernel_rfl
attribute [go_sem] st_45
theorem part_45 (cs : List CV) (off : Nat) : partT Go.Proofs.Tryd.prog 45 cs off = some (.agg ((cs.drop off).take 2)) := by kernel_rfl
attribute [go_sem] part_45
theorem ze_45 : zeroT Go.Proofs.Tryd.prog 45 = some (.agg [.nilm, .nils]) := by kernel_rfl
attribute [go_sem] ze_45
theorem bt_45 (parts : List (Nat × CV)) : buildT Go.Proofs.Tryd.prog 45 parts = finB (CV.cells (.agg [.nilm, .nils])) (nth [(0, 1), (1, 1)]) parts := by kernel_rfl
attribute [go_sem] bt_45
theorem fa_45_0 (id off : Nat) : fieldAddrT Go.Proofs.Tryd.prog 45 (.ptr id off) 0 = some (.ptr id (off)) := by kernel_rfl
attribute [go_sem] fa_45_0
theorem fd_45_0 (cs : List CV) : fieldT Go.Proofs.Tryd.prog 45 (.agg cs) 0 = partT Go.Proofs.Tryd.prog 43 cs 0 := by kernel_rfl
attribute [go_sem] fd_45_0
theorem fa_45_1 (id off : Nat) : fieldAddrT Go.Proofs.Tryd.prog 45 (.ptr id off) 1 = some (.ptr id (off + 1)) := by kernel_rfl
attribute [go_sem] fa_45_1
theorem fd_45_1 (cs : List CV) : fieldT Go.Proofs.Tryd.prog 45 (.agg cs) 1 = partT Go.Proofs.Tryd.prog 44 cs 1 := by kernel_rfl
attribute [go_sem] fd_45_1
theorem sz_46 : szOf Go.Proofs.Tryd.prog 46 = some 2 := by kernel_rfl
attribute [go_sem] sz_46
theorem ld_46 (h : H) (id off : Nat) : loadT Go.Proofs.Tryd.prog h 46 id off = @thn _ _ (h.blk id) ⟨fun b => (b.loadN off 2).map .agg⟩ := by kernel_rfl
attribute [go_sem] ld_46
theorem st_46 (h : H) (id off : Nat) (v : CV) : storeT Go.Proofs.Tryd.prog h 46 id off v = @thn _ _ (h.blk id) ⟨fun b => cond (Nat.beq v.cells.length 2 && !b.ro) ((b.storeA off v.cells).map fun b' => h.put id (.cells b')) none⟩ := by kernel_rfl
attribute [go_sem] st_46
theorem part_46 (cs : List CV) (off : Nat) : partT Go.Proofs.Tryd.prog 46 cs off = some (.agg ((cs.drop off).take 2)) := by kernel_rfl
attribute [go_sem] part_46
theorem ze_46 : zeroT Go.Proofs.Tryd.prog 46 = some (.agg [.nilm, .nils]) := by kernel_rfl
attribute [go_sem] ze_46
theorem bt_46 (parts : List (Nat × CV)) : buildT Go.Proofs.Tryd.prog 46 parts = finB (CV.cells (.agg [.nilm, .nils])) (nth [(0, 1), (1, 1)]) parts := by kernel_rfl
attribute [go_sem] bt_46
theorem fa_46_0 (id off : Nat) : fieldAddrT Go.Proofs.Tryd.prog 46 (.ptr id off) 0 = some (.ptr id (off)) := by kernel_rfl
attribute [go_sem] fa_46_0
theorem fd_46_0 (cs : List CV) : fieldT Go.Proofs.Tryd.prog 46 (.agg cs) 0 = partT Go.Proofs.Tryd.prog 43 cs 0 := by kernel_rfl
attribute [go_sem] fd_46_0
theorem fa_46_1 (id off : Nat) : fieldAddrT Go.Proofs.Tryd.prog 46 (.ptr id off) 1 = some (.ptr id (off + 1)) := by kernel_rfl
attribute [go_sem] fa_46_1
theorem fd_46_1 (cs : List CV) : fieldT Go.Proofs.Tryd.prog 46 (.agg cs) 1 = partT Go.Proofs.Tryd.prog 44 cs 1 := by kernel_rfl
attribute [go_sem] fd_46_1
theorem sz_47 : szOf Go.Proofs.Tryd.prog 47 = some 1 := by kernel_rfl
attribute [go_sem] sz_47
theorem ld_47 (h : H) (id off : Nat) : loadT Go.Proofs.Tryd.prog h 47 id off = @thn _ _ (h.blk id) ⟨fun b => b.get off⟩ := by kernel_rfl
attribute [go_sem] ld_47
theorem st_47 (h : H) (id off : Nat) (v : CV) : storeT Go.Proofs.Tryd.prog h 47 id off v = @thn _ _ (h.blk id) ⟨fun b => cond (Nat.beq v.cells.length 1 && !b.ro) ((b.storeA off v.cells).map fun b' => h.put id (.cells b')) none⟩ := by kernel_rfl
attribute [go_sem] st_47
theorem part_47 (cs : List CV) (off : Nat) : partT Go.Proofs.Tryd.prog 47 cs off = nth cs off := by kernel_rfl
attribute [go_sem] part_47
theorem ze_47 : zeroT Go.Proofs.Tryd.prog 47 = some (.nilf) := by kernel_rfl
attribute [go_sem] ze_47
theorem eq_47 (xo yo : Operand) (f : Fn) (a b : List CV) : binT Go.Proofs.Tryd.prog .eql 47 xo yo (.fn f a b) .nilf = some (.bool false) := by kernel_rfl
attribute [go_sem] eq_47
theorem eq_47_n (xo yo : Operand) : binT Go.Proofs.Tryd.prog .eql 47 xo yo .nilf .nilf = some (.bool true) := by kernel_rfl
attribute [go_sem] eq_47_n
theorem ne_47 (xo yo : Operand) (f : Fn) (a b : List CV) : binT Go.Proofs.Tryd.prog .neq 47 xo yo (.fn f a b) .nilf = some (.bool true) := by kernel_rfl
attribute [go_sem] ne_47
theorem ne_47_n (xo yo : Operand) : binT Go.Proofs.Tryd.prog .neq 47 xo yo .nilf .nilf = some (.bool false) := by kernel_rfl
attribute [go_sem] ne_47_n
theorem sz_48 : szOf Go.Proofs.Tryd.prog 48 = some 1 := by kernel_rfl
attribute [go_sem] sz_48
theorem ld_48 (h : H) (id off : Nat) : loadT Go.Proofs.Tryd.prog h 48 id off = @thn _ _ (h.blk id) ⟨fun b => b.get off⟩ := by kernel_rfl
attribute [go_sem] ld_48
theorem st_48 (h : H) (id off : Nat) (v : CV) : storeT Go.Proofs.Tryd.prog h 48 id off v = @thn _ _ (h.blk id) ⟨fun b => cond (Nat.beq v.cells.length 1 && !b.ro) ((b.storeA off v.cells).map fun b' => h.put id (.cells b')) none⟩ := by kernel_rfl
attribute [go_sem] st_48
theorem part_48 (cs : List CV) (off : Nat) : partT Go.Proofs.Tryd.prog 48 cs off = nth cs off := by kernel_rfl
attribute [go_sem] part_48
theorem ze_48 : zeroT Go.Proofs.Tryd.prog 48 = some (.nilf) := by kernel_rfl
attribute [go_sem] ze_48
theorem eq_48 (xo yo : Operand) (f : Fn) (a b : List CV) : binT Go.Proofs.Tryd.prog .eql 48 xo yo (.fn f a b) .nilf = some (.bool false) := by kernel_rfl
attribute [go_sem] eq_48
theorem eq_48_n (xo yo : Operand) : binT Go.Proofs.Tryd.prog .eql 48 xo yo .nilf .nilf = some (.bool true) := by kernel_rfl
attribute [go_sem] eq_48_n
theorem ne_48 (xo yo : Operand) (f : Fn) (a b : List CV) : binT Go.Proofs.Tryd.prog .neq 48 xo yo (.fn f a b) .nilf = some (.bool true) := by kernel_rfl
attribute [go_sem] ne_48
theorem ne_48_n (xo yo : Operand) : binT Go.Proofs.Tryd.prog .neq 48 xo yo .nilf .nilf = some (.bool false) := by kernel_rfl
attribute [go_sem] ne_48_n
theorem sz_49 : szOf Go.Proofs.Tryd.prog 49 = some 1 := by kernel_rfl
attribute [go_sem] sz_49
theorem ld_49 (h : H) (id off : Nat) : loadT Go.Proofs.Tryd.prog h 49 id off = @thn _ _ (h.blk id) ⟨fun b => b.get off⟩ := by kernel_rfl
attribute [go_sem] ld_49
theorem st_49 (h : H) (id off : Nat) (v : CV) : storeT Go.Proofs.Tryd.prog h 49 id off v = @thn _ _ (h.blk id) ⟨fun b => cond (Nat.beq v.cells.length 1 && !b.ro) ((b.storeA off v.cells).map fun b' => h.put id (.cells b')) none⟩ := by kernel_rfl
attribute [go_sem] st_49
theorem part_49 (cs : List CV) (off : Nat) : partT Go.Proofs.Tryd.prog 49 cs off = nth cs off := by kernel_rfl
attribute [go_sem] part_49
theorem ze_49 : zeroT Go.Proofs.Tryd.prog 49 = some (.nilf) := by kernel_rfl
attribute [go_sem] ze_49
theorem eq_49 (xo yo : Operand) (f : Fn) (a b : List CV) : binT Go.Proofs.Tryd.prog .eql 49 xo yo (.fn f a b) .nilf = some (.bool false) := by kernel_rfl
attribute [go_sem] eq_49
theorem eq_49_n (xo yo : Operand) : binT Go.Proofs.Tryd.prog .eql 49 xo yo .nilf .nilf = some (.bool true) := by kernel_rfl
attribute [go_sem] eq_49_n
theorem ne_49 (xo yo : Operand) (f : Fn) (a b : List CV) : binT Go.Proofs.Tryd.prog .neq 49 xo yo (.fn f a b) .nilf = some (.bool true) := by kernel_rfl
attribute [go_sem] ne_49
theorem ne_49_n (xo yo : Operand) : binT Go.Proofs.Tryd.prog .neq 49 xo yo .nilf .nilf = some (.bool false) := by kernel_rfl
attribute [go_sem] ne_49_n
theorem sz_50 : szOf Go.Proofs.Tryd.prog 50 = some 9 := by kernel_rfl
attribute [go_sem] sz_50
theorem ld_50 (h : H) (id off : Nat) : loadT Go.Proofs.Tryd.prog h 50 id off = @thn _ _ (h.blk id) ⟨fun b => (b.loadN off 9).map .agg⟩ := by kernel_rfl
attribute [go_sem] ld_50
theorem st_50 (h : H) (id off : Nat) (v : CV) : storeT Go.Proofs.Tryd.prog h 50 id off v = @thn _ _ (h.blk id) ⟨fun b => cond (Nat.beq v.cells.length 9 && !b.ro) ((b.storeA off v.cells).map fun b' => h.put id (.cells b')) none⟩ := by kernel_rfl
attribute [go_sem] st_50
theorem part_50 (cs : List CV) (off : Nat) : partT Go.Proofs.Tryd.prog 50 cs off = some (.agg ((cs.drop off).take 9)) := by kernel_rfl
attribute [go_sem] part_50
theorem ze_50 : zeroT Go.Proofs.Tryd.prog 50 = some (.agg [.int .i64 0, .int .i64 0, .int .i64 0, .int .i64 0, .int .i64 0, .int .i64 0, .int .i64 0, .int .i64 0, .int .i64 0]) := by kernel_rfl
attribute [go_sem] ze_50
theorem ia_50 (id off k : Nat) (kd : IntKind) : indexAddrT Go.Proofs.Tryd.prog 50 (.ptr id off) (.int kd (Int.ofNat k)) = cond (Nat.blt k 9) (some (.ptr id (off + k * 1))) none := by kernel_rfl
attribute [go_sem] ia_50
theorem ix_50 (cs : List CV) (k : Nat) (kd : IntKind) : indexT Go.Proofs.Tryd.prog 50 (.agg cs) (.int kd (Int.ofNat k)) = cond (Nat.blt k 9) (partT Go.Proofs.Tryd.prog 34 cs (k * 1)) none := by kernel_rfl
attribute [go_sem] ix_50
theorem len_50 (h : H) (ts : List TypeId) (az : List CV) (a : CV) : builtinT Go.Proofs.Tryd.prog h .len (50 :: ts) (a :: az) = some (.val (.int .i64 9)) := by kernel_rfl
attribute [go_sem] len_50
theorem bt_50 (parts : List (Nat × CV)) : buildT Go.Proofs.Tryd.prog 50 parts = finB (CV.cells (.agg [.int .i64 0, .int .i64 0, .int .i64 0, .int .i64 0, .int .i64 0, .int .i64 0, .int .i64 0, .int .i64 0, .int .i64 0])) (fun i => some (i * 1, 1)) parts := by kernel_rfl
attribute [go_sem] bt_50
theorem sz_51 : szOf Go.Proofs.Tryd.prog 51 = some 1 := by kernel_rfl
attribute [go_sem] sz_51
theorem ld_51 (h : H) (id off : Nat) : loadT Go.Proofs.Tryd.prog h 51 id off = @thn _ _ (h.blk id) ⟨fun b => b.get off⟩ := by kernel_rfl
attribute [go_sem] ld_51
theorem st_51 (h : H) (id off : Nat) (v : CV) : storeT Go.Proofs.Tryd.prog h 51 id off v = @thn _ _ (h.blk id) ⟨fun b => cond (Nat.beq v.cells.length 1 && !b.ro) ((b.storeA off v.cells).map fun b' => h.put id (.cells b')) none⟩ := by kernel_rfl
attribute [go_sem] st_51
theorem part_51 (cs : List CV) (off : Nat) : partT Go.Proofs.Tryd.prog 51 cs off = nth cs off := by kernel_rfl
attribute [go_sem] part_51
theorem ze_51 : zeroT Go.Proofs.Tryd.prog 51 = some (.nilm) := by kernel_rfl
attribute [go_sem] ze_51
theorem eq_51 (xo yo : Operand) (a : Nat) : binT Go.Proofs.Tryd.prog .eql 51 xo yo (.map a) .nilm = some (.bool false) := by kernel_rfl
attribute [go_sem] eq_51
theorem eq_51_n (xo yo : Operand) : binT Go.Proofs.Tryd.prog .eql 51 xo yo .nilm .nilm = some (.bool true) := by kernel_rfl
attribute [go_sem] eq_51_n
theorem ne_51 (xo yo : Operand) (a : Nat) : binT Go.Proofs.Tryd.prog .neq 51 xo yo (.map a) .nilm = some (.bool true) := by kernel_rfl
attribute [go_sem] ne_51
theorem ne_51_n (xo yo : Operand) : binT Go.Proofs.Tryd.prog .neq 51 xo yo .nilm .nilm = some (.bool false) := by kernel_rfl
attribute [go_sem] ne_51_n
theorem sz_52 : szOf Go.Proofs.Tryd.prog 52 = some 1 := by kernel_rfl
attribute [go_sem] sz_52
theorem ld_52 (h : H) (id off : Nat) : loadT Go.Proofs.Tryd.prog h 52 id off = @thn _ _ (h.blk id) ⟨fun b => b.get off⟩ := by kernel_rfl
attribute [go_sem] ld_52
theorem st_52 (h : H) (id off : Nat) (v : CV) : storeT Go.Proofs.Tryd.prog h 52 id off v = @thn _ _ (h.blk id) ⟨fun b => cond (Nat.beq v.cells.length 1 && !b.ro) ((b.storeA off v.cells).map fun b' => h.put id (.cells b')) none⟩ := by kernel_rfl
attribute [go_sem] st_52
theorem part_52 (cs : List CV) (off : Nat) : partT Go.Proofs.Tryd.prog 52 cs off = nth cs off := by kernel_rfl
attribute [go_sem] part_52
theorem ze_52 : zeroT Go.Proofs.Tryd.prog 52 = some (.nilf) := by kernel_rfl
attribute [go_sem] ze_52
theorem eq_52 (xo yo : Operand) (f : Fn) (a b : List CV) : binT Go.Proofs.Tryd.prog .eql 52 xo yo (.fn f a b) .nilf = some (.bool false) := by kernel_rfl
attribute [go_sem] eq_52
theorem eq_52_n (xo yo : Operand) : binT Go.Proofs.Tryd.prog .eql 52 xo yo .nilf .nilf = some (.bool true) := by kernel_rfl
attribute [go_sem] eq_52_n
theorem ne_52 (xo yo : Operand) (f : Fn) (a b : List CV) : binT Go.Proofs.Tryd.prog .neq 52 xo yo (.fn f a b) .nilf = some (.bool true) := by kernel_rfl
attribute [go_sem] ne_52
theorem ne_52_n (xo yo : Operand) : binT Go.Proofs.Tryd.prog .neq 52 xo yo .nilf .nilf = some (.bool false) := by kernel_rfl
attribute [go_sem] ne_52_n
theorem sz_53 : szOf Go.Proofs.Tryd.prog 53 = some 1 := by kernel_rfl
attribute [go_sem] sz_53
theorem ld_53 (h : H) (id off : Nat) : loadT Go.Proofs.Tryd.prog h 53 id off = @thn _ _ (h.blk id) ⟨fun b => b.get off⟩ := by kernel_rfl
attribute [go_sem] ld_53
theorem st_53 (h : H) (id off : Nat) (v : CV) : storeT Go.Proofs.Tryd.prog h 53 id off v = @thn _ _ (h.blk id) ⟨fun b => cond (Nat.beq v.cells.length 1 && !b.ro) ((b.storeA off v.cells).map fun b' => h.put id (.cells b')) none⟩ := by kernel_rfl
attribute [go_sem] st_53
theorem part_53 (cs : List CV) (off : Nat) : partT Go.Proofs.Tryd.prog 53 cs off = nth cs off := by kernel_rfl
attribute [go_sem] part_53
theorem ze_53 : zeroT Go.Proofs.Tryd.prog 53 = some (.nilf) := by kernel_rfl
attribute [go_sem] ze_53
theorem eq_53 (xo yo : Operand) (f : Fn) (a b : List CV) : binT Go.Proofs.Tryd.prog .eql 53 xo yo (.fn f a b) .nilf = some (.bool false) := by kernel_rfl
attribute [go_sem] eq_53
theorem eq_53_n (xo yo : Operand) : binT Go.Proofs.Tryd.prog .eql 53 xo yo .nilf .nilf = some (.bool true) := by kernel_rfl
attribute [go_sem] eq_53_n
theorem ne_53 (xo yo : Operand) (f : Fn) (a b : List CV) : binT Go.Proofs.Tryd.prog .neq 53 xo yo (.fn f a b) .nilf = some (.bool true) := by kernel_rfl
attribute [go_sem] ne_53
theorem ne_53_n (xo yo : Operand) : binT Go.Proofs.Tryd.prog .neq 53 xo yo .nilf .nilf = some (.bool false) := by kernel_rfl
attribute [go_sem] ne_53_n
theorem sz_54 : szOf Go.Proofs.Tryd.prog 54 = some 1 := by kernel_rfl
attribute [go_sem] sz_54
theorem ld_54 (h : H) (id off : Nat) : loadT Go.Proofs.Tryd.prog h 54 id off = @thn _ _ (h.blk id) ⟨fun b => b.get off⟩ := by kernel_rfl
attribute [go_sem] ld_54
theorem st_54 (h : H) (id off : Nat) (v : CV) : storeT Go.Proofs.Tryd.prog h 54 id off v = @thn _ _ (h.blk id) ⟨fun b => cond (Nat.beq v.cells.length 1 && !b.ro) ((b.storeA off v.cells).map fun b' => h.put id (.cells b')) none⟩ := by kernel_rfl
attribute [go_sem] st_54
theorem part_54 (cs : List CV) (off : Nat) : partT Go.Proofs.Tryd.prog 54 cs off = nth cs off := by kernel_rfl
attribute [go_sem] part_54
theorem ze_54 : zeroT Go.Proofs.Tryd.prog 54 = some (.nilf) := by kernel_rfl
attribute [go_sem] ze_54
theorem eq_54 (xo yo : Operand) (f : Fn) (a b : List CV) : binT Go.Proofs.Tryd.prog .eql 54 xo yo (.fn f a b) .nilf = some (.bool false) := by kernel_rfl
attribute [go_sem] eq_54
theorem eq_54_n (xo yo : Operand) : binT Go.Proofs.Tryd.prog .eql 54 xo yo .nilf .nilf = some (.bool true) := by kernel_rfl
attribute [go_sem] eq_54_n
theorem ne_54 (xo yo : Operand) (f : Fn) (a b : List CV) : binT Go.Proofs.Tryd.prog .neq 54 xo yo (.fn f a b) .nilf = some (.bool true) := by kernel_rfl
attribute [go_sem] ne_54
theorem ne_54_n (xo yo : Operand) : binT Go.Proofs.Tryd.prog .neq 54 xo yo .nilf .nilf = some (.bool false) := by kernel_rfl
attribute [go_sem] ne_54_n
theorem sz_55 : szOf Go.Proofs.Tryd.prog 55 = some 1 := by kernel_rfl
attribute [go_sem] sz_55
theorem ld_55 (h : H) (id off : Nat) : loadT Go.Proofs.Tryd.prog h 55 id off = @thn _ _ (h.blk id) ⟨fun b => b.get off⟩ := by kernel_rfl
attribute [go_sem] ld_55
theorem st_55 (h : H) (id off : Nat) (v : CV) : storeT Go.Proofs.Tryd.prog h 55 id off v = @thn _ _ (h.blk id) ⟨fun b => cond (Nat.beq v.cells.length 1 && !b.ro) ((b.storeA off v.cells).map fun b' => h.put id (.cells b')) none⟩ := by kernel_rfl
attribute [go_sem] st_55
theorem part_55 (cs : List CV) (off : Nat) : partT Go.Proofs.Tryd.prog 55 cs off = nth cs off := by kernel_rfl
attribute [go_sem] part_55
theorem sz_56 : szOf Go.Proofs.Tryd.prog 56 = some 1 := by kernel_rfl
attribute [go_sem] sz_56
theorem ld_56 (h : H) (id off : Nat) : loadT Go.Proofs.Tryd.prog h 56 id off = @thn _ _ (h.blk id) ⟨fun b => b.get off⟩ := by kernel_rfl
attribute [go_sem] ld_56
theorem st_56 (h : H) (id off : Nat) (v : CV) : storeT Go.Proofs.Tryd.prog h 56 id off v = @thn _ _ (h.blk id) ⟨fun b => cond (Nat.beq v.cells.length 1 && !b.ro) ((b.storeA off v.cells).map fun b' => h.put id (.cells b')) none⟩ := by kernel_rfl
attribute [go_sem] st_56
theorem part_56 (cs : List CV) (off : Nat) : partT Go.Proofs.Tryd.prog 56 cs off = nth cs off := by kernel_rfl
attribute [go_sem] part_56
theorem ze_56 : zeroT Go.Proofs.Tryd.prog 56 = some (.nilf) := by kernel_rfl
attribute [go_sem] ze_56
theorem eq_56 (xo yo : Operand) (f : Fn) (a b : List CV) : binT Go.Proofs.Tryd.prog .eql 56 xo yo (.fn f a b) .nilf = some (.bool false) := by kernel_rfl
attribute [go_sem] eq_56
theorem eq_56_n (xo yo : Operand) : binT Go.Proofs.Tryd.prog .eql 56 xo yo .nilf .nilf = some (.bool true) := by kernel_rfl
attribute [go_sem] eq_56_n
theorem ne_56 (xo yo : Operand) (f : Fn) (a b : List CV) : binT Go.Proofs.Tryd.prog .neq 56 xo yo (.fn f a b) .nilf = some (.bool true) := by kernel_rfl
attribute [go_sem] ne_56
theorem ne_56_n (xo yo : Operand) : binT Go.Proofs.Tryd.prog .neq 56 xo yo .nilf .nilf = some (.bool false) := by kernel_rfl
attribute [go_sem] ne_56_n
theorem sz_57 : szOf Go.Proofs.Tryd.prog 57 = some 3 := by kernel_rfl
attribute [go_sem] sz_57
theorem ld_57 (h : H) (id off : Nat) : loadT Go.Proofs.Tryd.prog h 57 id off = @thn _ _ (h.blk id) ⟨fun b => (b.loadN off 3).map .agg⟩ := by kernel_rfl
attribute [go_sem] ld_57
theorem st_57 (h : H) (id off : Nat) (v : CV) : storeT Go.Proofs.Tryd.prog h 57 id off v = @thn _ _ (h.blk id) ⟨fun b => cond (Nat.beq v.cells.length 3 && !b.ro) ((b.storeA off v.cells).map fun b' => h.put id (.cells b')) none⟩ := by kernel_rfl
attribute [go_sem] st_57
theorem part_57 (cs : List CV) (off : Nat) : partT Go.Proofs.Tryd.prog 57 cs off = some (.agg ((cs.drop off).take 3)) := by kernel_rfl
attribute [go_sem] part_57
theorem ze_57 : zeroT Go.Proofs.Tryd.prog 57 = some (.agg [.int .u64 0, .int .u64 0, .int .u64 0]) := by kernel_rfl
attribute [go_sem] ze_57
theorem ia_57 (id off k : Nat) (kd : IntKind) : indexAddrT Go.Proofs.Tryd.prog 57 (.ptr id off) (.int kd (Int.ofNat k)) = cond (Nat.blt k 3) (some (.ptr id (off + k * 1))) none := by kernel_rfl
attribute [go_sem] ia_57
theorem ix_57 (cs : List CV) (k : Nat) (kd : IntKind) : indexT Go.Proofs.Tryd.prog 57 (.agg cs) (.int kd (Int.ofNat k)) = cond (Nat.blt k 3) (partT Go.Proofs.Tryd.prog 22 cs (k * 1)) none := by kernel_rfl
attribute [go_sem] ix_57
theorem len_57 (h : H) (ts : List TypeId) (az : List CV) (a : CV) : builtinT Go.Proofs.Tryd.prog h .len (57 :: ts) (a :: az) = some (.val (.int .i64 3)) := by kernel_rfl
attribute [go_sem] len_57
theorem bt_57 (parts : List (Nat × CV)) : buildT Go.Proofs.Tryd.prog 57 parts = finB (CV.cells (.agg [.int .u64 0, .int .u64 0, .int .u64 0])) (fun i => some (i * 1, 1)) parts := by kernel_rfl
attribute [go_sem] bt_57
theorem sz_58 : szOf Go.Proofs.Tryd.prog 58 = some 1 := by kernel_rfl
attribute [go_sem] sz_58
theorem ld_58 (h : H) (id off : Nat) : loadT Go.Proofs.Tryd.prog h 58 id off = @thn _ _ (h.blk id) ⟨fun b => b.get off⟩ := by kernel_rfl
attribute [go_sem] ld_58
theorem st_58 (h : H) (id off : Nat) (v : CV) : storeT Go.Proofs.Tryd.prog h 58 id off v = @thn _ _ (h.blk id) ⟨fun b => cond (Nat.beq v.cells.length 1 && !b.ro) ((b.storeA off v.cells).map fun b' => h.put id (.cells b')) none⟩ := by kernel_rfl
attribute [go_sem] st_58
theorem part_58 (cs : List CV) (off : Nat) : partT Go.Proofs.Tryd.prog 58 cs off = nth cs off := by kernel_rfl
attribute [go_sem] part_58
theorem ze_58 : zeroT Go.Proofs.Tryd.prog 58 = some (.nilf) := by kernel_rfl
attribute [go_sem] ze_58
theorem eq_58 (xo yo : Operand) (f : Fn) (a b : List CV) : binT Go.Proofs.Tryd.prog .eql 58 xo yo (.fn f a b) .nilf = some (.bool false) := by kernel_rfl
attribute [go_sem] eq_58
theorem eq_58_n (xo yo : Operand) : binT Go.Proofs.Tryd.prog .eql 58 xo yo .nilf .nilf = some (.bool true) := by kernel_rfl
attribute [go_sem] eq_58_n
theorem ne_58 (xo yo : Operand) (f : Fn) (a b : List CV) : binT Go.Proofs.Tryd.prog .neq 58 xo yo (.fn f a b) .nilf = some (.bool true) := by kernel_rfl
attribute [go_sem] ne_58
theorem ne_58_n (xo yo : Operand) : binT Go.Proofs.Tryd.prog .neq 58 xo yo .nilf .nilf = some (.bool false) := by kernel_rfl
attribute [go_sem] ne_58_n
theorem sz_59 : szOf Go.Proofs.Tryd.prog 59 = some 4 := by kernel_rfl
attribute [go_sem] sz_59
theorem ld_59 (h : H) (id off : Nat) : loadT Go.Proofs.Tryd.prog h 59 id off = @thn _ _ (h.blk id) ⟨fun b => (b.loadN off 4).map .agg⟩ := by kernel_rfl
attribute [go_sem] ld_59
theorem st_59 (h : H) (id off : Nat) (v : CV) : storeT Go.Proofs.Tryd.prog h 59 id off v = @thn _ _ (h.blk id) ⟨fun b => cond (Nat.beq v.cells.length 4 && !b.ro) ((b.storeA off v.cells).map fun b' => h.put id (.cells b')) none⟩ := by kernel_rfl
attribute [go_sem] st_59
theorem part_59 (cs : List CV) (off : Nat) : partT Go.Proofs.Tryd.prog 59 cs off = some (.agg ((cs.drop off).take 4)) := by kernel_rfl
attribute [go_sem] part_59
theorem ze_59 : zeroT Go.Proofs.Tryd.prog 59 = some (.agg [.nilp, .nilp, .nilp, .str []]) := by kernel_rfl
attribute [go_sem] ze_59
theorem bt_59 (parts : List (Nat × CV)) : buildT Go.Proofs.Tryd.prog 59 parts = finB (CV.cells (.agg [.nilp, .nilp, .nilp, .str []])) (nth [(0, 1), (1, 1), (2, 1), (3, 1)]) parts := by kernel_rfl
attribute [go_sem] bt_59
theorem fa_59_0 (id off : Nat) : fieldAddrT Go.Proofs.Tryd.prog 59 (.ptr id off) 0 = some (.ptr id (off)) := by kernel_rfl
attribute [go_sem] fa_59_0
theorem fd_59_0 (cs : List CV) : fieldT Go.Proofs.Tryd.prog 59 (.agg cs) 0 = partT Go.Proofs.Tryd.prog 17 cs 0 := by kernel_rfl
attribute [go_sem] fd_59_0
theorem fa_59_1 (id off : Nat) : fieldAddrT Go.Proofs.Tryd.prog 59 (.ptr id off) 1 = some (.ptr id (off + 1)) := by kernel_rfl
attribute [go_sem] fa_59_1
theorem fd_59_1 (cs : List CV) : fieldT Go.Proofs.Tryd.prog 59 (.agg cs) 1 = partT Go.Proofs.Tryd.prog 17 cs 1 := by kernel_rfl
attribute [go_sem] fd_59_1
theorem fa_59_2 (id off : Nat) : fieldAddrT Go.Proofs.Tryd.prog 59 (.ptr id off) 2 = some (.ptr id (off + 2)) := by kernel_rfl
attribute [go_sem] fa_59_2
theorem fd_59_2 (cs : List CV) : fieldT Go.Proofs.Tryd.prog 59 (.agg cs) 2 = partT Go.Proofs.Tryd.prog 17 cs 2 := by kernel_rfl
attribute [go_sem] fd_59_2
theorem fa_59_3 (id off : Nat) : fieldAddrT Go.Proofs.Tryd.prog 59 (.ptr id off) 3 = some (.ptr id (off + 3)) := by kernel_rfl
attribute [go_sem] fa_59_3
theorem fd_59_3 (cs : List CV) : fieldT Go.Proofs.Tryd.prog 59 (.agg cs) 3 = partT Go.Proofs.Tryd.prog 9 cs 3 := by kernel_rfl
attribute [go_sem] fd_59_3
theorem sz_60 : szOf Go.Proofs.Tryd.prog 60 = some 4 := by kernel_rfl
attribute [go_sem] sz_60
theorem ld_60 (h : H) (id off : Nat) : loadT Go.Proofs.Tryd.prog h 60 id off = @thn _ _ (h.blk id) ⟨fun b => (b.loadN off 4).map .agg⟩ := by kernel_rfl
attribute [go_sem] ld_60
theorem st_60 (h : H) (id off : Nat) (v : CV) : storeT Go.Proofs.Tryd.prog h 60 id off v = @thn _ _ (h.blk id) ⟨fun b => cond (Nat.beq v.cells.length 4 && !b.ro) ((b.storeA off v.cells).map fun b' => h.put id (.cells b')) none⟩ := by kernel_rfl
attribute [go_sem] st_60
theorem part_60 (cs : List CV) (off : Nat) : partT Go.Proofs.Tryd.prog 60 cs off = some (.agg ((cs.drop off).take 4)) := by kernel_rfl
attribute [go_sem] part_60
theorem ze_60 : zeroT Go.Proofs.Tryd.prog 60 = some (.agg [.nilp, .nilp, .nilp, .str []]) := by kernel_rfl
attribute [go_sem] ze_60
theorem bt_60 (parts : List (Nat × CV)) : buildT Go.Proofs.Tryd.prog 60 parts = finB (CV.cells (.agg [.nilp, .nilp, .nilp, .str []])) (nth [(0, 1), (1, 1), (2, 1), (3, 1)]) parts := by kernel_rfl
attribute [go_sem] bt_60
theorem fa_60_0 (id off : Nat) : fieldAddrT Go.Proofs.Tryd.prog 60 (.ptr id off) 0 = some (.ptr id (off)) := by kernel_rfl
attribute [go_sem] fa_60_0
theorem fd_60_0 (cs : List CV) : fieldT Go.Proofs.Tryd.prog 60 (.agg cs) 0 = partT Go.Proofs.Tryd.prog 17 cs 0 := by kernel_rfl
attribute [go_sem] fd_60_0
theorem fa_60_1 (id off : Nat) : fieldAddrT Go.Proofs.Tryd.prog 60 (.ptr id off) 1 = some (.ptr id (off + 1)) := by kernel_rfl
attribute [go_sem] fa_60_1
theorem fd_60_1 (cs : List CV) : fieldT Go.Proofs.Tryd.prog 60 (.agg cs) 1 = partT Go.Proofs.Tryd.prog 17 cs 1 := by kernel_rfl
attribute [go_sem] fd_60_1
theorem fa_60_2 (id off : Nat) : fieldAddrT Go.Proofs.Tryd.prog 60 (.ptr id off) 2 = some (.ptr id (off + 2)) := by kernel_rfl
attribute [go_sem] fa_60_2
theorem fd_60_2 (cs : List CV) : fieldT Go.Proofs.Tryd.prog 60 (.agg cs) 2 = partT Go.Proofs.Tryd.prog 17 cs 2 := by kernel_rfl
attribute [go_sem] fd_60_2
theorem fa_60_3 (id off : Nat) : fieldAddrT Go.Proofs.Tryd.prog 60 (.ptr id off) 3 = some (.ptr id (off + 3)) := by kernel_rfl
attribute [go_sem] fa_60_3
theorem fd_60_3 (cs : List CV) : fieldT Go.Proofs.Tryd.prog 60 (.agg cs) 3 = partT Go.Proofs.Tryd.prog 9 cs 3 := by kernel_rfl
attribute [go_sem] fd_60_3
theorem sz_61 : szOf Go.Proofs.Tryd.prog 61 = some 0 := by kernel_rfl
attribute [go_sem] sz_61
theorem ld_61 (h : H) (id off : Nat) : loadT Go.Proofs.Tryd.prog h 61 id off = @thn _ _ (h.blk id) ⟨fun b => (b.loadN off 0).map .agg⟩ := by kernel_rfl
attribute [go_sem] ld_61
theorem st_61 (h : H) (id off : Nat) (v : CV) : storeT Go.Proofs.Tryd.prog h 61 id off v = @thn _ _ (h.blk id) ⟨fun b => cond (Nat.beq v.cells.length 0 && !b.ro) ((b.storeA off v.cells).map fun b' => h.put id (.cells b')) none⟩ := by kernel_rfl
attribute [go_sem] st_61
theorem part_61 (cs : List CV) (off : Nat) : partT Go.Proofs.Tryd.prog 61 cs off = some (.agg ((cs.drop off).take 0)) := by kernel_rfl
attribute [go_sem] part_61
theorem ze_61 : zeroT Go.Proofs.Tryd.prog 61 = some (.agg []) := by kernel_rfl
attribute [go_sem] ze_61
theorem ia_61 (id off k : Nat) (kd : IntKind) : indexAddrT Go.Proofs.Tryd.prog 61 (.ptr id off) (.int kd (Int.ofNat k)) = cond (Nat.blt k 0) (some (.ptr id (off + k * 1))) none := by kernel_rfl
attribute [go_sem] ia_61
theorem ix_61 (cs : List CV) (k : Nat) (kd : IntKind) : indexT Go.Proofs.Tryd.prog 61 (.agg cs) (.int kd (Int.ofNat k)) = cond (Nat.blt k 0) (partT Go.Proofs.Tryd.prog 16 cs (k * 1)) none := by kernel_rfl
attribute [go_sem] ix_61
theorem len_61 (h : H) (ts : List TypeId) (az : List CV) (a : CV) : builtinT Go.Proofs.Tryd.prog h .len (61 :: ts) (a :: az) = some (.val (.int .i64 0)) := by kernel_rfl
attribute [go_sem] len_61
theorem bt_61 (parts : List (Nat × CV)) : buildT Go.Proofs.Tryd.prog 61 parts = finB (CV.cells (.agg [])) (fun i => some (i * 1, 1)) parts := by kernel_rfl
attribute [go_sem] bt_61
theorem sz_62 : szOf Go.Proofs.Tryd.prog 62 = some 0 := by kernel_rfl
attribute [go_sem] sz_62
theorem ld_62 (h : H) (id off : Nat) : loadT Go.Proofs.Tryd.prog h 62 id off = @thn _ _ (h.blk id) ⟨fun b => (b.loadN off 0).map .agg⟩ := by kernel_rfl
attribute [go_sem] ld_62
theorem st_62 (h : H) (id off : Nat) (v : CV) : storeT Go.Proofs.Tryd.prog h 62 id off v = @thn _ _ (h.blk id) ⟨fun b => cond (Nat.beq v.cells.length 0 && !b.ro) ((b.storeA off v.cells).map fun b' => h.put id (.cells b')) none⟩ := by kernel_rfl
attribute [go_sem] st_62
theorem part_62 (cs : List CV) (off : Nat) : partT Go.Proofs.Tryd.prog 62 cs off = some (.agg ((cs.drop off).take 0)) := by kernel_rfl
attribute [go_sem] part_62
theorem ze_62 : zeroT Go.Proofs.Tryd.prog 62 = some (.agg []) := by kernel_rfl
attribute [go_sem] ze_62
theorem bt_62 (parts : List (Nat × CV)) : buildT Go.Proofs.Tryd.prog 62 parts = finB (CV.cells (.agg [])) (nth [(0, 0)]) parts := by kernel_rfl
attribute [go_sem] bt_62
theorem fd_62_0 (cs : List CV) : fieldT Go.Proofs.Tryd.prog 62 (.agg cs) 0 = partT Go.Proofs.Tryd.prog 61 cs 0 := by kernel_rfl
attribute [go_sem] fd_62_0
theorem sz_63 : szOf Go.Proofs.Tryd.prog 63 = some 0 := by kernel_rfl
attribute [go_sem] sz_63
theorem ld_63 (h : H) (id off : Nat) : loadT Go.Proofs.Tryd.prog h 63 id off = @thn _ _ (h.blk id) ⟨fun b => (b.loadN off 0).map .agg⟩ := by kernel_rfl
attribute [go_sem] ld_63
theorem st_63 (h : H) (id off : Nat) (v : CV) : storeT Go.Proofs.Tryd.prog h 63 id off v = @thn _ _ (h.blk id) ⟨fun b => cond (Nat.beq v.cells.length 0 && !b.ro) ((b.storeA off v.cells).map fun b' => h.put id (.cells b')) none⟩ := by kernel_rfl
attribute [go_sem] st_63
theorem part_63 (cs : List CV) (off : Nat) : partT Go.Proofs.Tryd.prog 63 cs off = some (.agg ((cs.drop off).take 0)) := by kernel_rfl
attribute [go_sem] part_63
theorem ze_63 : zeroT Go.Proofs.Tryd.prog 63 = some (.agg []) := by kernel_rfl
attribute [go_sem] ze_63
theorem bt_63 (parts : List (Nat × CV)) : buildT Go.Proofs.Tryd.prog 63 parts = finB (CV.cells (.agg [])) (nth [(0, 0)]) parts := by kernel_rfl
attribute [go_sem] bt_63
theorem fd_63_0 (cs : List CV) : fieldT Go.Proofs.Tryd.prog 63 (.agg cs) 0 = partT Go.Proofs.Tryd.prog 61 cs 0 := by kernel_rfl
attribute [go_sem] fd_63_0
theorem sz_64 : szOf Go.Proofs.Tryd.prog 64 = some 1 := by kernel_rfl
attribute [go_sem] sz_64
theorem ld_64 (h : H) (id off : Nat) : loadT Go.Proofs.Tryd.prog h 64 id off = @thn _ _ (h.blk id) ⟨fun b => b.get off⟩ := by kernel_rfl
attribute [go_sem] ld_64
theorem st_64 (h : H) (id off : Nat) (v : CV) : storeT Go.Proofs.Tryd.prog h 64 id off v = @thn _ _ (h.blk id) ⟨fun b => cond (Nat.beq v.cells.length 1 && !b.ro) ((b.storeA off v.cells).map fun b' => h.put id (.cells b')) none⟩ := by kernel_rfl
attribute [go_sem] st_64
theorem part_64 (cs : List CV) (off : Nat) : partT Go.Proofs.Tryd.prog 64 cs off = nth cs off := by kernel_rfl
attribute [go_sem] part_64
theorem ze_64 : zeroT Go.Proofs.Tryd.prog 64 = some (.nilf) := by kernel_rfl
attribute [go_sem] ze_64
theorem eq_64 (xo yo : Operand) (f : Fn) (a b : List CV) : binT Go.Proofs.Tryd.prog .eql 64 xo yo (.fn f a b) .nilf = some (.bool false) := by kernel_rfl
attribute [go_sem] eq_64
theorem eq_64_n (xo yo : Operand) : binT Go.Proofs.Tryd.prog .eql 64 xo yo .nilf .nilf = some (.bool true) := by kernel_rfl
attribute [go_sem] eq_64_n
theorem ne_64 (xo yo : Operand) (f : Fn) (a b : List CV) : binT Go.Proofs.Tryd.prog .neq 64 xo yo (.fn f a b) .nilf = some (.bool true) := by kernel_rfl
attribute [go_sem] ne_64
theorem ne_64_n (xo yo : Operand) : binT Go.Proofs.Tryd.prog .neq 64 xo yo .nilf .nilf = some (.bool false) := by kernel_rfl
attribute [go_sem] ne_64_n
theorem sz_65 : szOf Go.Proofs.Tryd.prog 65 = some 1 := by kernel_rfl
attribute [go_sem] sz_65
theorem ld_65 (h : H) (id off : Nat) : loadT Go.Proofs.Tryd.prog h 65 id off = @thn _ _ (h.blk id) ⟨fun b => b.get off⟩ := by kernel_rfl
attribute [go_sem] ld_65
theorem st_65 (h : H) (id off : Nat) (v : CV) : storeT Go.Proofs.Tryd.prog h 65 id off v = @thn _ _ (h.blk id) ⟨fun b => cond (Nat.beq v.cells.length 1 && !b.ro) ((b.storeA off v.cells).map fun b' => h.put id (.cells b')) none⟩ := by kernel_rfl
attribute [go_sem] st_65
theorem part_65 (cs : List CV) (off : Nat) : partT Go.Proofs.Tryd.prog 65 cs off = nth cs off := by kernel_rfl
attribute [go_sem] part_65
theorem ze_65 : zeroT Go.Proofs.Tryd.prog 65 = some (.int .u32 0) := by kernel_rfl
attribute [go_sem] ze_65
theorem sz_66 : szOf Go.Proofs.Tryd.prog 66 = some 1 := by kernel_rfl
attribute [go_sem] sz_66
theorem ld_66 (h : H) (id off : Nat) : loadT Go.Proofs.Tryd.prog h 66 id off = @thn _ _ (h.blk id) ⟨fun b => b.get off⟩ := by kernel_rfl
attribute [go_sem] ld_66
theorem st_66 (h : H) (id off : Nat) (v : CV) : storeT Go.Proofs.Tryd.prog h 66 id off v = @thn _ _ (h.blk id) ⟨fun b => cond (Nat.beq v.cells.length 1 && !b.ro) ((b.storeA off v.cells).map fun b' => h.put id (.cells b')) none⟩ := by kernel_rfl
attribute [go_sem] st_66
theorem part_66 (cs : List CV) (off : Nat) : partT Go.Proofs.Tryd.prog 66 cs off = nth cs off := by kernel_rfl
attribute [go_sem] part_66
theorem ze_66 : zeroT Go.Proofs.Tryd.prog 66 = some (.int .u8 0) := by kernel_rfl
attribute [go_sem] ze_66
theorem sz_67 : szOf Go.Proofs.Tryd.prog 67 = some 1 := by kernel_rfl
attribute [go_sem] sz_67
theorem ld_67 (h : H) (id off : Nat) : loadT Go.Proofs.Tryd.prog h 67 id off = @thn _ _ (h.blk id) ⟨fun b => b.get off⟩ := by kernel_rfl
attribute [go_sem] ld_67
theorem st_67 (h : H) (id off : Nat) (v : CV) : storeT Go.Proofs.Tryd.prog h 67 id off v = @thn _ _ (h.blk id) ⟨fun b => cond (Nat.beq v.cells.length 1 && !b.ro) ((b.storeA off v.cells).map fun b' => h.put id (.cells b')) none⟩ := by kernel_rfl
attribute [go_sem] st_67
theorem part_67 (cs : List CV) (off : Nat) : partT Go.Proofs.Tryd.prog 67 cs off = nth cs off := by kernel_rfl
attribute [go_sem] part_67
theorem ze_67 : zeroT Go.Proofs.Tryd.prog 67 = some (.int .u8 0) := by kernel_rfl
attribute [go_sem] ze_67
theorem sz_68 : szOf Go.Proofs.Tryd.prog 68 = some 1 := by kernel_rfl
attribute [go_sem] sz_68
theorem ld_68 (h : H) (id off : Nat) : loadT Go.Proofs.Tryd.prog h 68 id off = @thn _ _ (h.blk id) ⟨fun b => b.get off⟩ := by kernel_rfl
attribute [go_sem] ld_68
theorem st_68 (h : H) (id off : Nat) (v : CV) : storeT Go.Proofs.Tryd.prog h 68 id off v = @thn _ _ (h.blk id) ⟨fun b => cond (Nat.beq v.cells.length 1 && !b.ro) ((b.storeA off v.cells).map fun b' => h.put id (.cells b')) none⟩ := by kernel_rfl
attribute [go_sem] st_68
theorem part_68 (cs : List CV) (off : Nat) : partT Go.Proofs.Tryd.prog 68 cs off = nth cs off := by kernel_rfl
attribute [go_sem] part_68
theorem ze_68 : zeroT Go.Proofs.Tryd.prog 68 = some (.nilf) := by kernel_rfl
attribute [go_sem] ze_68
theorem eq_68 (xo yo : Operand) (f : Fn) (a b : List CV) : binT Go.Proofs.Tryd.prog .eql 68 xo yo (.fn f a b) .nilf = some (.bool false) := by kernel_rfl
attribute [go_sem] eq_68
theorem eq_68_n (xo yo : Operand) : binT Go.Proofs.Tryd.prog .eql 68 xo yo .nilf .nilf = some (.bool true) := by kernel_rfl
attribute [go_sem] eq_68_n
theorem ne_68 (xo yo : Operand) (f : Fn) (a b : List CV) : binT Go.Proofs.Tryd.prog .neq 68 xo yo (.fn f a b) .nilf = some (.bool true) := by kernel_rfl
attribute [go_sem] ne_68
theorem ne_68_n (xo yo : Operand) : binT Go.Proofs.Tryd.prog .neq 68 xo yo .nilf .nilf = some (.bool false) := by kernel_rfl
attribute [go_sem] ne_68_n
theorem sz_69 : szOf Go.Proofs.Tryd.prog 69 = some 1 := by kernel_rfl
attribute [go_sem] sz_69
theorem ld_69 (h : H) (id off : Nat) : loadT Go.Proofs.Tryd.prog h 69 id off = @thn _ _ (h.blk id) ⟨fun b => b.get off⟩ := by kernel_rfl
attribute [go_sem] ld_69
theorem st_69 (h : H) (id off : Nat) (v : CV) : storeT Go.Proofs.Tryd.prog h 69 id off v = @thn _ _ (h.blk id) ⟨fun b => cond (Nat.beq v.cells.length 1 && !b.ro) ((b.storeA off v.cells).map fun b' => h.put id (.cells b')) none⟩ := by kernel_rfl
attribute [go_sem] st_69
theorem part_69 (cs : List CV) (off : Nat) : partT Go.Proofs.Tryd.prog 69 cs off = nth cs off := by kernel_rfl
attribute [go_sem] part_69
theorem ze_69 : zeroT Go.Proofs.Tryd.prog 69 = some (.nilp) := by kernel_rfl
attribute [go_sem] ze_69
theorem eq_69 (xo yo : Operand) (a b : Nat) : binT Go.Proofs.Tryd.prog .eql 69 xo yo (.ptr a b) .nilp = some (.bool false) := by kernel_rfl
attribute [go_sem] eq_69
theorem eq_69_n (xo yo : Operand) : binT Go.Proofs.Tryd.prog .eql 69 xo yo .nilp .nilp = some (.bool true) := by kernel_rfl
attribute [go_sem] eq_69_n
theorem ne_69 (xo yo : Operand) (a b : Nat) : binT Go.Proofs.Tryd.prog .neq 69 xo yo (.ptr a b) .nilp = some (.bool true) := by kernel_rfl
attribute [go_sem] ne_69
theorem ne_69_n (xo yo : Operand) : binT Go.Proofs.Tryd.prog .neq 69 xo yo .nilp .nilp = some (.bool false) := by kernel_rfl
attribute [go_sem] ne_69_n
theorem sz_70 : szOf Go.Proofs.Tryd.prog 70 = some 1 := by kernel_rfl
attribute [go_sem] sz_70
theorem ld_70 (h : H) (id off : Nat) : loadT Go.Proofs.Tryd.prog h 70 id off = @thn _ _ (h.blk id) ⟨fun b => b.get off⟩ := by kernel_rfl
attribute [go_sem] ld_70
theorem st_70 (h : H) (id off : Nat) (v : CV) : storeT Go.Proofs.Tryd.prog h 70 id off v = @thn _ _ (h.blk id) ⟨fun b => cond (Nat.beq v.cells.length 1 && !b.ro) ((b.storeA off v.cells).map fun b' => h.put id (.cells b')) none⟩ := by kernel_rfl
attribute [go_sem] st_70
theorem part_70 (cs : List CV) (off : Nat) : partT Go.Proofs.Tryd.prog 70 cs off = nth cs off := by kernel_rfl
attribute [go_sem] part_70
theorem ze_70 : zeroT Go.Proofs.Tryd.prog 70 = some (.int .i32 0) := by kernel_rfl
attribute [go_sem] ze_70
theorem sz_71 : szOf Go.Proofs.Tryd.prog 71 = some 1 := by kernel_rfl
attribute [go_sem] sz_71
theorem ld_71 (h : H) (id off : Nat) : loadT Go.Proofs.Tryd.prog h 71 id off = @thn _ _ (h.blk id) ⟨fun b => b.get off⟩ := by kernel_rfl
attribute [go_sem] ld_71
theorem st_71 (h : H) (id off : Nat) (v : CV) : storeT Go.Proofs.Tryd.prog h 71 id off v = @thn _ _ (h.blk id) ⟨fun b => cond (Nat.beq v.cells.length 1 && !b.ro) ((b.storeA off v.cells).map fun b' => h.put id (.cells b')) none⟩ := by kernel_rfl
attribute [go_sem] st_71
theorem part_71 (cs : List CV) (off : Nat) : partT Go.Proofs.Tryd.prog 71 cs off = nth cs off := by kernel_rfl
attribute [go_sem] part_71
theorem ze_71 : zeroT Go.Proofs.Tryd.prog 71 = some (.int .i32 0) := by kernel_rfl
attribute [go_sem] ze_71
theorem sz_72 : szOf Go.Proofs.Tryd.prog 72 = some 11 := by kernel_rfl
attribute [go_sem] sz_72
theorem ld_72 (h : H) (id off : Nat) : loadT Go.Proofs.Tryd.prog h 72 id off = @thn _ _ (h.blk id) ⟨fun b => (b.loadN off 11).map .agg⟩ := by kernel_rfl
attribute [go_sem] ld_72
theorem st_72 (h : H) (id off : Nat) (v : CV) : storeT Go.Proofs.Tryd.prog h 72 id off v = @thn _ _ (h.blk id) ⟨fun b => cond (Nat.beq v.cells.length 11 && !b.ro) ((b.storeA off v.cells).map fun b' => h.put id (.cells b')) none⟩ := by kernel_rfl
attribute [go_sem] st_72
theorem part_72 (cs : List CV) (off : Nat) : partT Go.Proofs.Tryd.prog 72 cs off = some (.agg ((cs.drop off).take 11)) := by kernel_rfl
attribute [go_sem] part_72
theorem ze_72 : zeroT Go.Proofs.Tryd.prog 72 = some (.agg [.int .u64 0, .int .u64 0, .int .u32 0, .int .u8 0, .int .u8 0, .int .u8 0, .int .u8 0, .nilf, .nilp, .int .i32 0, .int .i32 0]) := by kernel_rfl
attribute [go_sem] ze_72
theorem bt_72 (parts : List (Nat × CV)) : buildT Go.Proofs.Tryd.prog 72 parts = finB (CV.cells (.agg [.int .u64 0, .int .u64 0, .int .u32 0, .int .u8 0, .int .u8 0, .int .u8 0, .int .u8 0, .nilf, .nilp, .int .i32 0, .int .i32 0])) (nth [(0, 1), (1, 1), (2, 1), (3, 1), (4, 1), (5, 1), (6, 1), (7, 1), (8, 1), (9, 1), (10, 1)]) parts := by kernel_rfl
attribute [go_sem] bt_72
theorem fa_72_0 (id off : Nat) : fieldAddrT Go.Proofs.Tryd.prog 72 (.ptr id off) 0 = some (.ptr id (off)) := by kernel_rfl
attribute [go_sem] fa_72_0
theorem fd_72_0 (cs : List CV) : fieldT Go.Proofs.Tryd.prog 72 (.agg cs) 0 = partT Go.Proofs.Tryd.prog 12 cs 0 := by kernel_rfl
attribute [go_sem] fd_72_0
theorem fa_72_1 (id off : Nat) : fieldAddrT Go.Proofs.Tryd.prog 72 (.ptr id off) 1 = some (.ptr id (off + 1)) := by kernel_rfl
attribute [go_sem] fa_72_1
theorem fd_72_1 (cs : List CV) : fieldT Go.Proofs.Tryd.prog 72 (.agg cs) 1 = partT Go.Proofs.Tryd.prog 12 cs 1 := by kernel_rfl
attribute [go_sem] fd_72_1
theorem fa_72_2 (id off : Nat) : fieldAddrT Go.Proofs.Tryd.prog 72 (.ptr id off) 2 = some (.ptr id (off + 2)) := by kernel_rfl
attribute [go_sem] fa_72_2
theorem fd_72_2 (cs : List CV) : fieldT Go.Proofs.Tryd.prog 72 (.agg cs) 2 = partT Go.Proofs.Tryd.prog 65 cs 2 := by kernel_rfl
attribute [go_sem] fd_72_2
theorem fa_72_3 (id off : Nat) : fieldAddrT Go.Proofs.Tryd.prog 72 (.ptr id off) 3 = some (.ptr id (off + 3)) := by kernel_rfl
attribute [go_sem] fa_72_3
theorem fd_72_3 (cs : List CV) : fieldT Go.Proofs.Tryd.prog 72 (.agg cs) 3 = partT Go.Proofs.Tryd.prog 66 cs 3 := by kernel_rfl
attribute [go_sem] fd_72_3
theorem fa_72_4 (id off : Nat) : fieldAddrT Go.Proofs.Tryd.prog 72 (.ptr id off) 4 = some (.ptr id (off + 4)) := by kernel_rfl
attribute [go_sem] fa_72_4
theorem fd_72_4 (cs : List CV) : fieldT Go.Proofs.Tryd.prog 72 (.agg cs) 4 = partT Go.Proofs.Tryd.prog 5 cs 4 := by kernel_rfl
attribute [go_sem] fd_72_4
theorem fa_72_5 (id off : Nat) : fieldAddrT Go.Proofs.Tryd.prog 72 (.ptr id off) 5 = some (.ptr id (off + 5)) := by kernel_rfl
attribute [go_sem] fa_72_5
theorem fd_72_5 (cs : List CV) : fieldT Go.Proofs.Tryd.prog 72 (.agg cs) 5 = partT Go.Proofs.Tryd.prog 5 cs 5 := by kernel_rfl
attribute [go_sem] fd_72_5
theorem fa_72_6 (id off : Nat) : fieldAddrT Go.Proofs.Tryd.prog 72 (.ptr id off) 6 = some (.ptr id (off + 6)) := by kernel_rfl
attribute [go_sem] fa_72_6
theorem fd_72_6 (cs : List CV) : fieldT Go.Proofs.Tryd.prog 72 (.agg cs) 6 = partT Go.Proofs.Tryd.prog 67 cs 6 := by kernel_rfl
attribute [go_sem] fd_72_6
theorem fa_72_7 (id off : Nat) : fieldAddrT Go.Proofs.Tryd.prog 72 (.ptr id off) 7 = some (.ptr id (off + 7)) := by kernel_rfl
attribute [go_sem] fa_72_7
theorem fd_72_7 (cs : List CV) : fieldT Go.Proofs.Tryd.prog 72 (.agg cs) 7 = partT Go.Proofs.Tryd.prog 68 cs 7 := by kernel_rfl
attribute [go_sem] fd_72_7
theorem fa_72_8 (id off : Nat) : fieldAddrT Go.Proofs.Tryd.prog 72 (.ptr id off) 8 = some (.ptr id (off + 8)) := by kernel_rfl
attribute [go_sem] fa_72_8
theorem fd_72_8 (cs : List CV) : fieldT Go.Proofs.Tryd.prog 72 (.agg cs) 8 = partT Go.Proofs.Tryd.prog 69 cs 8 := by kernel_rfl
attribute [go_sem] fd_72_8
theorem fa_72_9 (id off : Nat) : fieldAddrT Go.Proofs.Tryd.prog 72 (.ptr id off) 9 = some (.ptr id (off + 9)) := by kernel_rfl
attribute [go_sem] fa_72_9
theorem fd_72_9 (cs : List CV) : fieldT Go.Proofs.Tryd.prog 72 (.agg cs) 9 = partT Go.Proofs.Tryd.prog 70 cs 9 := by kernel_rfl
attribute [go_sem] fd_72_9
theorem fa_72_10 (id off : Nat) : fieldAddrT Go.Proofs.Tryd.prog 72 (.ptr id off) 10 = some (.ptr id (off + 10)) := by kernel_rfl
attribute [go_sem] fa_72_10
theorem fd_72_10 (cs : List CV) : fieldT Go.Proofs.Tryd.prog 72 (.agg cs) 10 = partT Go.Proofs.Tryd.prog 71 cs 10 := by kernel_rfl
attribute [go_sem] fd_72_10
theorem sz_73 : szOf Go.Proofs.Tryd.prog 73 = some 11 := by kernel_rfl
attribute [go_sem] sz_73
theorem ld_73 (h : H) (id off : Nat) : loadT Go.Proofs.Tryd.prog h 73 id off = @thn _ _ (h.blk id) ⟨fun b => (b.loadN off 11).map .agg⟩ := by kernel_rfl
attribute [go_sem] ld_73
theorem st_73 (h : H) (id off : Nat) (v : CV) : storeT Go.Proofs.Tryd.prog h 73 id off v = @thn _ _ (h.blk id) ⟨fun b => cond (Nat.beq v.cells.length 11 && !b.ro) ((b.storeA off v.cells).map fun b' => h.put id (.cells b')) none⟩ := by kernel_rfl
attribute [go_sem] st_73
theorem part_73 (cs : List CV) (off : Nat) : partT Go.Proofs.Tryd.prog 73 cs off = some (.agg ((cs.drop off).take 11)) := by kernel_rfl
attribute [go_sem] part_73
theorem ze_73 : zeroT Go.Proofs.Tryd.prog 73 = some (.agg [.int .u64 0, .int .u64 0, .int .u32 0, .int .u8 0, .int .u8 0, .int .u8 0, .int .u8 0, .nilf, .nilp, .int .i32 0, .int .i32 0]) := by kernel_rfl
attribute [go_sem] ze_73
theorem bt_73 (parts : List (Nat × CV)) : buildT Go.Proofs.Tryd.prog 73 parts = finB (CV.cells (.agg [.int .u64 0, .int .u64 0, .int .u32 0, .int .u8 0, .int .u8 0, .int .u8 0, .int .u8 0, .nilf, .nilp, .int .i32 0, .int .i32 0])) (nth [(0, 1), (1, 1), (2, 1), (3, 1), (4, 1), (5, 1), (6, 1), (7, 1), (8, 1), (9, 1), (10, 1)]) parts := by kernel_rfl
attribute [go_sem] bt_73
theorem fa_73_0 (id off : Nat) : fieldAddrT Go.Proofs.Tryd.prog 73 (.ptr id off) 0 = some (.ptr id (off)) := by kernel_rfl
attribute [go_sem] fa_73_0
theorem fd_73_0 (cs : List CV) : fieldT Go.Proofs.Tryd.prog 73 (.agg cs) 0 = partT Go.Proofs.Tryd.prog 12 cs 0 := by kernel_rfl
attribute [go_sem] fd_73_0
theorem fa_73_1 (id off : Nat) : fieldAddrT Go.Proofs.Tryd.prog 73 (.ptr id off) 1 = some (.ptr id (off + 1)) := by kernel_rfl
attribute [go_sem] fa_73_1
theorem fd_73_1 (cs : List CV) : fieldT Go.Proofs.Tryd.prog 73 (.agg cs) 1 = partT Go.Proofs.Tryd.prog 12 cs 1 := by kernel_rfl
attribute [go_sem] fd_73_1
theorem fa_73_2 (id off : Nat) : fieldAddrT Go.Proofs.Tryd.prog 73 (.ptr id off) 2 = some (.ptr id (off + 2)) := by kernel_rfl
attribute [go_sem] fa_73_2
theorem fd_73_2 (cs : List CV) : fieldT Go.Proofs.Tryd.prog 73 (.agg cs) 2 = partT Go.Proofs.Tryd.prog 65 cs 2 := by kernel_rfl
attribute [go_sem] fd_73_2
theorem fa_73_3 (id off : Nat) : fieldAddrT Go.Proofs.Tryd.prog 73 (.ptr id off) 3 = some (.ptr id (off + 3)) := by kernel_rfl
attribute [go_sem] fa_73_3
theorem fd_73_3 (cs : List CV) : fieldT Go.Proofs.Tryd.prog 73 (.agg cs) 3 = partT Go.Proofs.Tryd.prog 66 cs 3 := by kernel_rfl
attribute [go_sem] fd_73_3
theorem fa_73_4 (id off : Nat) : fieldAddrT Go.Proofs.Tryd.prog 73 (.ptr id off) 4 = some (.ptr id (off + 4)) := by kernel_rfl
attribute [go_sem] fa_73_4
theorem fd_73_4 (cs : List CV) : fieldT Go.Proofs.Tryd.prog 73 (.agg cs) 4 = partT Go.Proofs.Tryd.prog 5 cs 4 := by kernel_rfl
attribute [go_sem] fd_73_4
theorem fa_73_5 (id off : Nat) : fieldAddrT Go.Proofs.Tryd.prog 73 (.ptr id off) 5 = some (.ptr id (off + 5)) := by kernel_rfl
attribute [go_sem] fa_73_5
theorem fd_73_5 (cs : List CV) : fieldT Go.Proofs.Tryd.prog 73 (.agg cs) 5 = partT Go.Proofs.Tryd.prog 5 cs 5 := by kernel_rfl
attribute [go_sem] fd_73_5
theorem fa_73_6 (id off : Nat) : fieldAddrT Go.Proofs.Tryd.prog 73 (.ptr id off) 6 = some (.ptr id (off + 6)) := by kernel_rfl
attribute [go_sem] fa_73_6
theorem fd_73_6 (cs : List CV) : fieldT Go.Proofs.Tryd.prog 73 (.agg cs) 6 = partT Go.Proofs.Tryd.prog 67 cs 6 := by kernel_rfl
attribute [go_sem] fd_73_6
theorem fa_73_7 (id off : Nat) : fieldAddrT Go.Proofs.Tryd.prog 73 (.ptr id off) 7 = some (.ptr id (off + 7)) := by kernel_rfl
attribute [go_sem] fa_73_7
theorem fd_73_7 (cs : List CV) : fieldT Go.Proofs.Tryd.prog 73 (.agg cs) 7 = partT Go.Proofs.Tryd.prog 68 cs 7 := by kernel_rfl
attribute [go_sem] fd_73_7
theorem fa_73_8 (id off : Nat) : fieldAddrT Go.Proofs.Tryd.prog 73 (.ptr id off) 8 = some (.ptr id (off + 8)) := by kernel_rfl
attribute [go_sem] fa_73_8
theorem fd_73_8 (cs : List CV) : fieldT Go.Proofs.Tryd.prog 73 (.agg cs) 8 = partT Go.Proofs.Tryd.prog 69 cs 8 := by kernel_rfl
attribute [go_sem] fd_73_8
theorem fa_73_9 (id off : Nat) : fieldAddrT Go.Proofs.Tryd.prog 73 (.ptr id off) 9 = some (.ptr id (off + 9)) := by kernel_rfl
attribute [go_sem] fa_73_9
theorem fd_73_9 (cs : List CV) : fieldT Go.Proofs.Tryd.prog 73 (.agg cs) 9 = partT Go.Proofs.Tryd.prog 70 cs 9 := by kernel_rfl
attribute [go_sem] fd_73_9
theorem fa_73_10 (id off : Nat) : fieldAddrT Go.Proofs.Tryd.prog 73 (.ptr id off) 10 = some (.ptr id (off + 10)) := by kernel_rfl
attribute [go_sem] fa_73_10
theorem fd_73_10 (cs : List CV) : fieldT Go.Proofs.Tryd.prog 73 (.agg cs) 10 = partT Go.Proofs.Tryd.prog 71 cs 10 := by kernel_rfl
attribute [go_sem] fd_73_10
theorem sz_74 : szOf Go.Proofs.Tryd.prog 74 = some 1 := by kernel_rfl
attribute [go_sem] sz_74
theorem ld_74 (h : H) (id off : Nat) : loadT Go.Proofs.Tryd.prog h 74 id off = @thn _ _ (h.blk id) ⟨fun b => b.get off⟩ := by kernel_rfl
attribute [go_sem] ld_74
theorem st_74 (h : H) (id off : Nat) (v : CV) : storeT Go.Proofs.Tryd.prog h 74 id off v = @thn _ _ (h.blk id) ⟨fun b => cond (Nat.beq v.cells.length 1 && !b.ro) ((b.storeA off v.cells).map fun b' => h.put id (.cells b')) none⟩ := by kernel_rfl
attribute [go_sem] st_74
theorem part_74 (cs : List CV) (off : Nat) : partT Go.Proofs.Tryd.prog 74 cs off = nth cs off := by kernel_rfl
attribute [go_sem] part_74
theorem ze_74 : zeroT Go.Proofs.Tryd.prog 74 = some (.nilp) := by kernel_rfl
attribute [go_sem] ze_74
theorem eq_20 (xo yo : Operand) (u : TypeId) (v : CV) : binT Go.Proofs.Tryd.prog .eql 20 xo yo (.ifc u v) .nili = some (.bool false) := by kernel_rfl
attribute [go_sem] eq_20
theorem eq_20_n (n : Nat) (v : Value) : binT Go.Proofs.Tryd.prog .eql 20 (.tmp n) (.const v) .nili .nili = some (.bool true) := by kernel_rfl
attribute [go_sem] eq_20_n
theorem ne_20 (xo yo : Operand) (u : TypeId) (v : CV) : binT Go.Proofs.Tryd.prog .neq 20 xo yo (.ifc u v) .nili = some (.bool true) := by kernel_rfl
attribute [go_sem] ne_20
theorem ne_20_n (n : Nat) (v : Value) : binT Go.Proofs.Tryd.prog .neq 20 (.tmp n) (.const v) .nili .nili = some (.bool false) := by kernel_rfl
attribute [go_sem] ne_20_n
theorem fn_2 : nth Go.Proofs.Tryd.prog.funcs.toList 2 = some Go.Proofs.Tryd.f2 := by kernel_rfl
attribute [go_sem] fn_2
theorem tx_2 : isTextO Go.Proofs.Tryd.prog 2 = some () := by kernel_rfl
attribute [go_sem] tx_2
theorem fn_3 : nth Go.Proofs.Tryd.prog.funcs.toList 3 = some Go.Proofs.Tryd.f3 := by kernel_rfl
attribute [go_sem] fn_3
theorem tx_3 : isTextO Go.Proofs.Tryd.prog 3 = some () := by kernel_rfl
attribute [go_sem] tx_3
theorem fn_4 : nth Go.Proofs.Tryd.prog.funcs.toList 4 = some Go.Proofs.Tryd.f4 := by kernel_rfl
attribute [go_sem] fn_4
theorem tx_4 : isTextO Go.Proofs.Tryd.prog 4 = some () := by kernel_rfl
attribute [go_sem] tx_4
theorem fn_5 : nth Go.Proofs.Tryd.prog.funcs.toList 5 = some Go.Proofs.Tryd.f5 := by kernel_rfl
attribute [go_sem] fn_5
theorem tx_5 : isTextO Go.Proofs.Tryd.prog 5 = some () := by kernel_rfl
attribute [go_sem] tx_5
theorem fn_6 : nth Go.Proofs.Tryd.prog.funcs.toList 6 = some Go.Proofs.Tryd.f6 := by kernel_rfl
attribute [go_sem] fn_6
theorem tx_6 : isTextO Go.Proofs.Tryd.prog 6 = some () := by kernel_rfl
attribute [go_sem] tx_6
theorem fn_7 : nth Go.Proofs.Tryd.prog.funcs.toList 7 = some Go.Proofs.Tryd.f7 := by kernel_rfl
attribute [go_sem] fn_7
theorem tx_7 : isTextO Go.Proofs.Tryd.prog 7 = some () := by kernel_rfl
attribute [go_sem] tx_7
theorem fn_8 : nth Go.Proofs.Tryd.prog.funcs.toList 8 = some Go.Proofs.Tryd.f8 := by kernel_rfl
attribute [go_sem] fn_8
theorem tx_8 : isTextO Go.Proofs.Tryd.prog 8 = some () := by kernel_rfl
attribute [go_sem] tx_8
theorem fn_9 : nth Go.Proofs.Tryd.prog.funcs.toList 9 = some Go.Proofs.Tryd.f9 := by kernel_rfl
attribute [go_sem] fn_9
theorem tx_9 : isTextO Go.Proofs.Tryd.prog 9 = some () := by kernel_rfl
attribute [go_sem] tx_9
theorem fn_10 : nth Go.Proofs.Tryd.prog.funcs.toList 10 = some Go.Proofs.Tryd.f10 := by kernel_rfl
attribute [go_sem] fn_10
theorem tx_10 : isTextO Go.Proofs.Tryd.prog 10 = some () := by kernel_rfl
attribute [go_sem] tx_10
theorem fn_11 : nth Go.Proofs.Tryd.prog.funcs.toList 11 = some Go.Proofs.Tryd.f11 := by kernel_rfl
attribute [go_sem] fn_11
theorem tx_11 : isTextO Go.Proofs.Tryd.prog 11 = some () := by kernel_rfl
attribute [go_sem] tx_11
theorem fn_12 : nth Go.Proofs.Tryd.prog.funcs.toList 12 = some Go.Proofs.Tryd.f12 := by kernel_rfl
attribute [go_sem] fn_12
theorem tx_12 : isTextO Go.Proofs.Tryd.prog 12 = some () := by kernel_rfl
attribute [go_sem] tx_12
theorem fn_13 : nth Go.Proofs.Tryd.prog.funcs.toList 13 = some Go.Proofs.Tryd.f13 := by kernel_rfl
attribute [go_sem] fn_13
theorem tx_13 : isTextO Go.Proofs.Tryd.prog 13 = some () := by kernel_rfl
attribute [go_sem] tx_13
theorem fn_14 : nth Go.Proofs.Tryd.prog.funcs.toList 14 = some Go.Proofs.Tryd.f14 := by kernel_rfl
attribute [go_sem] fn_14
theorem tx_14 : isTextO Go.Proofs.Tryd.prog 14 = some () := by kernel_rfl
attribute [go_sem] tx_14
theorem fn_15 : nth Go.Proofs.Tryd.prog.funcs.toList 15 = some Go.Proofs.Tryd.f15 := by kernel_rfl
attribute [go_sem] fn_15
theorem tx_15 : isTextO Go.Proofs.Tryd.prog 15 = some () := by kernel_rfl
attribute [go_sem] tx_15
theorem fn_16 : nth Go.Proofs.Tryd.prog.funcs.toList 16 = some Go.Proofs.Tryd.f16 := by kernel_rfl
attribute [go_sem] fn_16
theorem tx_16 : isTextO Go.Proofs.Tryd.prog 16 = some () := by kernel_rfl
attribute [go_sem] tx_16
theorem fn_17 : nth Go.Proofs.Tryd.prog.funcs.toList 17 = some Go.Proofs.Tryd.f17 := by kernel_rfl
attribute [go_sem] fn_17
theorem tx_17 : isTextO Go.Proofs.Tryd.prog 17 = some () := by kernel_rfl
attribute [go_sem] tx_17
theorem fn_18 : nth Go.Proofs.Tryd.prog.funcs.toList 18 = some Go.Proofs.Tryd.f18 := by kernel_rfl
attribute [go_sem] fn_18
theorem tx_18 : isTextO Go.Proofs.Tryd.prog 18 = some () := by kernel_rfl
attribute [go_sem] tx_18
theorem fn_19 : nth Go.Proofs.Tryd.prog.funcs.toList 19 = some Go.Proofs.Tryd.f19 := by kernel_rfl
attribute [go_sem] fn_19
theorem tx_19 : isTextO Go.Proofs.Tryd.prog 19 = some () := by kernel_rfl
attribute [go_sem] tx_19
theorem fn_40 : nth Go.Proofs.Tryd.prog.funcs.toList 40 = some Go.Proofs.Tryd.f40 := by kernel_rfl
attribute [go_sem] fn_40
theorem tx_40 : isTextO Go.Proofs.Tryd.prog 40 = some () := by kernel_rfl
attribute [go_sem] tx_40
end Go.Cl.U
