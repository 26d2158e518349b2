/- Facts of the program's tables, each read off by the kernel. -/
import Derived.Attr
import Derived.KernelRfl
import Derived.Test.YtadmgnlmoodjeaaProg
import Derived.Test.YtadmgnlmoodjeaaClG
set_option linter.all false
namespace Go.Cl.Sh
open Go Go.Cl
theorem sz_0 : szOf Go.Proofs.Try.prog 0 = some 1 := by kernel_rfl
attribute [go_sem] sz_0
theorem ld_0 (h : H) (id off : Nat) : loadT Go.Proofs.Try.prog h 0 id off = @thn _ _ (h.blk id) ⟨fun b => b.get off⟩ := by kernel_rfl
attribute [go_sem] ld_0
theorem st_0 (h : H) (id off : Nat) (v : CV) : storeT Go.Proofs.Try.prog h 0 id off v = @thn _ _ (h.blk id) ⟨fun b => cond (Nat.beq v.cells.length 1 && !b.ro) ((b.storeA off v.cells).map fun b' => h.put id (.cells b')) none⟩ := by kernel_rfl
attribute [go_sem] st_0
theorem part_0 (cs : List CV) (off : Nat) : partT Go.Proofs.Try.prog 0 cs off = nth cs off := by kernel_rfl
attribute [go_sem] part_0
theorem sz_1 : szOf Go.Proofs.Try.prog 1 = some 1 := by kernel_rfl
attribute [go_sem] sz_1
theorem ld_1 (h : H) (id off : Nat) : loadT Go.Proofs.Try.prog h 1 id off = @thn _ _ (h.blk id) ⟨fun b => b.get off⟩ := by kernel_rfl
attribute [go_sem] ld_1
theorem st_1 (h : H) (id off : Nat) (v : CV) : storeT Go.Proofs.Try.prog h 1 id off v = @thn _ _ (h.blk id) ⟨fun b => cond (Nat.beq v.cells.length 1 && !b.ro) ((b.storeA off v.cells).map fun b' => h.put id (.cells b')) none⟩ := by kernel_rfl
attribute [go_sem] st_1
theorem part_1 (cs : List CV) (off : Nat) : partT Go.Proofs.Try.prog 1 cs off = nth cs off := by kernel_rfl
attribute [go_sem] part_1
theorem ze_1 : zeroT Go.Proofs.Try.prog 1 = some (.nilf) := by kernel_rfl
attribute [go_sem] ze_1
theorem eq_1 (xo yo : Operand) (f : Fn) (a b : List CV) : binT Go.Proofs.Try.prog .eql 1 xo yo (.fn f a b) .nilf = some (.bool false) := by kernel_rfl
attribute [go_sem] eq_1
theorem eq_1_n (xo yo : Operand) : binT Go.Proofs.Try.prog .eql 1 xo yo .nilf .nilf = some (.bool true) := by kernel_rfl
attribute [go_sem] eq_1_n
theorem ne_1 (xo yo : Operand) (f : Fn) (a b : List CV) : binT Go.Proofs.Try.prog .neq 1 xo yo (.fn f a b) .nilf = some (.bool true) := by kernel_rfl
attribute [go_sem] ne_1
theorem ne_1_n (xo yo : Operand) : binT Go.Proofs.Try.prog .neq 1 xo yo .nilf .nilf = some (.bool false) := by kernel_rfl
attribute [go_sem] ne_1_n
theorem sz_2 : szOf Go.Proofs.Try.prog 2 = some 1 := by kernel_rfl
attribute [go_sem] sz_2
theorem ld_2 (h : H) (id off : Nat) : loadT Go.Proofs.Try.prog h 2 id off = @thn _ _ (h.blk id) ⟨fun b => b.get off⟩ := by kernel_rfl
attribute [go_sem] ld_2
theorem st_2 (h : H) (id off : Nat) (v : CV) : storeT Go.Proofs.Try.prog h 2 id off v = @thn _ _ (h.blk id) ⟨fun b => cond (Nat.beq v.cells.length 1 && !b.ro) ((b.storeA off v.cells).map fun b' => h.put id (.cells b')) none⟩ := by kernel_rfl
attribute [go_sem] st_2
theorem part_2 (cs : List CV) (off : Nat) : partT Go.Proofs.Try.prog 2 cs off = nth cs off := by kernel_rfl
attribute [go_sem] part_2
theorem ze_2 : zeroT Go.Proofs.Try.prog 2 = some (.int .i64 0) := by kernel_rfl
attribute [go_sem] ze_2
theorem sz_3 : szOf Go.Proofs.Try.prog 3 = some 1 := by kernel_rfl
attribute [go_sem] sz_3
theorem ld_3 (h : H) (id off : Nat) : loadT Go.Proofs.Try.prog h 3 id off = @thn _ _ (h.blk id) ⟨fun b => b.get off⟩ := by kernel_rfl
attribute [go_sem] ld_3
theorem st_3 (h : H) (id off : Nat) (v : CV) : storeT Go.Proofs.Try.prog h 3 id off v = @thn _ _ (h.blk id) ⟨fun b => cond (Nat.beq v.cells.length 1 && !b.ro) ((b.storeA off v.cells).map fun b' => h.put id (.cells b')) none⟩ := by kernel_rfl
attribute [go_sem] st_3
theorem part_3 (cs : List CV) (off : Nat) : partT Go.Proofs.Try.prog 3 cs off = nth cs off := by kernel_rfl
attribute [go_sem] part_3
theorem ze_3 : zeroT Go.Proofs.Try.prog 3 = some (.int .i64 0) := by kernel_rfl
attribute [go_sem] ze_3
theorem sz_4 : szOf Go.Proofs.Try.prog 4 = some 1 := by kernel_rfl
attribute [go_sem] sz_4
theorem ld_4 (h : H) (id off : Nat) : loadT Go.Proofs.Try.prog h 4 id off = @thn _ _ (h.blk id) ⟨fun b => b.get off⟩ := by kernel_rfl
attribute [go_sem] ld_4
theorem st_4 (h : H) (id off : Nat) (v : CV) : storeT Go.Proofs.Try.prog h 4 id off v = @thn _ _ (h.blk id) ⟨fun b => cond (Nat.beq v.cells.length 1 && !b.ro) ((b.storeA off v.cells).map fun b' => h.put id (.cells b')) none⟩ := by kernel_rfl
attribute [go_sem] st_4
theorem part_4 (cs : List CV) (off : Nat) : partT Go.Proofs.Try.prog 4 cs off = nth cs off := by kernel_rfl
attribute [go_sem] part_4
theorem ze_4 : zeroT Go.Proofs.Try.prog 4 = some (.bool false) := by kernel_rfl
attribute [go_sem] ze_4
theorem eq_4 (xo yo : Operand) (a b : Bool) : binT Go.Proofs.Try.prog .eql 4 xo yo (.bool a) (.bool b) = some (.bool (a == b)) := by kernel_rfl
attribute [go_sem] eq_4
theorem ne_4 (xo yo : Operand) (a b : Bool) : binT Go.Proofs.Try.prog .neq 4 xo yo (.bool a) (.bool b) = some (.bool (!(a == b))) := by kernel_rfl
attribute [go_sem] ne_4
theorem sz_5 : szOf Go.Proofs.Try.prog 5 = some 1 := by kernel_rfl
attribute [go_sem] sz_5
theorem ld_5 (h : H) (id off : Nat) : loadT Go.Proofs.Try.prog h 5 id off = @thn _ _ (h.blk id) ⟨fun b => b.get off⟩ := by kernel_rfl
attribute [go_sem] ld_5
theorem st_5 (h : H) (id off : Nat) (v : CV) : storeT Go.Proofs.Try.prog h 5 id off v = @thn _ _ (h.blk id) ⟨fun b => cond (Nat.beq v.cells.length 1 && !b.ro) ((b.storeA off v.cells).map fun b' => h.put id (.cells b')) none⟩ := by kernel_rfl
attribute [go_sem] st_5
theorem part_5 (cs : List CV) (off : Nat) : partT Go.Proofs.Try.prog 5 cs off = nth cs off := by kernel_rfl
attribute [go_sem] part_5
theorem ze_5 : zeroT Go.Proofs.Try.prog 5 = some (.int .u8 0) := by kernel_rfl
attribute [go_sem] ze_5
theorem sz_6 : szOf Go.Proofs.Try.prog 6 = some 1 := by kernel_rfl
attribute [go_sem] sz_6
theorem ld_6 (h : H) (id off : Nat) : loadT Go.Proofs.Try.prog h 6 id off = @thn _ _ (h.blk id) ⟨fun b => b.get off⟩ := by kernel_rfl
attribute [go_sem] ld_6
theorem st_6 (h : H) (id off : Nat) (v : CV) : storeT Go.Proofs.Try.prog h 6 id off v = @thn _ _ (h.blk id) ⟨fun b => cond (Nat.beq v.cells.length 1 && !b.ro) ((b.storeA off v.cells).map fun b' => h.put id (.cells b')) none⟩ := by kernel_rfl
attribute [go_sem] st_6
theorem part_6 (cs : List CV) (off : Nat) : partT Go.Proofs.Try.prog 6 cs off = nth cs off := by kernel_rfl
attribute [go_sem] part_6
theorem ze_6 : zeroT Go.Proofs.Try.prog 6 = some (.int .u8 0) := by kernel_rfl
attribute [go_sem] ze_6
theorem sz_7 : szOf Go.Proofs.Try.prog 7 = some 4 := by kernel_rfl
attribute [go_sem] sz_7
theorem ld_7 (h : H) (id off : Nat) : loadT Go.Proofs.Try.prog h 7 id off = @thn _ _ (h.blk id) ⟨fun b => (b.loadN off 4).map .agg⟩ := by kernel_rfl
attribute [go_sem] ld_7
theorem st_7 (h : H) (id off : Nat) (v : CV) : storeT Go.Proofs.Try.prog h 7 id off v = @thn _ _ (h.blk id) ⟨fun b => cond (Nat.beq v.cells.length 4 && !b.ro) ((b.storeA off v.cells).map fun b' => h.put id (.cells b')) none⟩ := by kernel_rfl
attribute [go_sem] st_7
theorem part_7 (cs : List CV) (off : Nat) : partT Go.Proofs.Try.prog 7 cs off = some (.agg ((cs.drop off).take 4)) := by kernel_rfl
attribute [go_sem] part_7
theorem ze_7 : zeroT Go.Proofs.Try.prog 7 = some (.agg [.int .i64 0, .int .i64 0, .bool false, .int .u8 0]) := by kernel_rfl
attribute [go_sem] ze_7
theorem bt_7 (parts : List (Nat × CV)) : buildT Go.Proofs.Try.prog 7 parts = finB (CV.cells (.agg [.int .i64 0, .int .i64 0, .bool false, .int .u8 0])) (nth [(0, 1), (1, 1), (2, 1), (3, 1)]) parts := by kernel_rfl
attribute [go_sem] bt_7
theorem fa_7_0 (id off : Nat) : fieldAddrT Go.Proofs.Try.prog 7 (.ptr id off) 0 = some (.ptr id (off)) := by kernel_rfl
attribute [go_sem] fa_7_0
theorem fd_7_0 (cs : List CV) : fieldT Go.Proofs.Try.prog 7 (.agg cs) 0 = partT Go.Proofs.Try.prog 2 cs 0 := by kernel_rfl
attribute [go_sem] fd_7_0
theorem fa_7_1 (id off : Nat) : fieldAddrT Go.Proofs.Try.prog 7 (.ptr id off) 1 = some (.ptr id (off + 1)) := by kernel_rfl
attribute [go_sem] fa_7_1
theorem fd_7_1 (cs : List CV) : fieldT Go.Proofs.Try.prog 7 (.agg cs) 1 = partT Go.Proofs.Try.prog 3 cs 1 := by kernel_rfl
attribute [go_sem] fd_7_1
theorem fa_7_2 (id off : Nat) : fieldAddrT Go.Proofs.Try.prog 7 (.ptr id off) 2 = some (.ptr id (off + 2)) := by kernel_rfl
attribute [go_sem] fa_7_2
theorem fd_7_2 (cs : List CV) : fieldT Go.Proofs.Try.prog 7 (.agg cs) 2 = partT Go.Proofs.Try.prog 4 cs 2 := by kernel_rfl
attribute [go_sem] fd_7_2
theorem fa_7_3 (id off : Nat) : fieldAddrT Go.Proofs.Try.prog 7 (.ptr id off) 3 = some (.ptr id (off + 3)) := by kernel_rfl
attribute [go_sem] fa_7_3
theorem fd_7_3 (cs : List CV) : fieldT Go.Proofs.Try.prog 7 (.agg cs) 3 = partT Go.Proofs.Try.prog 6 cs 3 := by kernel_rfl
attribute [go_sem] fd_7_3
theorem sz_8 : szOf Go.Proofs.Try.prog 8 = some 4 := by kernel_rfl
attribute [go_sem] sz_8
theorem ld_8 (h : H) (id off : Nat) : loadT Go.Proofs.Try.prog h 8 id off = @thn _ _ (h.blk id) ⟨fun b => (b.loadN off 4).map .agg⟩ := by kernel_rfl
attribute [go_sem] ld_8
theorem st_8 (h : H) (id off : Nat) (v : CV) : storeT Go.Proofs.Try.prog h 8 id off v = @thn _ _ (h.blk id) ⟨fun b => cond (Nat.beq v.cells.length 4 && !b.ro) ((b.storeA off v.cells).map fun b' => h.put id (.cells b')) none⟩ := by kernel_rfl
attribute [go_sem] st_8
theorem part_8 (cs : List CV) (off : Nat) : partT Go.Proofs.Try.prog 8 cs off = some (.agg ((cs.drop off).take 4)) := by kernel_rfl
attribute [go_sem] part_8
theorem ze_8 : zeroT Go.Proofs.Try.prog 8 = some (.agg [.int .i64 0, .int .i64 0, .bool false, .int .u8 0]) := by kernel_rfl
attribute [go_sem] ze_8
theorem bt_8 (parts : List (Nat × CV)) : buildT Go.Proofs.Try.prog 8 parts = finB (CV.cells (.agg [.int .i64 0, .int .i64 0, .bool false, .int .u8 0])) (nth [(0, 1), (1, 1), (2, 1), (3, 1)]) parts := by kernel_rfl
attribute [go_sem] bt_8
theorem fa_8_0 (id off : Nat) : fieldAddrT Go.Proofs.Try.prog 8 (.ptr id off) 0 = some (.ptr id (off)) := by kernel_rfl
attribute [go_sem] fa_8_0
theorem fd_8_0 (cs : List CV) : fieldT Go.Proofs.Try.prog 8 (.agg cs) 0 = partT Go.Proofs.Try.prog 2 cs 0 := by kernel_rfl
attribute [go_sem] fd_8_0
theorem fa_8_1 (id off : Nat) : fieldAddrT Go.Proofs.Try.prog 8 (.ptr id off) 1 = some (.ptr id (off + 1)) := by kernel_rfl
attribute [go_sem] fa_8_1
theorem fd_8_1 (cs : List CV) : fieldT Go.Proofs.Try.prog 8 (.agg cs) 1 = partT Go.Proofs.Try.prog 3 cs 1 := by kernel_rfl
attribute [go_sem] fd_8_1
theorem fa_8_2 (id off : Nat) : fieldAddrT Go.Proofs.Try.prog 8 (.ptr id off) 2 = some (.ptr id (off + 2)) := by kernel_rfl
attribute [go_sem] fa_8_2
theorem fd_8_2 (cs : List CV) : fieldT Go.Proofs.Try.prog 8 (.agg cs) 2 = partT Go.Proofs.Try.prog 4 cs 2 := by kernel_rfl
attribute [go_sem] fd_8_2
theorem fa_8_3 (id off : Nat) : fieldAddrT Go.Proofs.Try.prog 8 (.ptr id off) 3 = some (.ptr id (off + 3)) := by kernel_rfl
attribute [go_sem] fa_8_3
theorem fd_8_3 (cs : List CV) : fieldT Go.Proofs.Try.prog 8 (.agg cs) 3 = partT Go.Proofs.Try.prog 6 cs 3 := by kernel_rfl
attribute [go_sem] fd_8_3
theorem sz_9 : szOf Go.Proofs.Try.prog 9 = some 1 := by kernel_rfl
attribute [go_sem] sz_9
theorem ld_9 (h : H) (id off : Nat) : loadT Go.Proofs.Try.prog h 9 id off = @thn _ _ (h.blk id) ⟨fun b => b.get off⟩ := by kernel_rfl
attribute [go_sem] ld_9
theorem st_9 (h : H) (id off : Nat) (v : CV) : storeT Go.Proofs.Try.prog h 9 id off v = @thn _ _ (h.blk id) ⟨fun b => cond (Nat.beq v.cells.length 1 && !b.ro) ((b.storeA off v.cells).map fun b' => h.put id (.cells b')) none⟩ := by kernel_rfl
attribute [go_sem] st_9
theorem part_9 (cs : List CV) (off : Nat) : partT Go.Proofs.Try.prog 9 cs off = nth cs off := by kernel_rfl
attribute [go_sem] part_9
theorem ze_9 : zeroT Go.Proofs.Try.prog 9 = some (.str []) := by kernel_rfl
attribute [go_sem] ze_9
theorem ix_9 (s : List Nat) (k : Nat) (kd : IntKind) : indexT Go.Proofs.Try.prog 9 (.str s) (.int kd (Int.ofNat k)) = (nth s k).map fun b => .int .u8 (Int.ofNat b) := by kernel_rfl
attribute [go_sem] ix_9
theorem len_9 (h : H) (ts : List TypeId) (az : List CV) (s : List Nat) : builtinT Go.Proofs.Try.prog h .len (9 :: ts) (.str s :: az) = some (.val (.int .i64 (Int.ofNat s.length))) := by kernel_rfl
attribute [go_sem] len_9
theorem sz_10 : szOf Go.Proofs.Try.prog 10 = some 1 := by kernel_rfl
attribute [go_sem] sz_10
theorem ld_10 (h : H) (id off : Nat) : loadT Go.Proofs.Try.prog h 10 id off = @thn _ _ (h.blk id) ⟨fun b => b.get off⟩ := by kernel_rfl
attribute [go_sem] ld_10
theorem st_10 (h : H) (id off : Nat) (v : CV) : storeT Go.Proofs.Try.prog h 10 id off v = @thn _ _ (h.blk id) ⟨fun b => cond (Nat.beq v.cells.length 1 && !b.ro) ((b.storeA off v.cells).map fun b' => h.put id (.cells b')) none⟩ := by kernel_rfl
attribute [go_sem] st_10
theorem part_10 (cs : List CV) (off : Nat) : partT Go.Proofs.Try.prog 10 cs off = nth cs off := by kernel_rfl
attribute [go_sem] part_10
theorem ze_10 : zeroT Go.Proofs.Try.prog 10 = some (.str []) := by kernel_rfl
attribute [go_sem] ze_10
theorem ix_10 (s : List Nat) (k : Nat) (kd : IntKind) : indexT Go.Proofs.Try.prog 10 (.str s) (.int kd (Int.ofNat k)) = (nth s k).map fun b => .int .u8 (Int.ofNat b) := by kernel_rfl
attribute [go_sem] ix_10
theorem len_10 (h : H) (ts : List TypeId) (az : List CV) (s : List Nat) : builtinT Go.Proofs.Try.prog h .len (10 :: ts) (.str s :: az) = some (.val (.int .i64 (Int.ofNat s.length))) := by kernel_rfl
attribute [go_sem] len_10
theorem sz_11 : szOf Go.Proofs.Try.prog 11 = some 1 := by kernel_rfl
attribute [go_sem] sz_11
theorem ld_11 (h : H) (id off : Nat) : loadT Go.Proofs.Try.prog h 11 id off = @thn _ _ (h.blk id) ⟨fun b => b.get off⟩ := by kernel_rfl
attribute [go_sem] ld_11
theorem st_11 (h : H) (id off : Nat) (v : CV) : storeT Go.Proofs.Try.prog h 11 id off v = @thn _ _ (h.blk id) ⟨fun b => cond (Nat.beq v.cells.length 1 && !b.ro) ((b.storeA off v.cells).map fun b' => h.put id (.cells b')) none⟩ := by kernel_rfl
attribute [go_sem] st_11
theorem part_11 (cs : List CV) (off : Nat) : partT Go.Proofs.Try.prog 11 cs off = nth cs off := by kernel_rfl
attribute [go_sem] part_11
theorem ze_11 : zeroT Go.Proofs.Try.prog 11 = some (.str []) := by kernel_rfl
attribute [go_sem] ze_11
theorem ix_11 (s : List Nat) (k : Nat) (kd : IntKind) : indexT Go.Proofs.Try.prog 11 (.str s) (.int kd (Int.ofNat k)) = (nth s k).map fun b => .int .u8 (Int.ofNat b) := by kernel_rfl
attribute [go_sem] ix_11
theorem len_11 (h : H) (ts : List TypeId) (az : List CV) (s : List Nat) : builtinT Go.Proofs.Try.prog h .len (11 :: ts) (.str s :: az) = some (.val (.int .i64 (Int.ofNat s.length))) := by kernel_rfl
attribute [go_sem] len_11
theorem sz_12 : szOf Go.Proofs.Try.prog 12 = some 1 := by kernel_rfl
attribute [go_sem] sz_12
theorem ld_12 (h : H) (id off : Nat) : loadT Go.Proofs.Try.prog h 12 id off = @thn _ _ (h.blk id) ⟨fun b => b.get off⟩ := by kernel_rfl
attribute [go_sem] ld_12
theorem st_12 (h : H) (id off : Nat) (v : CV) : storeT Go.Proofs.Try.prog h 12 id off v = @thn _ _ (h.blk id) ⟨fun b => cond (Nat.beq v.cells.length 1 && !b.ro) ((b.storeA off v.cells).map fun b' => h.put id (.cells b')) none⟩ := by kernel_rfl
attribute [go_sem] st_12
theorem part_12 (cs : List CV) (off : Nat) : partT Go.Proofs.Try.prog 12 cs off = nth cs off := by kernel_rfl
attribute [go_sem] part_12
theorem ze_12 : zeroT Go.Proofs.Try.prog 12 = some (.int .u64 0) := by kernel_rfl
attribute [go_sem] ze_12
theorem sz_13 : szOf Go.Proofs.Try.prog 13 = some 2 := by kernel_rfl
attribute [go_sem] sz_13
theorem ld_13 (h : H) (id off : Nat) : loadT Go.Proofs.Try.prog h 13 id off = @thn _ _ (h.blk id) ⟨fun b => (b.loadN off 2).map .agg⟩ := by kernel_rfl
attribute [go_sem] ld_13
theorem st_13 (h : H) (id off : Nat) (v : CV) : storeT Go.Proofs.Try.prog h 13 id off v = @thn _ _ (h.blk id) ⟨fun b => cond (Nat.beq v.cells.length 2 && !b.ro) ((b.storeA off v.cells).map fun b' => h.put id (.cells b')) none⟩ := by kernel_rfl
attribute [go_sem] st_13
theorem part_13 (cs : List CV) (off : Nat) : partT Go.Proofs.Try.prog 13 cs off = some (.agg ((cs.drop off).take 2)) := by kernel_rfl
attribute [go_sem] part_13
theorem ze_13 : zeroT Go.Proofs.Try.prog 13 = some (.agg [.str [], .int .u64 0]) := by kernel_rfl
attribute [go_sem] ze_13
theorem bt_13 (parts : List (Nat × CV)) : buildT Go.Proofs.Try.prog 13 parts = finB (CV.cells (.agg [.str [], .int .u64 0])) (nth [(0, 1), (1, 1)]) parts := by kernel_rfl
attribute [go_sem] bt_13
theorem fa_13_0 (id off : Nat) : fieldAddrT Go.Proofs.Try.prog 13 (.ptr id off) 0 = some (.ptr id (off)) := by kernel_rfl
attribute [go_sem] fa_13_0
theorem fd_13_0 (cs : List CV) : fieldT Go.Proofs.Try.prog 13 (.agg cs) 0 = partT Go.Proofs.Try.prog 9 cs 0 := by kernel_rfl
attribute [go_sem] fd_13_0
theorem fa_13_1 (id off : Nat) : fieldAddrT Go.Proofs.Try.prog 13 (.ptr id off) 1 = some (.ptr id (off + 1)) := by kernel_rfl
attribute [go_sem] fa_13_1
theorem fd_13_1 (cs : List CV) : fieldT Go.Proofs.Try.prog 13 (.agg cs) 1 = partT Go.Proofs.Try.prog 12 cs 1 := by kernel_rfl
attribute [go_sem] fd_13_1
theorem sz_14 : szOf Go.Proofs.Try.prog 14 = some 2 := by kernel_rfl
attribute [go_sem] sz_14
theorem ld_14 (h : H) (id off : Nat) : loadT Go.Proofs.Try.prog h 14 id off = @thn _ _ (h.blk id) ⟨fun b => (b.loadN off 2).map .agg⟩ := by kernel_rfl
attribute [go_sem] ld_14
theorem st_14 (h : H) (id off : Nat) (v : CV) : storeT Go.Proofs.Try.prog h 14 id off v = @thn _ _ (h.blk id) ⟨fun b => cond (Nat.beq v.cells.length 2 && !b.ro) ((b.storeA off v.cells).map fun b' => h.put id (.cells b')) none⟩ := by kernel_rfl
attribute [go_sem] st_14
theorem part_14 (cs : List CV) (off : Nat) : partT Go.Proofs.Try.prog 14 cs off = some (.agg ((cs.drop off).take 2)) := by kernel_rfl
attribute [go_sem] part_14
theorem ze_14 : zeroT Go.Proofs.Try.prog 14 = some (.agg [.str [], .int .u64 0]) := by kernel_rfl
attribute [go_sem] ze_14
theorem bt_14 (parts : List (Nat × CV)) : buildT Go.Proofs.Try.prog 14 parts = finB (CV.cells (.agg [.str [], .int .u64 0])) (nth [(0, 1), (1, 1)]) parts := by kernel_rfl
attribute [go_sem] bt_14
theorem fa_14_0 (id off : Nat) : fieldAddrT Go.Proofs.Try.prog 14 (.ptr id off) 0 = some (.ptr id (off)) := by kernel_rfl
attribute [go_sem] fa_14_0
theorem fd_14_0 (cs : List CV) : fieldT Go.Proofs.Try.prog 14 (.agg cs) 0 = partT Go.Proofs.Try.prog 9 cs 0 := by kernel_rfl
attribute [go_sem] fd_14_0
theorem fa_14_1 (id off : Nat) : fieldAddrT Go.Proofs.Try.prog 14 (.ptr id off) 1 = some (.ptr id (off + 1)) := by kernel_rfl
attribute [go_sem] fa_14_1
theorem fd_14_1 (cs : List CV) : fieldT Go.Proofs.Try.prog 14 (.agg cs) 1 = partT Go.Proofs.Try.prog 12 cs 1 := by kernel_rfl
attribute [go_sem] fd_14_1
theorem sz_15 : szOf Go.Proofs.Try.prog 15 = some 1 := by kernel_rfl
attribute [go_sem] sz_15
theorem ld_15 (h : H) (id off : Nat) : loadT Go.Proofs.Try.prog h 15 id off = @thn _ _ (h.blk id) ⟨fun b => b.get off⟩ := by kernel_rfl
attribute [go_sem] ld_15
theorem st_15 (h : H) (id off : Nat) (v : CV) : storeT Go.Proofs.Try.prog h 15 id off v = @thn _ _ (h.blk id) ⟨fun b => cond (Nat.beq v.cells.length 1 && !b.ro) ((b.storeA off v.cells).map fun b' => h.put id (.cells b')) none⟩ := by kernel_rfl
attribute [go_sem] st_15
theorem part_15 (cs : List CV) (off : Nat) : partT Go.Proofs.Try.prog 15 cs off = nth cs off := by kernel_rfl
attribute [go_sem] part_15
theorem ze_15 : zeroT Go.Proofs.Try.prog 15 = some (.nilp) := by kernel_rfl
attribute [go_sem] ze_15
theorem eq_15 (xo yo : Operand) (a b : Nat) : binT Go.Proofs.Try.prog .eql 15 xo yo (.ptr a b) .nilp = some (.bool false) := by kernel_rfl
attribute [go_sem] eq_15
theorem eq_15_n (xo yo : Operand) : binT Go.Proofs.Try.prog .eql 15 xo yo .nilp .nilp = some (.bool true) := by kernel_rfl
attribute [go_sem] eq_15_n
theorem ne_15 (xo yo : Operand) (a b : Nat) : binT Go.Proofs.Try.prog .neq 15 xo yo (.ptr a b) .nilp = some (.bool true) := by kernel_rfl
attribute [go_sem] ne_15
theorem ne_15_n (xo yo : Operand) : binT Go.Proofs.Try.prog .neq 15 xo yo .nilp .nilp = some (.bool false) := by kernel_rfl
attribute [go_sem] ne_15_n
theorem sz_16 : szOf Go.Proofs.Try.prog 16 = some 1 := by kernel_rfl
attribute [go_sem] sz_16
theorem ld_16 (h : H) (id off : Nat) : loadT Go.Proofs.Try.prog h 16 id off = @thn _ _ (h.blk id) ⟨fun b => b.get off⟩ := by kernel_rfl
attribute [go_sem] ld_16
theorem st_16 (h : H) (id off : Nat) (v : CV) : storeT Go.Proofs.Try.prog h 16 id off v = @thn _ _ (h.blk id) ⟨fun b => cond (Nat.beq v.cells.length 1 && !b.ro) ((b.storeA off v.cells).map fun b' => h.put id (.cells b')) none⟩ := by kernel_rfl
attribute [go_sem] st_16
theorem part_16 (cs : List CV) (off : Nat) : partT Go.Proofs.Try.prog 16 cs off = nth cs off := by kernel_rfl
attribute [go_sem] part_16
theorem ze_16 : zeroT Go.Proofs.Try.prog 16 = some (.nilp) := by kernel_rfl
attribute [go_sem] ze_16
theorem eq_16 (xo yo : Operand) (a b : Nat) : binT Go.Proofs.Try.prog .eql 16 xo yo (.ptr a b) .nilp = some (.bool false) := by kernel_rfl
attribute [go_sem] eq_16
theorem eq_16_n (xo yo : Operand) : binT Go.Proofs.Try.prog .eql 16 xo yo .nilp .nilp = some (.bool true) := by kernel_rfl
attribute [go_sem] eq_16_n
theorem ne_16 (xo yo : Operand) (a b : Nat) : binT Go.Proofs.Try.prog .neq 16 xo yo (.ptr a b) .nilp = some (.bool true) := by kernel_rfl
attribute [go_sem] ne_16
theorem ne_16_n (xo yo : Operand) : binT Go.Proofs.Try.prog .neq 16 xo yo .nilp .nilp = some (.bool false) := by kernel_rfl
attribute [go_sem] ne_16_n
theorem sz_17 : szOf Go.Proofs.Try.prog 17 = some 1 := by kernel_rfl
attribute [go_sem] sz_17
theorem ld_17 (h : H) (id off : Nat) : loadT Go.Proofs.Try.prog h 17 id off = @thn _ _ (h.blk id) ⟨fun b => b.get off⟩ := by kernel_rfl
attribute [go_sem] ld_17
theorem st_17 (h : H) (id off : Nat) (v : CV) : storeT Go.Proofs.Try.prog h 17 id off v = @thn _ _ (h.blk id) ⟨fun b => cond (Nat.beq v.cells.length 1 && !b.ro) ((b.storeA off v.cells).map fun b' => h.put id (.cells b')) none⟩ := by kernel_rfl
attribute [go_sem] st_17
theorem part_17 (cs : List CV) (off : Nat) : partT Go.Proofs.Try.prog 17 cs off = nth cs off := by kernel_rfl
attribute [go_sem] part_17
theorem ze_17 : zeroT Go.Proofs.Try.prog 17 = some (.nilp) := by kernel_rfl
attribute [go_sem] ze_17
theorem eq_17 (xo yo : Operand) (a b : Nat) : binT Go.Proofs.Try.prog .eql 17 xo yo (.ptr a b) .nilp = some (.bool false) := by kernel_rfl
attribute [go_sem] eq_17
theorem eq_17_n (xo yo : Operand) : binT Go.Proofs.Try.prog .eql 17 xo yo .nilp .nilp = some (.bool true) := by kernel_rfl
attribute [go_sem] eq_17_n
theorem ne_17 (xo yo : Operand) (a b : Nat) : binT Go.Proofs.Try.prog .neq 17 xo yo (.ptr a b) .nilp = some (.bool true) := by kernel_rfl
attribute [go_sem] ne_17
theorem ne_17_n (xo yo : Operand) : binT Go.Proofs.Try.prog .neq 17 xo yo .nilp .nilp = some (.bool false) := by kernel_rfl
attribute [go_sem] ne_17_n
theorem sz_18 : szOf Go.Proofs.Try.prog 18 = some 1 := by kernel_rfl
attribute [go_sem] sz_18
theorem ld_18 (h : H) (id off : Nat) : loadT Go.Proofs.Try.prog h 18 id off = @thn _ _ (h.blk id) ⟨fun b => (b.loadN off 1).map .agg⟩ := by kernel_rfl
attribute [go_sem] ld_18
theorem st_18 (h : H) (id off : Nat) (v : CV) : storeT Go.Proofs.Try.prog h 18 id off v = @thn _ _ (h.blk id) ⟨fun b => cond (Nat.beq v.cells.length 1 && !b.ro) ((b.storeA off v.cells).map fun b' => h.put id (.cells b')) none⟩ := by kernel_rfl
attribute [go_sem] st_18
theorem part_18 (cs : List CV) (off : Nat) : partT Go.Proofs.Try.prog 18 cs off = some (.agg ((cs.drop off).take 1)) := by kernel_rfl
attribute [go_sem] part_18
theorem ze_18 : zeroT Go.Proofs.Try.prog 18 = some (.agg [.nilp]) := by kernel_rfl
attribute [go_sem] ze_18
theorem bt_18 (parts : List (Nat × CV)) : buildT Go.Proofs.Try.prog 18 parts = finB (CV.cells (.agg [.nilp])) (nth [(0, 1)]) parts := by kernel_rfl
attribute [go_sem] bt_18
theorem fa_18_0 (id off : Nat) : fieldAddrT Go.Proofs.Try.prog 18 (.ptr id off) 0 = some (.ptr id (off)) := by kernel_rfl
attribute [go_sem] fa_18_0
theorem fd_18_0 (cs : List CV) : fieldT Go.Proofs.Try.prog 18 (.agg cs) 0 = partT Go.Proofs.Try.prog 17 cs 0 := by kernel_rfl
attribute [go_sem] fd_18_0
theorem sz_19 : szOf Go.Proofs.Try.prog 19 = some 1 := by kernel_rfl
attribute [go_sem] sz_19
theorem ld_19 (h : H) (id off : Nat) : loadT Go.Proofs.Try.prog h 19 id off = @thn _ _ (h.blk id) ⟨fun b => (b.loadN off 1).map .agg⟩ := by kernel_rfl
attribute [go_sem] ld_19
theorem st_19 (h : H) (id off : Nat) (v : CV) : storeT Go.Proofs.Try.prog h 19 id off v = @thn _ _ (h.blk id) ⟨fun b => cond (Nat.beq v.cells.length 1 && !b.ro) ((b.storeA off v.cells).map fun b' => h.put id (.cells b')) none⟩ := by kernel_rfl
attribute [go_sem] st_19
theorem part_19 (cs : List CV) (off : Nat) : partT Go.Proofs.Try.prog 19 cs off = some (.agg ((cs.drop off).take 1)) := by kernel_rfl
attribute [go_sem] part_19
theorem ze_19 : zeroT Go.Proofs.Try.prog 19 = some (.agg [.nilp]) := by kernel_rfl
attribute [go_sem] ze_19
theorem bt_19 (parts : List (Nat × CV)) : buildT Go.Proofs.Try.prog 19 parts = finB (CV.cells (.agg [.nilp])) (nth [(0, 1)]) parts := by kernel_rfl
attribute [go_sem] bt_19
theorem fa_19_0 (id off : Nat) : fieldAddrT Go.Proofs.Try.prog 19 (.ptr id off) 0 = some (.ptr id (off)) := by kernel_rfl
attribute [go_sem] fa_19_0
theorem fd_19_0 (cs : List CV) : fieldT Go.Proofs.Try.prog 19 (.agg cs) 0 = partT Go.Proofs.Try.prog 17 cs 0 := by kernel_rfl
attribute [go_sem] fd_19_0
theorem sz_20 : szOf Go.Proofs.Try.prog 20 = some 1 := by kernel_rfl
attribute [go_sem] sz_20
theorem ld_20 (h : H) (id off : Nat) : loadT Go.Proofs.Try.prog h 20 id off = @thn _ _ (h.blk id) ⟨fun b => b.get off⟩ := by kernel_rfl
attribute [go_sem] ld_20
theorem st_20 (h : H) (id off : Nat) (v : CV) : storeT Go.Proofs.Try.prog h 20 id off v = @thn _ _ (h.blk id) ⟨fun b => cond (Nat.beq v.cells.length 1 && !b.ro) ((b.storeA off v.cells).map fun b' => h.put id (.cells b')) none⟩ := by kernel_rfl
attribute [go_sem] st_20
theorem part_20 (cs : List CV) (off : Nat) : partT Go.Proofs.Try.prog 20 cs off = nth cs off := by kernel_rfl
attribute [go_sem] part_20
theorem ze_20 : zeroT Go.Proofs.Try.prog 20 = some (.nili) := by kernel_rfl
attribute [go_sem] ze_20
theorem sz_21 : szOf Go.Proofs.Try.prog 21 = some 1 := by kernel_rfl
attribute [go_sem] sz_21
theorem ld_21 (h : H) (id off : Nat) : loadT Go.Proofs.Try.prog h 21 id off = @thn _ _ (h.blk id) ⟨fun b => b.get off⟩ := by kernel_rfl
attribute [go_sem] ld_21
theorem st_21 (h : H) (id off : Nat) (v : CV) : storeT Go.Proofs.Try.prog h 21 id off v = @thn _ _ (h.blk id) ⟨fun b => cond (Nat.beq v.cells.length 1 && !b.ro) ((b.storeA off v.cells).map fun b' => h.put id (.cells b')) none⟩ := by kernel_rfl
attribute [go_sem] st_21
theorem part_21 (cs : List CV) (off : Nat) : partT Go.Proofs.Try.prog 21 cs off = nth cs off := by kernel_rfl
attribute [go_sem] part_21
theorem ze_21 : zeroT Go.Proofs.Try.prog 21 = some (.int .i32 0) := by kernel_rfl
attribute [go_sem] ze_21
theorem sz_22 : szOf Go.Proofs.Try.prog 22 = some 1 := by kernel_rfl
attribute [go_sem] sz_22
theorem ld_22 (h : H) (id off : Nat) : loadT Go.Proofs.Try.prog h 22 id off = @thn _ _ (h.blk id) ⟨fun b => b.get off⟩ := by kernel_rfl
attribute [go_sem] ld_22
theorem st_22 (h : H) (id off : Nat) (v : CV) : storeT Go.Proofs.Try.prog h 22 id off v = @thn _ _ (h.blk id) ⟨fun b => cond (Nat.beq v.cells.length 1 && !b.ro) ((b.storeA off v.cells).map fun b' => h.put id (.cells b')) none⟩ := by kernel_rfl
attribute [go_sem] st_22
theorem part_22 (cs : List CV) (off : Nat) : partT Go.Proofs.Try.prog 22 cs off = nth cs off := by kernel_rfl
attribute [go_sem] part_22
theorem ze_22 : zeroT Go.Proofs.Try.prog 22 = some (.nils) := by kernel_rfl
attribute [go_sem] ze_22
theorem ia_22 (id off len k : Nat) (c : Cap) (kd : IntKind) : indexAddrT Go.Proofs.Try.prog 22 (.sl id off len c) (.int kd (Int.ofNat k)) = cond (Nat.blt k len) (some (.ptr id (off + k * 4))) none := by kernel_rfl
attribute [go_sem] ia_22
theorem len_22 (h : H) (id off len : Nat) (c : Cap) (ts : List TypeId) (az : List CV) : builtinT Go.Proofs.Try.prog h .len (22 :: ts) (.sl id off len c :: az) = some (.val (.int .i64 (Int.ofNat len))) := by kernel_rfl
attribute [go_sem] len_22
theorem len_22_n (h : H) (ts : List TypeId) (az : List CV) : builtinT Go.Proofs.Try.prog h .len (22 :: ts) (.nils :: az) = some (.val (.int .i64 0)) := by kernel_rfl
attribute [go_sem] len_22_n
theorem app_22 (h : H) (s : CV) (id off len : Nat) (c : Cap) (ts : List TypeId) (az : List CV) : builtinT Go.Proofs.Try.prog h .append (22 :: 22 :: ts) (s :: .sl id off len c :: az) = uv (appendT Go.Proofs.Try.prog h 22 s (.sl id off len c)) := by kernel_rfl
attribute [go_sem] app_22
theorem app_22_n (h : H) (s : CV) (ts : List TypeId) (az : List CV) : builtinT Go.Proofs.Try.prog h .append (22 :: 22 :: ts) (s :: .nils :: az) = uv (appendT Go.Proofs.Try.prog h 22 s .nils) := by kernel_rfl
attribute [go_sem] app_22_n
theorem ap_22 (h : H) (s : CV) (id off len : Nat) (c : Cap) : appendT Go.Proofs.Try.prog h 22 s (.sl id off len c) = appS h 4 48 4 s len (firstC h 4 len (.sl id off len c)) := by kernel_rfl
attribute [go_sem] ap_22
theorem ap_22_n (h : H) (s : CV) : appendT Go.Proofs.Try.prog h 22 s .nils = appS h 4 48 4 s 0 (some []) := by kernel_rfl
attribute [go_sem] ap_22_n
theorem ap_22_z (h : H) (s : CV) (a b c d : Nat) : appendT Go.Proofs.Try.prog h 22 s (.sl0 a b c d) = appS h 4 48 4 s 0 (some []) := by kernel_rfl
attribute [go_sem] ap_22_z
theorem bs_22 (h : H) (n : Nat) (parts : List (Nat × CV)) : buildSliceT Go.Proofs.Try.prog h 22 n parts = bslS h 4 (CV.cells (.agg [.int .i64 0, .int .i64 0, .int .u8 0, .nils])) n parts := by kernel_rfl
attribute [go_sem] bs_22
theorem ms_22 (h : H) (l c : Nat) (k k' : IntKind) : makeSliceT Go.Proofs.Try.prog h 22 (.int k (Int.ofNat l)) (.int k' (Int.ofNat c)) = mkS h 4 48 (zeroT Go.Proofs.Try.prog 35) l c := by kernel_rfl
attribute [go_sem] ms_22
theorem eq_22 (xo yo : Operand) (a b c : Nat) (d : Cap) : binT Go.Proofs.Try.prog .eql 22 xo yo (.sl a b c d) .nils = some (.bool false) := by kernel_rfl
attribute [go_sem] eq_22
theorem eq_22_n (xo yo : Operand) : binT Go.Proofs.Try.prog .eql 22 xo yo .nils .nils = some (.bool true) := by kernel_rfl
attribute [go_sem] eq_22_n
theorem eq_22_z (xo yo : Operand) (a b c d : Nat) : binT Go.Proofs.Try.prog .eql 22 xo yo (.sl0 a b c d) .nils = some (.bool false) := by kernel_rfl
attribute [go_sem] eq_22_z
theorem ne_22 (xo yo : Operand) (a b c : Nat) (d : Cap) : binT Go.Proofs.Try.prog .neq 22 xo yo (.sl a b c d) .nils = some (.bool true) := by kernel_rfl
attribute [go_sem] ne_22
theorem ne_22_n (xo yo : Operand) : binT Go.Proofs.Try.prog .neq 22 xo yo .nils .nils = some (.bool false) := by kernel_rfl
attribute [go_sem] ne_22_n
theorem ne_22_z (xo yo : Operand) (a b c d : Nat) : binT Go.Proofs.Try.prog .neq 22 xo yo (.sl0 a b c d) .nils = some (.bool true) := by kernel_rfl
attribute [go_sem] ne_22_z
theorem len_22_z (h : H) (a b c d : Nat) (ts : List TypeId) (az : List CV) : builtinT Go.Proofs.Try.prog h .len (22 :: ts) (.sl0 a b c d :: az) = some (.val (.int .i64 0)) := by kernel_rfl
attribute [go_sem] len_22_z
theorem app_22_z (h : H) (s : CV) (a b c d : Nat) (ts : List TypeId) (az : List CV) : builtinT Go.Proofs.Try.prog h .append (22 :: 22 :: ts) (s :: .sl0 a b c d :: az) = uv (appendT Go.Proofs.Try.prog h 22 s (.sl0 a b c d)) := by kernel_rfl
attribute [go_sem] app_22_z
theorem sz_23 : szOf Go.Proofs.Try.prog 23 = some 1 := by kernel_rfl
attribute [go_sem] sz_23
theorem ld_23 (h : H) (id off : Nat) : loadT Go.Proofs.Try.prog h 23 id off = @thn _ _ (h.blk id) ⟨fun b => b.get off⟩ := by kernel_rfl
attribute [go_sem] ld_23
theorem st_23 (h : H) (id off : Nat) (v : CV) : storeT Go.Proofs.Try.prog h 23 id off v = @thn _ _ (h.blk id) ⟨fun b => cond (Nat.beq v.cells.length 1 && !b.ro) ((b.storeA off v.cells).map fun b' => h.put id (.cells b')) none⟩ := by kernel_rfl
attribute [go_sem] st_23
theorem part_23 (cs : List CV) (off : Nat) : partT Go.Proofs.Try.prog 23 cs off = nth cs off := by kernel_rfl
attribute [go_sem] part_23
theorem ze_23 : zeroT Go.Proofs.Try.prog 23 = some (.nils) := by kernel_rfl
attribute [go_sem] ze_23
theorem ia_23 (id off len k : Nat) (c : Cap) (kd : IntKind) : indexAddrT Go.Proofs.Try.prog 23 (.sl id off len c) (.int kd (Int.ofNat k)) = cond (Nat.blt k len) (some (.ptr id (off + k * 1))) none := by kernel_rfl
attribute [go_sem] ia_23
theorem len_23 (h : H) (id off len : Nat) (c : Cap) (ts : List TypeId) (az : List CV) : builtinT Go.Proofs.Try.prog h .len (23 :: ts) (.sl id off len c :: az) = some (.val (.int .i64 (Int.ofNat len))) := by kernel_rfl
attribute [go_sem] len_23
theorem len_23_n (h : H) (ts : List TypeId) (az : List CV) : builtinT Go.Proofs.Try.prog h .len (23 :: ts) (.nils :: az) = some (.val (.int .i64 0)) := by kernel_rfl
attribute [go_sem] len_23_n
theorem app_23 (h : H) (s : CV) (id off len : Nat) (c : Cap) (ts : List TypeId) (az : List CV) : builtinT Go.Proofs.Try.prog h .append (23 :: 23 :: ts) (s :: .sl id off len c :: az) = uv (appendT Go.Proofs.Try.prog h 23 s (.sl id off len c)) := by kernel_rfl
attribute [go_sem] app_23
theorem app_23_n (h : H) (s : CV) (ts : List TypeId) (az : List CV) : builtinT Go.Proofs.Try.prog h .append (23 :: 23 :: ts) (s :: .nils :: az) = uv (appendT Go.Proofs.Try.prog h 23 s .nils) := by kernel_rfl
attribute [go_sem] app_23_n
theorem ap_23 (h : H) (s : CV) (id off len : Nat) (c : Cap) : appendT Go.Proofs.Try.prog h 23 s (.sl id off len c) = appS h 1 8 1 s len (firstC h 1 len (.sl id off len c)) := by kernel_rfl
attribute [go_sem] ap_23
theorem ap_23_n (h : H) (s : CV) : appendT Go.Proofs.Try.prog h 23 s .nils = appS h 1 8 1 s 0 (some []) := by kernel_rfl
attribute [go_sem] ap_23_n
theorem ap_23_z (h : H) (s : CV) (a b c d : Nat) : appendT Go.Proofs.Try.prog h 23 s (.sl0 a b c d) = appS h 1 8 1 s 0 (some []) := by kernel_rfl
attribute [go_sem] ap_23_z
theorem bs_23 (h : H) (n : Nat) (parts : List (Nat × CV)) : buildSliceT Go.Proofs.Try.prog h 23 n parts = bslS h 1 (CV.cells (.int .i64 0)) n parts := by kernel_rfl
attribute [go_sem] bs_23
theorem ms_23 (h : H) (l c : Nat) (k k' : IntKind) : makeSliceT Go.Proofs.Try.prog h 23 (.int k (Int.ofNat l)) (.int k' (Int.ofNat c)) = mkS h 1 8 (zeroT Go.Proofs.Try.prog 3) l c := by kernel_rfl
attribute [go_sem] ms_23
theorem eq_23 (xo yo : Operand) (a b c : Nat) (d : Cap) : binT Go.Proofs.Try.prog .eql 23 xo yo (.sl a b c d) .nils = some (.bool false) := by kernel_rfl
attribute [go_sem] eq_23
theorem eq_23_n (xo yo : Operand) : binT Go.Proofs.Try.prog .eql 23 xo yo .nils .nils = some (.bool true) := by kernel_rfl
attribute [go_sem] eq_23_n
theorem eq_23_z (xo yo : Operand) (a b c d : Nat) : binT Go.Proofs.Try.prog .eql 23 xo yo (.sl0 a b c d) .nils = some (.bool false) := by kernel_rfl
attribute [go_sem] eq_23_z
theorem ne_23 (xo yo : Operand) (a b c : Nat) (d : Cap) : binT Go.Proofs.Try.prog .neq 23 xo yo (.sl a b c d) .nils = some (.bool true) := by kernel_rfl
attribute [go_sem] ne_23
theorem ne_23_n (xo yo : Operand) : binT Go.Proofs.Try.prog .neq 23 xo yo .nils .nils = some (.bool false) := by kernel_rfl
attribute [go_sem] ne_23_n
theorem ne_23_z (xo yo : Operand) (a b c d : Nat) : binT Go.Proofs.Try.prog .neq 23 xo yo (.sl0 a b c d) .nils = some (.bool true) := by kernel_rfl
attribute [go_sem] ne_23_z
theorem len_23_z (h : H) (a b c d : Nat) (ts : List TypeId) (az : List CV) : builtinT Go.Proofs.Try.prog h .len (23 :: ts) (.sl0 a b c d :: az) = some (.val (.int .i64 0)) := by kernel_rfl
attribute [go_sem] len_23_z
theorem app_23_z (h : H) (s : CV) (a b c d : Nat) (ts : List TypeId) (az : List CV) : builtinT Go.Proofs.Try.prog h .append (23 :: 23 :: ts) (s :: .sl0 a b c d :: az) = uv (appendT Go.Proofs.Try.prog h 23 s (.sl0 a b c d)) := by kernel_rfl
attribute [go_sem] app_23_z
theorem sz_24 : szOf Go.Proofs.Try.prog 24 = some 1 := by kernel_rfl
attribute [go_sem] sz_24
theorem ld_24 (h : H) (id off : Nat) : loadT Go.Proofs.Try.prog h 24 id off = @thn _ _ (h.blk id) ⟨fun b => b.get off⟩ := by kernel_rfl
attribute [go_sem] ld_24
theorem st_24 (h : H) (id off : Nat) (v : CV) : storeT Go.Proofs.Try.prog h 24 id off v = @thn _ _ (h.blk id) ⟨fun b => cond (Nat.beq v.cells.length 1 && !b.ro) ((b.storeA off v.cells).map fun b' => h.put id (.cells b')) none⟩ := by kernel_rfl
attribute [go_sem] st_24
theorem part_24 (cs : List CV) (off : Nat) : partT Go.Proofs.Try.prog 24 cs off = nth cs off := by kernel_rfl
attribute [go_sem] part_24
theorem ze_24 : zeroT Go.Proofs.Try.prog 24 = some (.nilf) := by kernel_rfl
attribute [go_sem] ze_24
theorem eq_24 (xo yo : Operand) (f : Fn) (a b : List CV) : binT Go.Proofs.Try.prog .eql 24 xo yo (.fn f a b) .nilf = some (.bool false) := by kernel_rfl
attribute [go_sem] eq_24
theorem eq_24_n (xo yo : Operand) : binT Go.Proofs.Try.prog .eql 24 xo yo .nilf .nilf = some (.bool true) := by kernel_rfl
attribute [go_sem] eq_24_n
theorem ne_24 (xo yo : Operand) (f : Fn) (a b : List CV) : binT Go.Proofs.Try.prog .neq 24 xo yo (.fn f a b) .nilf = some (.bool true) := by kernel_rfl
attribute [go_sem] ne_24
theorem ne_24_n (xo yo : Operand) : binT Go.Proofs.Try.prog .neq 24 xo yo .nilf .nilf = some (.bool false) := by kernel_rfl
attribute [go_sem] ne_24_n
theorem sz_25 : szOf Go.Proofs.Try.prog 25 = some 1 := by kernel_rfl
attribute [go_sem] sz_25
theorem ld_25 (h : H) (id off : Nat) : loadT Go.Proofs.Try.prog h 25 id off = @thn _ _ (h.blk id) ⟨fun b => b.get off⟩ := by kernel_rfl
attribute [go_sem] ld_25
theorem st_25 (h : H) (id off : Nat) (v : CV) : storeT Go.Proofs.Try.prog h 25 id off v = @thn _ _ (h.blk id) ⟨fun b => cond (Nat.beq v.cells.length 1 && !b.ro) ((b.storeA off v.cells).map fun b' => h.put id (.cells b')) none⟩ := by kernel_rfl
attribute [go_sem] st_25
theorem part_25 (cs : List CV) (off : Nat) : partT Go.Proofs.Try.prog 25 cs off = nth cs off := by kernel_rfl
attribute [go_sem] part_25
theorem ze_25 : zeroT Go.Proofs.Try.prog 25 = some (.nilf) := by kernel_rfl
attribute [go_sem] ze_25
theorem eq_25 (xo yo : Operand) (f : Fn) (a b : List CV) : binT Go.Proofs.Try.prog .eql 25 xo yo (.fn f a b) .nilf = some (.bool false) := by kernel_rfl
attribute [go_sem] eq_25
theorem eq_25_n (xo yo : Operand) : binT Go.Proofs.Try.prog .eql 25 xo yo .nilf .nilf = some (.bool true) := by kernel_rfl
attribute [go_sem] eq_25_n
theorem ne_25 (xo yo : Operand) (f : Fn) (a b : List CV) : binT Go.Proofs.Try.prog .neq 25 xo yo (.fn f a b) .nilf = some (.bool true) := by kernel_rfl
attribute [go_sem] ne_25
theorem ne_25_n (xo yo : Operand) : binT Go.Proofs.Try.prog .neq 25 xo yo .nilf .nilf = some (.bool false) := by kernel_rfl
attribute [go_sem] ne_25_n
theorem sz_26 : szOf Go.Proofs.Try.prog 26 = some 1 := by kernel_rfl
attribute [go_sem] sz_26
theorem ld_26 (h : H) (id off : Nat) : loadT Go.Proofs.Try.prog h 26 id off = @thn _ _ (h.blk id) ⟨fun b => b.get off⟩ := by kernel_rfl
attribute [go_sem] ld_26
theorem st_26 (h : H) (id off : Nat) (v : CV) : storeT Go.Proofs.Try.prog h 26 id off v = @thn _ _ (h.blk id) ⟨fun b => cond (Nat.beq v.cells.length 1 && !b.ro) ((b.storeA off v.cells).map fun b' => h.put id (.cells b')) none⟩ := by kernel_rfl
attribute [go_sem] st_26
theorem part_26 (cs : List CV) (off : Nat) : partT Go.Proofs.Try.prog 26 cs off = nth cs off := by kernel_rfl
attribute [go_sem] part_26
theorem ze_26 : zeroT Go.Proofs.Try.prog 26 = some (.nilp) := by kernel_rfl
attribute [go_sem] ze_26
theorem eq_26 (xo yo : Operand) (a b : Nat) : binT Go.Proofs.Try.prog .eql 26 xo yo (.ptr a b) .nilp = some (.bool false) := by kernel_rfl
attribute [go_sem] eq_26
theorem eq_26_n (xo yo : Operand) : binT Go.Proofs.Try.prog .eql 26 xo yo .nilp .nilp = some (.bool true) := by kernel_rfl
attribute [go_sem] eq_26_n
theorem ne_26 (xo yo : Operand) (a b : Nat) : binT Go.Proofs.Try.prog .neq 26 xo yo (.ptr a b) .nilp = some (.bool true) := by kernel_rfl
attribute [go_sem] ne_26
theorem ne_26_n (xo yo : Operand) : binT Go.Proofs.Try.prog .neq 26 xo yo .nilp .nilp = some (.bool false) := by kernel_rfl
attribute [go_sem] ne_26_n
theorem sz_27 : szOf Go.Proofs.Try.prog 27 = some 1 := by kernel_rfl
attribute [go_sem] sz_27
theorem ld_27 (h : H) (id off : Nat) : loadT Go.Proofs.Try.prog h 27 id off = @thn _ _ (h.blk id) ⟨fun b => b.get off⟩ := by kernel_rfl
attribute [go_sem] ld_27
theorem st_27 (h : H) (id off : Nat) (v : CV) : storeT Go.Proofs.Try.prog h 27 id off v = @thn _ _ (h.blk id) ⟨fun b => cond (Nat.beq v.cells.length 1 && !b.ro) ((b.storeA off v.cells).map fun b' => h.put id (.cells b')) none⟩ := by kernel_rfl
attribute [go_sem] st_27
theorem part_27 (cs : List CV) (off : Nat) : partT Go.Proofs.Try.prog 27 cs off = nth cs off := by kernel_rfl
attribute [go_sem] part_27
theorem ze_27 : zeroT Go.Proofs.Try.prog 27 = some (.int .i64 0) := by kernel_rfl
attribute [go_sem] ze_27
theorem sz_28 : szOf Go.Proofs.Try.prog 28 = some 1 := by kernel_rfl
attribute [go_sem] sz_28
theorem ld_28 (h : H) (id off : Nat) : loadT Go.Proofs.Try.prog h 28 id off = @thn _ _ (h.blk id) ⟨fun b => b.get off⟩ := by kernel_rfl
attribute [go_sem] ld_28
theorem st_28 (h : H) (id off : Nat) (v : CV) : storeT Go.Proofs.Try.prog h 28 id off v = @thn _ _ (h.blk id) ⟨fun b => cond (Nat.beq v.cells.length 1 && !b.ro) ((b.storeA off v.cells).map fun b' => h.put id (.cells b')) none⟩ := by kernel_rfl
attribute [go_sem] st_28
theorem part_28 (cs : List CV) (off : Nat) : partT Go.Proofs.Try.prog 28 cs off = nth cs off := by kernel_rfl
attribute [go_sem] part_28
theorem sz_29 : szOf Go.Proofs.Try.prog 29 = some 1 := by kernel_rfl
attribute [go_sem] sz_29
theorem ld_29 (h : H) (id off : Nat) : loadT Go.Proofs.Try.prog h 29 id off = @thn _ _ (h.blk id) ⟨fun b => b.get off⟩ := by kernel_rfl
attribute [go_sem] ld_29
theorem st_29 (h : H) (id off : Nat) (v : CV) : storeT Go.Proofs.Try.prog h 29 id off v = @thn _ _ (h.blk id) ⟨fun b => cond (Nat.beq v.cells.length 1 && !b.ro) ((b.storeA off v.cells).map fun b' => h.put id (.cells b')) none⟩ := by kernel_rfl
attribute [go_sem] st_29
theorem part_29 (cs : List CV) (off : Nat) : partT Go.Proofs.Try.prog 29 cs off = nth cs off := by kernel_rfl
attribute [go_sem] part_29
theorem ze_29 : zeroT Go.Proofs.Try.prog 29 = some (.nilf) := by kernel_rfl
attribute [go_sem] ze_29
theorem eq_29 (xo yo : Operand) (f : Fn) (a b : List CV) : binT Go.Proofs.Try.prog .eql 29 xo yo (.fn f a b) .nilf = some (.bool false) := by kernel_rfl
attribute [go_sem] eq_29
theorem eq_29_n (xo yo : Operand) : binT Go.Proofs.Try.prog .eql 29 xo yo .nilf .nilf = some (.bool true) := by kernel_rfl
attribute [go_sem] eq_29_n
theorem ne_29 (xo yo : Operand) (f : Fn) (a b : List CV) : binT Go.Proofs.Try.prog .neq 29 xo yo (.fn f a b) .nilf = some (.bool true) := by kernel_rfl
attribute [go_sem] ne_29
theorem ne_29_n (xo yo : Operand) : binT Go.Proofs.Try.prog .neq 29 xo yo .nilf .nilf = some (.bool false) := by kernel_rfl
attribute [go_sem] ne_29_n
theorem sz_30 : szOf Go.Proofs.Try.prog 30 = some 1 := by kernel_rfl
attribute [go_sem] sz_30
theorem ld_30 (h : H) (id off : Nat) : loadT Go.Proofs.Try.prog h 30 id off = @thn _ _ (h.blk id) ⟨fun b => b.get off⟩ := by kernel_rfl
attribute [go_sem] ld_30
theorem st_30 (h : H) (id off : Nat) (v : CV) : storeT Go.Proofs.Try.prog h 30 id off v = @thn _ _ (h.blk id) ⟨fun b => cond (Nat.beq v.cells.length 1 && !b.ro) ((b.storeA off v.cells).map fun b' => h.put id (.cells b')) none⟩ := by kernel_rfl
attribute [go_sem] st_30
theorem part_30 (cs : List CV) (off : Nat) : partT Go.Proofs.Try.prog 30 cs off = nth cs off := by kernel_rfl
attribute [go_sem] part_30
theorem ze_30 : zeroT Go.Proofs.Try.prog 30 = some (.nils) := by kernel_rfl
attribute [go_sem] ze_30
theorem ia_30 (id off len k : Nat) (c : Cap) (kd : IntKind) : indexAddrT Go.Proofs.Try.prog 30 (.sl id off len c) (.int kd (Int.ofNat k)) = cond (Nat.blt k len) (some (.ptr id (off + k * 256))) none := by kernel_rfl
attribute [go_sem] ia_30
theorem len_30 (h : H) (id off len : Nat) (c : Cap) (ts : List TypeId) (az : List CV) : builtinT Go.Proofs.Try.prog h .len (30 :: ts) (.sl id off len c :: az) = some (.val (.int .i64 (Int.ofNat len))) := by kernel_rfl
attribute [go_sem] len_30
theorem len_30_n (h : H) (ts : List TypeId) (az : List CV) : builtinT Go.Proofs.Try.prog h .len (30 :: ts) (.nils :: az) = some (.val (.int .i64 0)) := by kernel_rfl
attribute [go_sem] len_30_n
theorem app_30 (h : H) (s : CV) (id off len : Nat) (c : Cap) (ts : List TypeId) (az : List CV) : builtinT Go.Proofs.Try.prog h .append (30 :: 30 :: ts) (s :: .sl id off len c :: az) = uv (appendT Go.Proofs.Try.prog h 30 s (.sl id off len c)) := by kernel_rfl
attribute [go_sem] app_30
theorem app_30_n (h : H) (s : CV) (ts : List TypeId) (az : List CV) : builtinT Go.Proofs.Try.prog h .append (30 :: 30 :: ts) (s :: .nils :: az) = uv (appendT Go.Proofs.Try.prog h 30 s .nils) := by kernel_rfl
attribute [go_sem] app_30_n
theorem ap_30 (h : H) (s : CV) (id off len : Nat) (c : Cap) : appendT Go.Proofs.Try.prog h 30 s (.sl id off len c) = appS h 256 256 256 s len (firstC h 256 len (.sl id off len c)) := by kernel_rfl
attribute [go_sem] ap_30
theorem ap_30_n (h : H) (s : CV) : appendT Go.Proofs.Try.prog h 30 s .nils = appS h 256 256 256 s 0 (some []) := by kernel_rfl
attribute [go_sem] ap_30_n
theorem ap_30_z (h : H) (s : CV) (a b c d : Nat) : appendT Go.Proofs.Try.prog h 30 s (.sl0 a b c d) = appS h 256 256 256 s 0 (some []) := by kernel_rfl
attribute [go_sem] ap_30_z
theorem ms_30 (h : H) (l c : Nat) (k k' : IntKind) : makeSliceT Go.Proofs.Try.prog h 30 (.int k (Int.ofNat l)) (.int k' (Int.ofNat c)) = mkS h 256 256 (zeroT Go.Proofs.Try.prog 33) l c := by kernel_rfl
attribute [go_sem] ms_30
theorem eq_30 (xo yo : Operand) (a b c : Nat) (d : Cap) : binT Go.Proofs.Try.prog .eql 30 xo yo (.sl a b c d) .nils = some (.bool false) := by kernel_rfl
attribute [go_sem] eq_30
theorem eq_30_n (xo yo : Operand) : binT Go.Proofs.Try.prog .eql 30 xo yo .nils .nils = some (.bool true) := by kernel_rfl
attribute [go_sem] eq_30_n
theorem eq_30_z (xo yo : Operand) (a b c d : Nat) : binT Go.Proofs.Try.prog .eql 30 xo yo (.sl0 a b c d) .nils = some (.bool false) := by kernel_rfl
attribute [go_sem] eq_30_z
theorem ne_30 (xo yo : Operand) (a b c : Nat) (d : Cap) : binT Go.Proofs.Try.prog .neq 30 xo yo (.sl a b c d) .nils = some (.bool true) := by kernel_rfl
attribute [go_sem] ne_30
theorem ne_30_n (xo yo : Operand) : binT Go.Proofs.Try.prog .neq 30 xo yo .nils .nils = some (.bool false) := by kernel_rfl
attribute [go_sem] ne_30_n
theorem ne_30_z (xo yo : Operand) (a b c d : Nat) : binT Go.Proofs.Try.prog .neq 30 xo yo (.sl0 a b c d) .nils = some (.bool true) := by kernel_rfl
attribute [go_sem] ne_30_z
theorem len_30_z (h : H) (a b c d : Nat) (ts : List TypeId) (az : List CV) : builtinT Go.Proofs.Try.prog h .len (30 :: ts) (.sl0 a b c d :: az) = some (.val (.int .i64 0)) := by kernel_rfl
attribute [go_sem] len_30_z
theorem app_30_z (h : H) (s : CV) (a b c d : Nat) (ts : List TypeId) (az : List CV) : builtinT Go.Proofs.Try.prog h .append (30 :: 30 :: ts) (s :: .sl0 a b c d :: az) = uv (appendT Go.Proofs.Try.prog h 30 s (.sl0 a b c d)) := by kernel_rfl
attribute [go_sem] app_30_z
theorem sz_31 : szOf Go.Proofs.Try.prog 31 = some 20 := by kernel_rfl
attribute [go_sem] sz_31
theorem ld_31 (h : H) (id off : Nat) : loadT Go.Proofs.Try.prog h 31 id off = @thn _ _ (h.blk id) ⟨fun b => (b.loadN off 20).map .agg⟩ := by kernel_rfl
attribute [go_sem] ld_31
theorem st_31 (h : H) (id off : Nat) (v : CV) : storeT Go.Proofs.Try.prog h 31 id off v = @thn _ _ (h.blk id) ⟨fun b => cond (Nat.beq v.cells.length 20 && !b.ro) ((b.storeA off v.cells).map fun b' => h.put id (.cells b')) none⟩ := by kernel_rfl
attribute [go_sem] st_31
theorem part_31 (cs : List CV) (off : Nat) : partT Go.Proofs.Try.prog 31 cs off = some (.agg ((cs.drop off).take 20)) := by kernel_rfl
attribute [go_sem] part_31
theorem ze_31 : zeroT Go.Proofs.Try.prog 31 = some (.agg [.nils, .nils, .nils, .nils, .nils, .nils, .nils, .nils, .nils, .nils, .nils, .nils, .nils, .nils, .nils, .nils, .nils, .nils, .nils, .nils]) := by kernel_rfl
attribute [go_sem] ze_31
theorem ia_31 (id off k : Nat) (kd : IntKind) : indexAddrT Go.Proofs.Try.prog 31 (.ptr id off) (.int kd (Int.ofNat k)) = cond (Nat.blt k 20) (some (.ptr id (off + k * 1))) none := by kernel_rfl
attribute [go_sem] ia_31
theorem ix_31 (cs : List CV) (k : Nat) (kd : IntKind) : indexT Go.Proofs.Try.prog 31 (.agg cs) (.int kd (Int.ofNat k)) = cond (Nat.blt k 20) (partT Go.Proofs.Try.prog 30 cs (k * 1)) none := by kernel_rfl
attribute [go_sem] ix_31
theorem len_31 (h : H) (ts : List TypeId) (az : List CV) (a : CV) : builtinT Go.Proofs.Try.prog h .len (31 :: ts) (a :: az) = some (.val (.int .i64 20)) := by kernel_rfl
attribute [go_sem] len_31
theorem bt_31 (parts : List (Nat × CV)) : buildT Go.Proofs.Try.prog 31 parts = finB (CV.cells (.agg [.nils, .nils, .nils, .nils, .nils, .nils, .nils, .nils, .nils, .nils, .nils, .nils, .nils, .nils, .nils, .nils, .nils, .nils, .nils, .nils])) (fun i => some (i * 1, 1)) parts := by kernel_rfl
attribute [go_sem] bt_31
theorem sz_32 : szOf Go.Proofs.Try.prog 32 = some 256 := by kernel_rfl
attribute [go_sem] sz_32
theorem ld_32 (h : H) (id off : Nat) : loadT Go.Proofs.Try.prog h 32 id off = @thn _ _ (h.blk id) ⟨fun b => (b.loadN off 256).map .agg⟩ := by kernel_rfl
attribute [go_sem] ld_32
theorem st_32 (h : H) (id off : Nat) (v : CV) : storeT Go.Proofs.Try.prog h 32 id off v = @thn _ _ (h.blk id) ⟨fun b => cond (Nat.beq v.cells.length 256 && !b.ro) ((b.storeA off v.cells).map fun b' => h.put id (.cells b')) none⟩ := by kernel_rfl
attribute [go_sem] st_32
theorem part_32 (cs : List CV) (off : Nat) : partT Go.Proofs.Try.prog 32 cs off = some (.agg ((cs.drop off).take 256)) := by kernel_rfl
attribute [go_sem] part_32
theorem ia_32 (id off k : Nat) (kd : IntKind) : indexAddrT Go.Proofs.Try.prog 32 (.ptr id off) (.int kd (Int.ofNat k)) = cond (Nat.blt k 256) (some (.ptr id (off + k * 1))) none := by kernel_rfl
attribute [go_sem] ia_32
theorem ix_32 (cs : List CV) (k : Nat) (kd : IntKind) : indexT Go.Proofs.Try.prog 32 (.agg cs) (.int kd (Int.ofNat k)) = cond (Nat.blt k 256) (partT Go.Proofs.Try.prog 5 cs (k * 1)) none := by kernel_rfl
attribute [go_sem] ix_32
theorem len_32 (h : H) (ts : List TypeId) (az : List CV) (a : CV) : builtinT Go.Proofs.Try.prog h .len (32 :: ts) (a :: az) = some (.val (.int .i64 256)) := by kernel_rfl
attribute [go_sem] len_32
theorem sz_33 : szOf Go.Proofs.Try.prog 33 = some 256 := by kernel_rfl
attribute [go_sem] sz_33
theorem ld_33 (h : H) (id off : Nat) : loadT Go.Proofs.Try.prog h 33 id off = @thn _ _ (h.blk id) ⟨fun b => (b.loadN off 256).map .agg⟩ := by kernel_rfl
attribute [go_sem] ld_33
theorem st_33 (h : H) (id off : Nat) (v : CV) : storeT Go.Proofs.Try.prog h 33 id off v = @thn _ _ (h.blk id) ⟨fun b => cond (Nat.beq v.cells.length 256 && !b.ro) ((b.storeA off v.cells).map fun b' => h.put id (.cells b')) none⟩ := by kernel_rfl
attribute [go_sem] st_33
theorem part_33 (cs : List CV) (off : Nat) : partT Go.Proofs.Try.prog 33 cs off = some (.agg ((cs.drop off).take 256)) := by kernel_rfl
attribute [go_sem] part_33
theorem ia_33 (id off k : Nat) (kd : IntKind) : indexAddrT Go.Proofs.Try.prog 33 (.ptr id off) (.int kd (Int.ofNat k)) = cond (Nat.blt k 256) (some (.ptr id (off + k * 1))) none := by kernel_rfl
attribute [go_sem] ia_33
theorem ix_33 (cs : List CV) (k : Nat) (kd : IntKind) : indexT Go.Proofs.Try.prog 33 (.agg cs) (.int kd (Int.ofNat k)) = cond (Nat.blt k 256) (partT Go.Proofs.Try.prog 5 cs (k * 1)) none := by kernel_rfl
attribute [go_sem] ix_33
theorem len_33 (h : H) (ts : List TypeId) (az : List CV) (a : CV) : builtinT Go.Proofs.Try.prog h .len (33 :: ts) (a :: az) = some (.val (.int .i64 256)) := by kernel_rfl
attribute [go_sem] len_33
theorem sz_34 : szOf Go.Proofs.Try.prog 34 = some 4 := by kernel_rfl
attribute [go_sem] sz_34
theorem ld_34 (h : H) (id off : Nat) : loadT Go.Proofs.Try.prog h 34 id off = @thn _ _ (h.blk id) ⟨fun b => (b.loadN off 4).map .agg⟩ := by kernel_rfl
attribute [go_sem] ld_34
theorem st_34 (h : H) (id off : Nat) (v : CV) : storeT Go.Proofs.Try.prog h 34 id off v = @thn _ _ (h.blk id) ⟨fun b => cond (Nat.beq v.cells.length 4 && !b.ro) ((b.storeA off v.cells).map fun b' => h.put id (.cells b')) none⟩ := by kernel_rfl
attribute [go_sem] st_34
theorem part_34 (cs : List CV) (off : Nat) : partT Go.Proofs.Try.prog 34 cs off = some (.agg ((cs.drop off).take 4)) := by kernel_rfl
attribute [go_sem] part_34
theorem ze_34 : zeroT Go.Proofs.Try.prog 34 = some (.agg [.int .i64 0, .int .i64 0, .int .u8 0, .nils]) := by kernel_rfl
attribute [go_sem] ze_34
theorem bt_34 (parts : List (Nat × CV)) : buildT Go.Proofs.Try.prog 34 parts = finB (CV.cells (.agg [.int .i64 0, .int .i64 0, .int .u8 0, .nils])) (nth [(0, 1), (1, 1), (2, 1), (3, 1)]) parts := by kernel_rfl
attribute [go_sem] bt_34
theorem fa_34_0 (id off : Nat) : fieldAddrT Go.Proofs.Try.prog 34 (.ptr id off) 0 = some (.ptr id (off)) := by kernel_rfl
attribute [go_sem] fa_34_0
theorem fd_34_0 (cs : List CV) : fieldT Go.Proofs.Try.prog 34 (.agg cs) 0 = partT Go.Proofs.Try.prog 3 cs 0 := by kernel_rfl
attribute [go_sem] fd_34_0
theorem fa_34_1 (id off : Nat) : fieldAddrT Go.Proofs.Try.prog 34 (.ptr id off) 1 = some (.ptr id (off + 1)) := by kernel_rfl
attribute [go_sem] fa_34_1
theorem fd_34_1 (cs : List CV) : fieldT Go.Proofs.Try.prog 34 (.agg cs) 1 = partT Go.Proofs.Try.prog 3 cs 1 := by kernel_rfl
attribute [go_sem] fd_34_1
theorem fa_34_2 (id off : Nat) : fieldAddrT Go.Proofs.Try.prog 34 (.ptr id off) 2 = some (.ptr id (off + 2)) := by kernel_rfl
attribute [go_sem] fa_34_2
theorem fd_34_2 (cs : List CV) : fieldT Go.Proofs.Try.prog 34 (.agg cs) 2 = partT Go.Proofs.Try.prog 5 cs 2 := by kernel_rfl
attribute [go_sem] fd_34_2
theorem fa_34_3 (id off : Nat) : fieldAddrT Go.Proofs.Try.prog 34 (.ptr id off) 3 = some (.ptr id (off + 3)) := by kernel_rfl
attribute [go_sem] fa_34_3
theorem fd_34_3 (cs : List CV) : fieldT Go.Proofs.Try.prog 34 (.agg cs) 3 = partT Go.Proofs.Try.prog 23 cs 3 := by kernel_rfl
attribute [go_sem] fd_34_3
theorem sz_35 : szOf Go.Proofs.Try.prog 35 = some 4 := by kernel_rfl
attribute [go_sem] sz_35
theorem ld_35 (h : H) (id off : Nat) : loadT Go.Proofs.Try.prog h 35 id off = @thn _ _ (h.blk id) ⟨fun b => (b.loadN off 4).map .agg⟩ := by kernel_rfl
attribute [go_sem] ld_35
theorem st_35 (h : H) (id off : Nat) (v : CV) : storeT Go.Proofs.Try.prog h 35 id off v = @thn _ _ (h.blk id) ⟨fun b => cond (Nat.beq v.cells.length 4 && !b.ro) ((b.storeA off v.cells).map fun b' => h.put id (.cells b')) none⟩ := by kernel_rfl
attribute [go_sem] st_35
theorem part_35 (cs : List CV) (off : Nat) : partT Go.Proofs.Try.prog 35 cs off = some (.agg ((cs.drop off).take 4)) := by kernel_rfl
attribute [go_sem] part_35
theorem ze_35 : zeroT Go.Proofs.Try.prog 35 = some (.agg [.int .i64 0, .int .i64 0, .int .u8 0, .nils]) := by kernel_rfl
attribute [go_sem] ze_35
theorem bt_35 (parts : List (Nat × CV)) : buildT Go.Proofs.Try.prog 35 parts = finB (CV.cells (.agg [.int .i64 0, .int .i64 0, .int .u8 0, .nils])) (nth [(0, 1), (1, 1), (2, 1), (3, 1)]) parts := by kernel_rfl
attribute [go_sem] bt_35
theorem fa_35_0 (id off : Nat) : fieldAddrT Go.Proofs.Try.prog 35 (.ptr id off) 0 = some (.ptr id (off)) := by kernel_rfl
attribute [go_sem] fa_35_0
theorem fd_35_0 (cs : List CV) : fieldT Go.Proofs.Try.prog 35 (.agg cs) 0 = partT Go.Proofs.Try.prog 3 cs 0 := by kernel_rfl
attribute [go_sem] fd_35_0
theorem fa_35_1 (id off : Nat) : fieldAddrT Go.Proofs.Try.prog 35 (.ptr id off) 1 = some (.ptr id (off + 1)) := by kernel_rfl
attribute [go_sem] fa_35_1
theorem fd_35_1 (cs : List CV) : fieldT Go.Proofs.Try.prog 35 (.agg cs) 1 = partT Go.Proofs.Try.prog 3 cs 1 := by kernel_rfl
attribute [go_sem] fd_35_1
theorem fa_35_2 (id off : Nat) : fieldAddrT Go.Proofs.Try.prog 35 (.ptr id off) 2 = some (.ptr id (off + 2)) := by kernel_rfl
attribute [go_sem] fa_35_2
theorem fd_35_2 (cs : List CV) : fieldT Go.Proofs.Try.prog 35 (.agg cs) 2 = partT Go.Proofs.Try.prog 5 cs 2 := by kernel_rfl
attribute [go_sem] fd_35_2
theorem fa_35_3 (id off : Nat) : fieldAddrT Go.Proofs.Try.prog 35 (.ptr id off) 3 = some (.ptr id (off + 3)) := by kernel_rfl
attribute [go_sem] fa_35_3
theorem fd_35_3 (cs : List CV) : fieldT Go.Proofs.Try.prog 35 (.agg cs) 3 = partT Go.Proofs.Try.prog 23 cs 3 := by kernel_rfl
attribute [go_sem] fd_35_3
theorem sz_36 : szOf Go.Proofs.Try.prog 36 = some 1 := by kernel_rfl
attribute [go_sem] sz_36
theorem ld_36 (h : H) (id off : Nat) : loadT Go.Proofs.Try.prog h 36 id off = @thn _ _ (h.blk id) ⟨fun b => b.get off⟩ := by kernel_rfl
attribute [go_sem] ld_36
theorem st_36 (h : H) (id off : Nat) (v : CV) : storeT Go.Proofs.Try.prog h 36 id off v = @thn _ _ (h.blk id) ⟨fun b => cond (Nat.beq v.cells.length 1 && !b.ro) ((b.storeA off v.cells).map fun b' => h.put id (.cells b')) none⟩ := by kernel_rfl
attribute [go_sem] st_36
theorem part_36 (cs : List CV) (off : Nat) : partT Go.Proofs.Try.prog 36 cs off = nth cs off := by kernel_rfl
attribute [go_sem] part_36
theorem ze_36 : zeroT Go.Proofs.Try.prog 36 = some (.nilf) := by kernel_rfl
attribute [go_sem] ze_36
theorem eq_36 (xo yo : Operand) (f : Fn) (a b : List CV) : binT Go.Proofs.Try.prog .eql 36 xo yo (.fn f a b) .nilf = some (.bool false) := by kernel_rfl
attribute [go_sem] eq_36
theorem eq_36_n (xo yo : Operand) : binT Go.Proofs.Try.prog .eql 36 xo yo .nilf .nilf = some (.bool true) := by kernel_rfl
attribute [go_sem] eq_36_n
theorem ne_36 (xo yo : Operand) (f : Fn) (a b : List CV) : binT Go.Proofs.Try.prog .neq 36 xo yo (.fn f a b) .nilf = some (.bool true) := by kernel_rfl
attribute [go_sem] ne_36
theorem ne_36_n (xo yo : Operand) : binT Go.Proofs.Try.prog .neq 36 xo yo .nilf .nilf = some (.bool false) := by kernel_rfl
attribute [go_sem] ne_36_n
theorem sz_37 : szOf Go.Proofs.Try.prog 37 = some 1 := by kernel_rfl
attribute [go_sem] sz_37
theorem ld_37 (h : H) (id off : Nat) : loadT Go.Proofs.Try.prog h 37 id off = @thn _ _ (h.blk id) ⟨fun b => b.get off⟩ := by kernel_rfl
attribute [go_sem] ld_37
theorem st_37 (h : H) (id off : Nat) (v : CV) : storeT Go.Proofs.Try.prog h 37 id off v = @thn _ _ (h.blk id) ⟨fun b => cond (Nat.beq v.cells.length 1 && !b.ro) ((b.storeA off v.cells).map fun b' => h.put id (.cells b')) none⟩ := by kernel_rfl
attribute [go_sem] st_37
theorem part_37 (cs : List CV) (off : Nat) : partT Go.Proofs.Try.prog 37 cs off = nth cs off := by kernel_rfl
attribute [go_sem] part_37
theorem ze_37 : zeroT Go.Proofs.Try.prog 37 = some (.nilf) := by kernel_rfl
attribute [go_sem] ze_37
theorem eq_37 (xo yo : Operand) (f : Fn) (a b : List CV) : binT Go.Proofs.Try.prog .eql 37 xo yo (.fn f a b) .nilf = some (.bool false) := by kernel_rfl
attribute [go_sem] eq_37
theorem eq_37_n (xo yo : Operand) : binT Go.Proofs.Try.prog .eql 37 xo yo .nilf .nilf = some (.bool true) := by kernel_rfl
attribute [go_sem] eq_37_n
theorem ne_37 (xo yo : Operand) (f : Fn) (a b : List CV) : binT Go.Proofs.Try.prog .neq 37 xo yo (.fn f a b) .nilf = some (.bool true) := by kernel_rfl
attribute [go_sem] ne_37
theorem ne_37_n (xo yo : Operand) : binT Go.Proofs.Try.prog .neq 37 xo yo .nilf .nilf = some (.bool false) := by kernel_rfl
attribute [go_sem] ne_37_n
theorem sz_38 : szOf Go.Proofs.Try.prog 38 = some 1 := by kernel_rfl
attribute [go_sem] sz_38
theorem ld_38 (h : H) (id off : Nat) : loadT Go.Proofs.Try.prog h 38 id off = @thn _ _ (h.blk id) ⟨fun b => b.get off⟩ := by kernel_rfl
attribute [go_sem] ld_38
theorem st_38 (h : H) (id off : Nat) (v : CV) : storeT Go.Proofs.Try.prog h 38 id off v = @thn _ _ (h.blk id) ⟨fun b => cond (Nat.beq v.cells.length 1 && !b.ro) ((b.storeA off v.cells).map fun b' => h.put id (.cells b')) none⟩ := by kernel_rfl
attribute [go_sem] st_38
theorem part_38 (cs : List CV) (off : Nat) : partT Go.Proofs.Try.prog 38 cs off = nth cs off := by kernel_rfl
attribute [go_sem] part_38
theorem ze_38 : zeroT Go.Proofs.Try.prog 38 = some (.nilf) := by kernel_rfl
attribute [go_sem] ze_38
theorem eq_38 (xo yo : Operand) (f : Fn) (a b : List CV) : binT Go.Proofs.Try.prog .eql 38 xo yo (.fn f a b) .nilf = some (.bool false) := by kernel_rfl
attribute [go_sem] eq_38
theorem eq_38_n (xo yo : Operand) : binT Go.Proofs.Try.prog .eql 38 xo yo .nilf .nilf = some (.bool true) := by kernel_rfl
attribute [go_sem] eq_38_n
theorem ne_38 (xo yo : Operand) (f : Fn) (a b : List CV) : binT Go.Proofs.Try.prog .neq 38 xo yo (.fn f a b) .nilf = some (.bool true) := by kernel_rfl
attribute [go_sem] ne_38
theorem ne_38_n (xo yo : Operand) : binT Go.Proofs.Try.prog .neq 38 xo yo .nilf .nilf = some (.bool false) := by kernel_rfl
attribute [go_sem] ne_38_n
theorem sz_39 : szOf Go.Proofs.Try.prog 39 = some 1 := by kernel_rfl
attribute [go_sem] sz_39
theorem ld_39 (h : H) (id off : Nat) : loadT Go.Proofs.Try.prog h 39 id off = @thn _ _ (h.blk id) ⟨fun b => b.get off⟩ := by kernel_rfl
attribute [go_sem] ld_39
theorem st_39 (h : H) (id off : Nat) (v : CV) : storeT Go.Proofs.Try.prog h 39 id off v = @thn _ _ (h.blk id) ⟨fun b => cond (Nat.beq v.cells.length 1 && !b.ro) ((b.storeA off v.cells).map fun b' => h.put id (.cells b')) none⟩ := by kernel_rfl
attribute [go_sem] st_39
theorem part_39 (cs : List CV) (off : Nat) : partT Go.Proofs.Try.prog 39 cs off = nth cs off := by kernel_rfl
attribute [go_sem] part_39
theorem ze_39 : zeroT Go.Proofs.Try.prog 39 = some (.nilf) := by kernel_rfl
attribute [go_sem] ze_39
theorem eq_39 (xo yo : Operand) (f : Fn) (a b : List CV) : binT Go.Proofs.Try.prog .eql 39 xo yo (.fn f a b) .nilf = some (.bool false) := by kernel_rfl
attribute [go_sem] eq_39
theorem eq_39_n (xo yo : Operand) : binT Go.Proofs.Try.prog .eql 39 xo yo .nilf .nilf = some (.bool true) := by kernel_rfl
attribute [go_sem] eq_39_n
theorem ne_39 (xo yo : Operand) (f : Fn) (a b : List CV) : binT Go.Proofs.Try.prog .neq 39 xo yo (.fn f a b) .nilf = some (.bool true) := by kernel_rfl
attribute [go_sem] ne_39
theorem ne_39_n (xo yo : Operand) : binT Go.Proofs.Try.prog .neq 39 xo yo .nilf .nilf = some (.bool false) := by kernel_rfl
attribute [go_sem] ne_39_n
theorem sz_40 : szOf Go.Proofs.Try.prog 40 = some 1 := by kernel_rfl
attribute [go_sem] sz_40
theorem ld_40 (h : H) (id off : Nat) : loadT Go.Proofs.Try.prog h 40 id off = @thn _ _ (h.blk id) ⟨fun b => b.get off⟩ := by kernel_rfl
attribute [go_sem] ld_40
theorem st_40 (h : H) (id off : Nat) (v : CV) : storeT Go.Proofs.Try.prog h 40 id off v = @thn _ _ (h.blk id) ⟨fun b => cond (Nat.beq v.cells.length 1 && !b.ro) ((b.storeA off v.cells).map fun b' => h.put id (.cells b')) none⟩ := by kernel_rfl
attribute [go_sem] st_40
theorem part_40 (cs : List CV) (off : Nat) : partT Go.Proofs.Try.prog 40 cs off = nth cs off := by kernel_rfl
attribute [go_sem] part_40
theorem ze_40 : zeroT Go.Proofs.Try.prog 40 = some (.nilf) := by kernel_rfl
attribute [go_sem] ze_40
theorem eq_40 (xo yo : Operand) (f : Fn) (a b : List CV) : binT Go.Proofs.Try.prog .eql 40 xo yo (.fn f a b) .nilf = some (.bool false) := by kernel_rfl
attribute [go_sem] eq_40
theorem eq_40_n (xo yo : Operand) : binT Go.Proofs.Try.prog .eql 40 xo yo .nilf .nilf = some (.bool true) := by kernel_rfl
attribute [go_sem] eq_40_n
theorem ne_40 (xo yo : Operand) (f : Fn) (a b : List CV) : binT Go.Proofs.Try.prog .neq 40 xo yo (.fn f a b) .nilf = some (.bool true) := by kernel_rfl
attribute [go_sem] ne_40
theorem ne_40_n (xo yo : Operand) : binT Go.Proofs.Try.prog .neq 40 xo yo .nilf .nilf = some (.bool false) := by kernel_rfl
attribute [go_sem] ne_40_n
theorem sz_41 : szOf Go.Proofs.Try.prog 41 = some 1 := by kernel_rfl
attribute [go_sem] sz_41
theorem ld_41 (h : H) (id off : Nat) : loadT Go.Proofs.Try.prog h 41 id off = @thn _ _ (h.blk id) ⟨fun b => b.get off⟩ := by kernel_rfl
attribute [go_sem] ld_41
theorem st_41 (h : H) (id off : Nat) (v : CV) : storeT Go.Proofs.Try.prog h 41 id off v = @thn _ _ (h.blk id) ⟨fun b => cond (Nat.beq v.cells.length 1 && !b.ro) ((b.storeA off v.cells).map fun b' => h.put id (.cells b')) none⟩ := by kernel_rfl
attribute [go_sem] st_41
theorem part_41 (cs : List CV) (off : Nat) : partT Go.Proofs.Try.prog 41 cs off = nth cs off := by kernel_rfl
attribute [go_sem] part_41
theorem sz_42 : szOf Go.Proofs.Try.prog 42 = some 1 := by kernel_rfl
attribute [go_sem] sz_42
theorem ld_42 (h : H) (id off : Nat) : loadT Go.Proofs.Try.prog h 42 id off = @thn _ _ (h.blk id) ⟨fun b => b.get off⟩ := by kernel_rfl
attribute [go_sem] ld_42
theorem st_42 (h : H) (id off : Nat) (v : CV) : storeT Go.Proofs.Try.prog h 42 id off v = @thn _ _ (h.blk id) ⟨fun b => cond (Nat.beq v.cells.length 1 && !b.ro) ((b.storeA off v.cells).map fun b' => h.put id (.cells b')) none⟩ := by kernel_rfl
attribute [go_sem] st_42
theorem part_42 (cs : List CV) (off : Nat) : partT Go.Proofs.Try.prog 42 cs off = nth cs off := by kernel_rfl
attribute [go_sem] part_42
theorem ze_42 : zeroT Go.Proofs.Try.prog 42 = some (.nilf) := by kernel_rfl
attribute [go_sem] ze_42
theorem eq_42 (xo yo : Operand) (f : Fn) (a b : List CV) : binT Go.Proofs.Try.prog .eql 42 xo yo (.fn f a b) .nilf = some (.bool false) := by kernel_rfl
attribute [go_sem] eq_42
theorem eq_42_n (xo yo : Operand) : binT Go.Proofs.Try.prog .eql 42 xo yo .nilf .nilf = some (.bool true) := by kernel_rfl
attribute [go_sem] eq_42_n
theorem ne_42 (xo yo : Operand) (f : Fn) (a b : List CV) : binT Go.Proofs.Try.prog .neq 42 xo yo (.fn f a b) .nilf = some (.bool true) := by kernel_rfl
attribute [go_sem] ne_42
theorem ne_42_n (xo yo : Operand) : binT Go.Proofs.Try.prog .neq 42 xo yo .nilf .nilf = some (.bool false) := by kernel_rfl
attribute [go_sem] ne_42_n
theorem sz_43 : szOf Go.Proofs.Try.prog 43 = some 1 := by kernel_rfl
attribute [go_sem] sz_43
theorem ld_43 (h : H) (id off : Nat) : loadT Go.Proofs.Try.prog h 43 id off = @thn _ _ (h.blk id) ⟨fun b => b.get off⟩ := by kernel_rfl
attribute [go_sem] ld_43
theorem st_43 (h : H) (id off : Nat) (v : CV) : storeT Go.Proofs.Try.prog h 43 id off v = @thn _ _ (h.blk id) ⟨fun b => cond (Nat.beq v.cells.length 1 && !b.ro) ((b.storeA off v.cells).map fun b' => h.put id (.cells b')) none⟩ := by kernel_rfl
attribute [go_sem] st_43
theorem part_43 (cs : List CV) (off : Nat) : partT Go.Proofs.Try.prog 43 cs off = nth cs off := by kernel_rfl
attribute [go_sem] part_43
theorem ze_43 : zeroT Go.Proofs.Try.prog 43 = some (.nilf) := by kernel_rfl
attribute [go_sem] ze_43
theorem eq_43 (xo yo : Operand) (f : Fn) (a b : List CV) : binT Go.Proofs.Try.prog .eql 43 xo yo (.fn f a b) .nilf = some (.bool false) := by kernel_rfl
attribute [go_sem] eq_43
theorem eq_43_n (xo yo : Operand) : binT Go.Proofs.Try.prog .eql 43 xo yo .nilf .nilf = some (.bool true) := by kernel_rfl
attribute [go_sem] eq_43_n
theorem ne_43 (xo yo : Operand) (f : Fn) (a b : List CV) : binT Go.Proofs.Try.prog .neq 43 xo yo (.fn f a b) .nilf = some (.bool true) := by kernel_rfl
attribute [go_sem] ne_43
theorem ne_43_n (xo yo : Operand) : binT Go.Proofs.Try.prog .neq 43 xo yo .nilf .nilf = some (.bool false) := by kernel_rfl
attribute [go_sem] ne_43_n
theorem sz_44 : szOf Go.Proofs.Try.prog 44 = some 1 := by kernel_rfl
attribute [go_sem] sz_44
theorem ld_44 (h : H) (id off : Nat) : loadT Go.Proofs.Try.prog h 44 id off = @thn _ _ (h.blk id) ⟨fun b => b.get off⟩ := by kernel_rfl
attribute [go_sem] ld_44
theorem st_44 (h : H) (id off : Nat) (v : CV) : storeT Go.Proofs.Try.prog h 44 id off v = @thn _ _ (h.blk id) ⟨fun b => cond (Nat.beq v.cells.length 1 && !b.ro) ((b.storeA off v.cells).map fun b' => h.put id (.cells b')) none⟩ := by kernel_rfl
attribute [go_sem] st_44
theorem part_44 (cs : List CV) (off : Nat) : partT Go.Proofs.Try.prog 44 cs off = nth cs off := by kernel_rfl
attribute [go_sem] part_44
theorem ze_44 : zeroT Go.Proofs.Try.prog 44 = some (.nilf) := by kernel_rfl
attribute [go_sem] ze_44
theorem eq_44 (xo yo : Operand) (f : Fn) (a b : List CV) : binT Go.Proofs.Try.prog .eql 44 xo yo (.fn f a b) .nilf = some (.bool false) := by kernel_rfl
attribute [go_sem] eq_44
theorem eq_44_n (xo yo : Operand) : binT Go.Proofs.Try.prog .eql 44 xo yo .nilf .nilf = some (.bool true) := by kernel_rfl
attribute [go_sem] eq_44_n
theorem ne_44 (xo yo : Operand) (f : Fn) (a b : List CV) : binT Go.Proofs.Try.prog .neq 44 xo yo (.fn f a b) .nilf = some (.bool true) := by kernel_rfl
attribute [go_sem] ne_44
theorem ne_44_n (xo yo : Operand) : binT Go.Proofs.Try.prog .neq 44 xo yo .nilf .nilf = some (.bool false) := by kernel_rfl
attribute [go_sem] ne_44_n
theorem sz_45 : szOf Go.Proofs.Try.prog 45 = some 1 := by kernel_rfl
attribute [go_sem] sz_45
theorem ld_45 (h : H) (id off : Nat) : loadT Go.Proofs.Try.prog h 45 id off = @thn _ _ (h.blk id) ⟨fun b => b.get off⟩ := by kernel_rfl
attribute [go_sem] ld_45
theorem st_45 (h : H) (id off : Nat) (v : CV) : storeT Go.Proofs.Try.prog h 45 id off v = @thn _ _ (h.blk id) ⟨fun b => cond (Nat.beq v.cells.length 1 && !b.ro) ((b.storeA off v.cells).map fun b' => h.put id (.cells b')) none⟩ := by kernel_rfl
attribute [go_sem] st_45
theorem part_45 (cs : List CV) (off : Nat) : partT Go.Proofs.Try.prog 45 cs off = nth cs off := by kernel_rfl
attribute [go_sem] part_45
theorem ze_45 : zeroT Go.Proofs.Try.prog 45 = some (.nilf) := by kernel_rfl
attribute [go_sem] ze_45
theorem eq_45 (xo yo : Operand) (f : Fn) (a b : List CV) : binT Go.Proofs.Try.prog .eql 45 xo yo (.fn f a b) .nilf = some (.bool false) := by kernel_rfl
attribute [go_sem] eq_45
theorem eq_45_n (xo yo : Operand) : binT Go.Proofs.Try.prog .eql 45 xo yo .nilf .nilf = some (.bool true) := by kernel_rfl
attribute [go_sem] eq_45_n
theorem ne_45 (xo yo : Operand) (f : Fn) (a b : List CV) : binT Go.Proofs.Try.prog .neq 45 xo yo (.fn f a b) .nilf = some (.bool true) := by kernel_rfl
attribute [go_sem] ne_45
theorem ne_45_n (xo yo : Operand) : binT Go.Proofs.Try.prog .neq 45 xo yo .nilf .nilf = some (.bool false) := by kernel_rfl
attribute [go_sem] ne_45_n
theorem sz_46 : szOf Go.Proofs.Try.prog 46 = some 1 := by kernel_rfl
attribute [go_sem] sz_46
theorem ld_46 (h : H) (id off : Nat) : loadT Go.Proofs.Try.prog h 46 id off = @thn _ _ (h.blk id) ⟨fun b => b.get off⟩ := by kernel_rfl
attribute [go_sem] ld_46
theorem st_46 (h : H) (id off : Nat) (v : CV) : storeT Go.Proofs.Try.prog h 46 id off v = @thn _ _ (h.blk id) ⟨fun b => cond (Nat.beq v.cells.length 1 && !b.ro) ((b.storeA off v.cells).map fun b' => h.put id (.cells b')) none⟩ := by kernel_rfl
attribute [go_sem] st_46
theorem part_46 (cs : List CV) (off : Nat) : partT Go.Proofs.Try.prog 46 cs off = nth cs off := by kernel_rfl
attribute [go_sem] part_46
theorem ze_46 : zeroT Go.Proofs.Try.prog 46 = some (.nilm) := by kernel_rfl
attribute [go_sem] ze_46
theorem eq_46 (xo yo : Operand) (a : Nat) : binT Go.Proofs.Try.prog .eql 46 xo yo (.map a) .nilm = some (.bool false) := by kernel_rfl
attribute [go_sem] eq_46
theorem eq_46_n (xo yo : Operand) : binT Go.Proofs.Try.prog .eql 46 xo yo .nilm .nilm = some (.bool true) := by kernel_rfl
attribute [go_sem] eq_46_n
theorem ne_46 (xo yo : Operand) (a : Nat) : binT Go.Proofs.Try.prog .neq 46 xo yo (.map a) .nilm = some (.bool true) := by kernel_rfl
attribute [go_sem] ne_46
theorem ne_46_n (xo yo : Operand) : binT Go.Proofs.Try.prog .neq 46 xo yo .nilm .nilm = some (.bool false) := by kernel_rfl
attribute [go_sem] ne_46_n
theorem sz_47 : szOf Go.Proofs.Try.prog 47 = some 6 := by kernel_rfl
attribute [go_sem] sz_47
theorem ld_47 (h : H) (id off : Nat) : loadT Go.Proofs.Try.prog h 47 id off = @thn _ _ (h.blk id) ⟨fun b => (b.loadN off 6).map .agg⟩ := by kernel_rfl
attribute [go_sem] ld_47
theorem st_47 (h : H) (id off : Nat) (v : CV) : storeT Go.Proofs.Try.prog h 47 id off v = @thn _ _ (h.blk id) ⟨fun b => cond (Nat.beq v.cells.length 6 && !b.ro) ((b.storeA off v.cells).map fun b' => h.put id (.cells b')) none⟩ := by kernel_rfl
attribute [go_sem] st_47
theorem part_47 (cs : List CV) (off : Nat) : partT Go.Proofs.Try.prog 47 cs off = some (.agg ((cs.drop off).take 6)) := by kernel_rfl
attribute [go_sem] part_47
theorem ze_47 : zeroT Go.Proofs.Try.prog 47 = some (.agg [.nils, .nilm, .bool false, .int .i64 0, .bool false, .bool false]) := by kernel_rfl
attribute [go_sem] ze_47
theorem bt_47 (parts : List (Nat × CV)) : buildT Go.Proofs.Try.prog 47 parts = finB (CV.cells (.agg [.nils, .nilm, .bool false, .int .i64 0, .bool false, .bool false])) (nth [(0, 1), (1, 1), (2, 1), (3, 1), (4, 1), (5, 1)]) parts := by kernel_rfl
attribute [go_sem] bt_47
theorem fa_47_0 (id off : Nat) : fieldAddrT Go.Proofs.Try.prog 47 (.ptr id off) 0 = some (.ptr id (off)) := by kernel_rfl
attribute [go_sem] fa_47_0
theorem fd_47_0 (cs : List CV) : fieldT Go.Proofs.Try.prog 47 (.agg cs) 0 = partT Go.Proofs.Try.prog 30 cs 0 := by kernel_rfl
attribute [go_sem] fd_47_0
theorem fa_47_1 (id off : Nat) : fieldAddrT Go.Proofs.Try.prog 47 (.ptr id off) 1 = some (.ptr id (off + 1)) := by kernel_rfl
attribute [go_sem] fa_47_1
theorem fd_47_1 (cs : List CV) : fieldT Go.Proofs.Try.prog 47 (.agg cs) 1 = partT Go.Proofs.Try.prog 46 cs 1 := by kernel_rfl
attribute [go_sem] fd_47_1
theorem fa_47_2 (id off : Nat) : fieldAddrT Go.Proofs.Try.prog 47 (.ptr id off) 2 = some (.ptr id (off + 2)) := by kernel_rfl
attribute [go_sem] fa_47_2
theorem fd_47_2 (cs : List CV) : fieldT Go.Proofs.Try.prog 47 (.agg cs) 2 = partT Go.Proofs.Try.prog 4 cs 2 := by kernel_rfl
attribute [go_sem] fd_47_2
theorem fa_47_3 (id off : Nat) : fieldAddrT Go.Proofs.Try.prog 47 (.ptr id off) 3 = some (.ptr id (off + 3)) := by kernel_rfl
attribute [go_sem] fa_47_3
theorem fd_47_3 (cs : List CV) : fieldT Go.Proofs.Try.prog 47 (.agg cs) 3 = partT Go.Proofs.Try.prog 3 cs 3 := by kernel_rfl
attribute [go_sem] fd_47_3
theorem fa_47_4 (id off : Nat) : fieldAddrT Go.Proofs.Try.prog 47 (.ptr id off) 4 = some (.ptr id (off + 4)) := by kernel_rfl
attribute [go_sem] fa_47_4
theorem fd_47_4 (cs : List CV) : fieldT Go.Proofs.Try.prog 47 (.agg cs) 4 = partT Go.Proofs.Try.prog 4 cs 4 := by kernel_rfl
attribute [go_sem] fd_47_4
theorem fa_47_5 (id off : Nat) : fieldAddrT Go.Proofs.Try.prog 47 (.ptr id off) 5 = some (.ptr id (off + 5)) := by kernel_rfl
attribute [go_sem] fa_47_5
theorem fd_47_5 (cs : List CV) : fieldT Go.Proofs.Try.prog 47 (.agg cs) 5 = partT Go.Proofs.Try.prog 4 cs 5 := by kernel_rfl
attribute [go_sem] fd_47_5
theorem sz_48 : szOf Go.Proofs.Try.prog 48 = some 6 := by kernel_rfl
attribute [go_sem] sz_48
theorem ld_48 (h : H) (id off : Nat) : loadT Go.Proofs.Try.prog h 48 id off = @thn _ _ (h.blk id) ⟨fun b => (b.loadN off 6).map .agg⟩ := by kernel_rfl
attribute [go_sem] ld_48
theorem st_48 (h : H) (id off : Nat) (v : CV) : storeT Go.Proofs.Try.prog h 48 id off v = @thn _ _ (h.blk id) ⟨fun b => cond (Nat.beq v.cells.length 6 && !b.ro) ((b.storeA off v.cells).map fun b' => h.put id (.cells b')) none⟩ := by kernel_rfl
attribute [go_sem] st_48
theorem part_48 (cs : List CV) (off : Nat) : partT Go.Proofs.Try.prog 48 cs off = some (.agg ((cs.drop off).take 6)) := by kernel_rfl
attribute [go_sem] part_48
theorem ze_48 : zeroT Go.Proofs.Try.prog 48 = some (.agg [.nils, .nilm, .bool false, .int .i64 0, .bool false, .bool false]) := by kernel_rfl
attribute [go_sem] ze_48
theorem bt_48 (parts : List (Nat × CV)) : buildT Go.Proofs.Try.prog 48 parts = finB (CV.cells (.agg [.nils, .nilm, .bool false, .int .i64 0, .bool false, .bool false])) (nth [(0, 1), (1, 1), (2, 1), (3, 1), (4, 1), (5, 1)]) parts := by kernel_rfl
attribute [go_sem] bt_48
theorem fa_48_0 (id off : Nat) : fieldAddrT Go.Proofs.Try.prog 48 (.ptr id off) 0 = some (.ptr id (off)) := by kernel_rfl
attribute [go_sem] fa_48_0
theorem fd_48_0 (cs : List CV) : fieldT Go.Proofs.Try.prog 48 (.agg cs) 0 = partT Go.Proofs.Try.prog 30 cs 0 := by kernel_rfl
attribute [go_sem] fd_48_0
theorem fa_48_1 (id off : Nat) : fieldAddrT Go.Proofs.Try.prog 48 (.ptr id off) 1 = some (.ptr id (off + 1)) := by kernel_rfl
attribute [go_sem] fa_48_1
theorem fd_48_1 (cs : List CV) : fieldT Go.Proofs.Try.prog 48 (.agg cs) 1 = partT Go.Proofs.Try.prog 46 cs 1 := by kernel_rfl
attribute [go_sem] fd_48_1
theorem fa_48_2 (id off : Nat) : fieldAddrT Go.Proofs.Try.prog 48 (.ptr id off) 2 = some (.ptr id (off + 2)) := by kernel_rfl
attribute [go_sem] fa_48_2
theorem fd_48_2 (cs : List CV) : fieldT Go.Proofs.Try.prog 48 (.agg cs) 2 = partT Go.Proofs.Try.prog 4 cs 2 := by kernel_rfl
attribute [go_sem] fd_48_2
theorem fa_48_3 (id off : Nat) : fieldAddrT Go.Proofs.Try.prog 48 (.ptr id off) 3 = some (.ptr id (off + 3)) := by kernel_rfl
attribute [go_sem] fa_48_3
theorem fd_48_3 (cs : List CV) : fieldT Go.Proofs.Try.prog 48 (.agg cs) 3 = partT Go.Proofs.Try.prog 3 cs 3 := by kernel_rfl
attribute [go_sem] fd_48_3
theorem fa_48_4 (id off : Nat) : fieldAddrT Go.Proofs.Try.prog 48 (.ptr id off) 4 = some (.ptr id (off + 4)) := by kernel_rfl
attribute [go_sem] fa_48_4
theorem fd_48_4 (cs : List CV) : fieldT Go.Proofs.Try.prog 48 (.agg cs) 4 = partT Go.Proofs.Try.prog 4 cs 4 := by kernel_rfl
attribute [go_sem] fd_48_4
theorem fa_48_5 (id off : Nat) : fieldAddrT Go.Proofs.Try.prog 48 (.ptr id off) 5 = some (.ptr id (off + 5)) := by kernel_rfl
attribute [go_sem] fa_48_5
theorem fd_48_5 (cs : List CV) : fieldT Go.Proofs.Try.prog 48 (.agg cs) 5 = partT Go.Proofs.Try.prog 4 cs 5 := by kernel_rfl
attribute [go_sem] fd_48_5
theorem sz_49 : szOf Go.Proofs.Try.prog 49 = some 1 := by kernel_rfl
attribute [go_sem] sz_49
theorem ld_49 (h : H) (id off : Nat) : loadT Go.Proofs.Try.prog h 49 id off = @thn _ _ (h.blk id) ⟨fun b => b.get off⟩ := by kernel_rfl
attribute [go_sem] ld_49
theorem st_49 (h : H) (id off : Nat) (v : CV) : storeT Go.Proofs.Try.prog h 49 id off v = @thn _ _ (h.blk id) ⟨fun b => cond (Nat.beq v.cells.length 1 && !b.ro) ((b.storeA off v.cells).map fun b' => h.put id (.cells b')) none⟩ := by kernel_rfl
attribute [go_sem] st_49
theorem part_49 (cs : List CV) (off : Nat) : partT Go.Proofs.Try.prog 49 cs off = nth cs off := by kernel_rfl
attribute [go_sem] part_49
theorem ze_49 : zeroT Go.Proofs.Try.prog 49 = some (.nilf) := by kernel_rfl
attribute [go_sem] ze_49
theorem eq_49 (xo yo : Operand) (f : Fn) (a b : List CV) : binT Go.Proofs.Try.prog .eql 49 xo yo (.fn f a b) .nilf = some (.bool false) := by kernel_rfl
attribute [go_sem] eq_49
theorem eq_49_n (xo yo : Operand) : binT Go.Proofs.Try.prog .eql 49 xo yo .nilf .nilf = some (.bool true) := by kernel_rfl
attribute [go_sem] eq_49_n
theorem ne_49 (xo yo : Operand) (f : Fn) (a b : List CV) : binT Go.Proofs.Try.prog .neq 49 xo yo (.fn f a b) .nilf = some (.bool true) := by kernel_rfl
attribute [go_sem] ne_49
theorem ne_49_n (xo yo : Operand) : binT Go.Proofs.Try.prog .neq 49 xo yo .nilf .nilf = some (.bool false) := by kernel_rfl
attribute [go_sem] ne_49_n
theorem sz_50 : szOf Go.Proofs.Try.prog 50 = some 1 := by kernel_rfl
attribute [go_sem] sz_50
theorem ld_50 (h : H) (id off : Nat) : loadT Go.Proofs.Try.prog h 50 id off = @thn _ _ (h.blk id) ⟨fun b => b.get off⟩ := by kernel_rfl
attribute [go_sem] ld_50
theorem st_50 (h : H) (id off : Nat) (v : CV) : storeT Go.Proofs.Try.prog h 50 id off v = @thn _ _ (h.blk id) ⟨fun b => cond (Nat.beq v.cells.length 1 && !b.ro) ((b.storeA off v.cells).map fun b' => h.put id (.cells b')) none⟩ := by kernel_rfl
attribute [go_sem] st_50
theorem part_50 (cs : List CV) (off : Nat) : partT Go.Proofs.Try.prog 50 cs off = nth cs off := by kernel_rfl
attribute [go_sem] part_50
theorem ze_50 : zeroT Go.Proofs.Try.prog 50 = some (.nilf) := by kernel_rfl
attribute [go_sem] ze_50
theorem eq_50 (xo yo : Operand) (f : Fn) (a b : List CV) : binT Go.Proofs.Try.prog .eql 50 xo yo (.fn f a b) .nilf = some (.bool false) := by kernel_rfl
attribute [go_sem] eq_50
theorem eq_50_n (xo yo : Operand) : binT Go.Proofs.Try.prog .eql 50 xo yo .nilf .nilf = some (.bool true) := by kernel_rfl
attribute [go_sem] eq_50_n
theorem ne_50 (xo yo : Operand) (f : Fn) (a b : List CV) : binT Go.Proofs.Try.prog .neq 50 xo yo (.fn f a b) .nilf = some (.bool true) := by kernel_rfl
attribute [go_sem] ne_50
theorem ne_50_n (xo yo : Operand) : binT Go.Proofs.Try.prog .neq 50 xo yo .nilf .nilf = some (.bool false) := by kernel_rfl
attribute [go_sem] ne_50_n
theorem sz_51 : szOf Go.Proofs.Try.prog 51 = some 1 := by kernel_rfl
attribute [go_sem] sz_51
theorem ld_51 (h : H) (id off : Nat) : loadT Go.Proofs.Try.prog h 51 id off = @thn _ _ (h.blk id) ⟨fun b => b.get off⟩ := by kernel_rfl
attribute [go_sem] ld_51
theorem st_51 (h : H) (id off : Nat) (v : CV) : storeT Go.Proofs.Try.prog h 51 id off v = @thn _ _ (h.blk id) ⟨fun b => cond (Nat.beq v.cells.length 1 && !b.ro) ((b.storeA off v.cells).map fun b' => h.put id (.cells b')) none⟩ := by kernel_rfl
attribute [go_sem] st_51
theorem part_51 (cs : List CV) (off : Nat) : partT Go.Proofs.Try.prog 51 cs off = nth cs off := by kernel_rfl
attribute [go_sem] part_51
theorem ze_51 : zeroT Go.Proofs.Try.prog 51 = some (.nilf) := by kernel_rfl
attribute [go_sem] ze_51
theorem eq_51 (xo yo : Operand) (f : Fn) (a b : List CV) : binT Go.Proofs.Try.prog .eql 51 xo yo (.fn f a b) .nilf = some (.bool false) := by kernel_rfl
attribute [go_sem] eq_51
theorem eq_51_n (xo yo : Operand) : binT Go.Proofs.Try.prog .eql 51 xo yo .nilf .nilf = some (.bool true) := by kernel_rfl
attribute [go_sem] eq_51_n
theorem ne_51 (xo yo : Operand) (f : Fn) (a b : List CV) : binT Go.Proofs.Try.prog .neq 51 xo yo (.fn f a b) .nilf = some (.bool true) := by kernel_rfl
attribute [go_sem] ne_51
theorem ne_51_n (xo yo : Operand) : binT Go.Proofs.Try.prog .neq 51 xo yo .nilf .nilf = some (.bool false) := by kernel_rfl
attribute [go_sem] ne_51_n
theorem sz_52 : szOf Go.Proofs.Try.prog 52 = some 1 := by kernel_rfl
attribute [go_sem] sz_52
theorem ld_52 (h : H) (id off : Nat) : loadT Go.Proofs.Try.prog h 52 id off = @thn _ _ (h.blk id) ⟨fun b => b.get off⟩ := by kernel_rfl
attribute [go_sem] ld_52
theorem st_52 (h : H) (id off : Nat) (v : CV) : storeT Go.Proofs.Try.prog h 52 id off v = @thn _ _ (h.blk id) ⟨fun b => cond (Nat.beq v.cells.length 1 && !b.ro) ((b.storeA off v.cells).map fun b' => h.put id (.cells b')) none⟩ := by kernel_rfl
attribute [go_sem] st_52
theorem part_52 (cs : List CV) (off : Nat) : partT Go.Proofs.Try.prog 52 cs off = nth cs off := by kernel_rfl
attribute [go_sem] part_52
theorem ze_52 : zeroT Go.Proofs.Try.prog 52 = some (.nilf) := by kernel_rfl
attribute [go_sem] ze_52
theorem eq_52 (xo yo : Operand) (f : Fn) (a b : List CV) : binT Go.Proofs.Try.prog .eql 52 xo yo (.fn f a b) .nilf = some (.bool false) := by kernel_rfl
attribute [go_sem] eq_52
theorem eq_52_n (xo yo : Operand) : binT Go.Proofs.Try.prog .eql 52 xo yo .nilf .nilf = some (.bool true) := by kernel_rfl
attribute [go_sem] eq_52_n
theorem ne_52 (xo yo : Operand) (f : Fn) (a b : List CV) : binT Go.Proofs.Try.prog .neq 52 xo yo (.fn f a b) .nilf = some (.bool true) := by kernel_rfl
attribute [go_sem] ne_52
theorem ne_52_n (xo yo : Operand) : binT Go.Proofs.Try.prog .neq 52 xo yo .nilf .nilf = some (.bool false) := by kernel_rfl
attribute [go_sem] ne_52_n
theorem sz_53 : szOf Go.Proofs.Try.prog 53 = some 1 := by kernel_rfl
attribute [go_sem] sz_53
theorem ld_53 (h : H) (id off : Nat) : loadT Go.Proofs.Try.prog h 53 id off = @thn _ _ (h.blk id) ⟨fun b => b.get off⟩ := by kernel_rfl
attribute [go_sem] ld_53
theorem st_53 (h : H) (id off : Nat) (v : CV) : storeT Go.Proofs.Try.prog h 53 id off v = @thn _ _ (h.blk id) ⟨fun b => cond (Nat.beq v.cells.length 1 && !b.ro) ((b.storeA off v.cells).map fun b' => h.put id (.cells b')) none⟩ := by kernel_rfl
attribute [go_sem] st_53
theorem part_53 (cs : List CV) (off : Nat) : partT Go.Proofs.Try.prog 53 cs off = nth cs off := by kernel_rfl
attribute [go_sem] part_53
theorem ze_53 : zeroT Go.Proofs.Try.prog 53 = some (.nilf) := by kernel_rfl
attribute [go_sem] ze_53
theorem eq_53 (xo yo : Operand) (f : Fn) (a b : List CV) : binT Go.Proofs.Try.prog .eql 53 xo yo (.fn f a b) .nilf = some (.bool false) := by kernel_rfl
attribute [go_sem] eq_53
theorem eq_53_n (xo yo : Operand) : binT Go.Proofs.Try.prog .eql 53 xo yo .nilf .nilf = some (.bool true) := by kernel_rfl
attribute [go_sem] eq_53_n
theorem ne_53 (xo yo : Operand) (f : Fn) (a b : List CV) : binT Go.Proofs.Try.prog .neq 53 xo yo (.fn f a b) .nilf = some (.bool true) := by kernel_rfl
attribute [go_sem] ne_53
theorem ne_53_n (xo yo : Operand) : binT Go.Proofs.Try.prog .neq 53 xo yo .nilf .nilf = some (.bool false) := by kernel_rfl
attribute [go_sem] ne_53_n
theorem sz_54 : szOf Go.Proofs.Try.prog 54 = some 1 := by kernel_rfl
attribute [go_sem] sz_54
theorem ld_54 (h : H) (id off : Nat) : loadT Go.Proofs.Try.prog h 54 id off = @thn _ _ (h.blk id) ⟨fun b => b.get off⟩ := by kernel_rfl
attribute [go_sem] ld_54
theorem st_54 (h : H) (id off : Nat) (v : CV) : storeT Go.Proofs.Try.prog h 54 id off v = @thn _ _ (h.blk id) ⟨fun b => cond (Nat.beq v.cells.length 1 && !b.ro) ((b.storeA off v.cells).map fun b' => h.put id (.cells b')) none⟩ := by kernel_rfl
attribute [go_sem] st_54
theorem part_54 (cs : List CV) (off : Nat) : partT Go.Proofs.Try.prog 54 cs off = nth cs off := by kernel_rfl
attribute [go_sem] part_54
theorem ze_54 : zeroT Go.Proofs.Try.prog 54 = some (.nilf) := by kernel_rfl
attribute [go_sem] ze_54
theorem eq_54 (xo yo : Operand) (f : Fn) (a b : List CV) : binT Go.Proofs.Try.prog .eql 54 xo yo (.fn f a b) .nilf = some (.bool false) := by kernel_rfl
attribute [go_sem] eq_54
theorem eq_54_n (xo yo : Operand) : binT Go.Proofs.Try.prog .eql 54 xo yo .nilf .nilf = some (.bool true) := by kernel_rfl
attribute [go_sem] eq_54_n
theorem ne_54 (xo yo : Operand) (f : Fn) (a b : List CV) : binT Go.Proofs.Try.prog .neq 54 xo yo (.fn f a b) .nilf = some (.bool true) := by kernel_rfl
attribute [go_sem] ne_54
theorem ne_54_n (xo yo : Operand) : binT Go.Proofs.Try.prog .neq 54 xo yo .nilf .nilf = some (.bool false) := by kernel_rfl
attribute [go_sem] ne_54_n
theorem sz_55 : szOf Go.Proofs.Try.prog 55 = some 1 := by kernel_rfl
attribute [go_sem] sz_55
theorem ld_55 (h : H) (id off : Nat) : loadT Go.Proofs.Try.prog h 55 id off = @thn _ _ (h.blk id) ⟨fun b => b.get off⟩ := by kernel_rfl
attribute [go_sem] ld_55
theorem st_55 (h : H) (id off : Nat) (v : CV) : storeT Go.Proofs.Try.prog h 55 id off v = @thn _ _ (h.blk id) ⟨fun b => cond (Nat.beq v.cells.length 1 && !b.ro) ((b.storeA off v.cells).map fun b' => h.put id (.cells b')) none⟩ := by kernel_rfl
attribute [go_sem] st_55
theorem part_55 (cs : List CV) (off : Nat) : partT Go.Proofs.Try.prog 55 cs off = nth cs off := by kernel_rfl
attribute [go_sem] part_55
theorem ze_55 : zeroT Go.Proofs.Try.prog 55 = some (.nilf) := by kernel_rfl
attribute [go_sem] ze_55
theorem eq_55 (xo yo : Operand) (f : Fn) (a b : List CV) : binT Go.Proofs.Try.prog .eql 55 xo yo (.fn f a b) .nilf = some (.bool false) := by kernel_rfl
attribute [go_sem] eq_55
theorem eq_55_n (xo yo : Operand) : binT Go.Proofs.Try.prog .eql 55 xo yo .nilf .nilf = some (.bool true) := by kernel_rfl
attribute [go_sem] eq_55_n
theorem ne_55 (xo yo : Operand) (f : Fn) (a b : List CV) : binT Go.Proofs.Try.prog .neq 55 xo yo (.fn f a b) .nilf = some (.bool true) := by kernel_rfl
attribute [go_sem] ne_55
theorem ne_55_n (xo yo : Operand) : binT Go.Proofs.Try.prog .neq 55 xo yo .nilf .nilf = some (.bool false) := by kernel_rfl
attribute [go_sem] ne_55_n
theorem sz_56 : szOf Go.Proofs.Try.prog 56 = some 1 := by kernel_rfl
attribute [go_sem] sz_56
theorem ld_56 (h : H) (id off : Nat) : loadT Go.Proofs.Try.prog h 56 id off = @thn _ _ (h.blk id) ⟨fun b => b.get off⟩ := by kernel_rfl
attribute [go_sem] ld_56
theorem st_56 (h : H) (id off : Nat) (v : CV) : storeT Go.Proofs.Try.prog h 56 id off v = @thn _ _ (h.blk id) ⟨fun b => cond (Nat.beq v.cells.length 1 && !b.ro) ((b.storeA off v.cells).map fun b' => h.put id (.cells b')) none⟩ := by kernel_rfl
attribute [go_sem] st_56
theorem part_56 (cs : List CV) (off : Nat) : partT Go.Proofs.Try.prog 56 cs off = nth cs off := by kernel_rfl
attribute [go_sem] part_56
theorem ze_56 : zeroT Go.Proofs.Try.prog 56 = some (.nilf) := by kernel_rfl
attribute [go_sem] ze_56
theorem eq_56 (xo yo : Operand) (f : Fn) (a b : List CV) : binT Go.Proofs.Try.prog .eql 56 xo yo (.fn f a b) .nilf = some (.bool false) := by kernel_rfl
attribute [go_sem] eq_56
theorem eq_56_n (xo yo : Operand) : binT Go.Proofs.Try.prog .eql 56 xo yo .nilf .nilf = some (.bool true) := by kernel_rfl
attribute [go_sem] eq_56_n
theorem ne_56 (xo yo : Operand) (f : Fn) (a b : List CV) : binT Go.Proofs.Try.prog .neq 56 xo yo (.fn f a b) .nilf = some (.bool true) := by kernel_rfl
attribute [go_sem] ne_56
theorem ne_56_n (xo yo : Operand) : binT Go.Proofs.Try.prog .neq 56 xo yo .nilf .nilf = some (.bool false) := by kernel_rfl
attribute [go_sem] ne_56_n
theorem sz_57 : szOf Go.Proofs.Try.prog 57 = some 1 := by kernel_rfl
attribute [go_sem] sz_57
theorem ld_57 (h : H) (id off : Nat) : loadT Go.Proofs.Try.prog h 57 id off = @thn _ _ (h.blk id) ⟨fun b => b.get off⟩ := by kernel_rfl
attribute [go_sem] ld_57
theorem st_57 (h : H) (id off : Nat) (v : CV) : storeT Go.Proofs.Try.prog h 57 id off v = @thn _ _ (h.blk id) ⟨fun b => cond (Nat.beq v.cells.length 1 && !b.ro) ((b.storeA off v.cells).map fun b' => h.put id (.cells b')) none⟩ := by kernel_rfl
attribute [go_sem] st_57
theorem part_57 (cs : List CV) (off : Nat) : partT Go.Proofs.Try.prog 57 cs off = nth cs off := by kernel_rfl
attribute [go_sem] part_57
theorem ze_57 : zeroT Go.Proofs.Try.prog 57 = some (.nilf) := by kernel_rfl
attribute [go_sem] ze_57
theorem eq_57 (xo yo : Operand) (f : Fn) (a b : List CV) : binT Go.Proofs.Try.prog .eql 57 xo yo (.fn f a b) .nilf = some (.bool false) := by kernel_rfl
attribute [go_sem] eq_57
theorem eq_57_n (xo yo : Operand) : binT Go.Proofs.Try.prog .eql 57 xo yo .nilf .nilf = some (.bool true) := by kernel_rfl
attribute [go_sem] eq_57_n
theorem ne_57 (xo yo : Operand) (f : Fn) (a b : List CV) : binT Go.Proofs.Try.prog .neq 57 xo yo (.fn f a b) .nilf = some (.bool true) := by kernel_rfl
attribute [go_sem] ne_57
theorem ne_57_n (xo yo : Operand) : binT Go.Proofs.Try.prog .neq 57 xo yo .nilf .nilf = some (.bool false) := by kernel_rfl
attribute [go_sem] ne_57_n
theorem sz_58 : szOf Go.Proofs.Try.prog 58 = some 1 := by kernel_rfl
attribute [go_sem] sz_58
theorem ld_58 (h : H) (id off : Nat) : loadT Go.Proofs.Try.prog h 58 id off = @thn _ _ (h.blk id) ⟨fun b => b.get off⟩ := by kernel_rfl
attribute [go_sem] ld_58
theorem st_58 (h : H) (id off : Nat) (v : CV) : storeT Go.Proofs.Try.prog h 58 id off v = @thn _ _ (h.blk id) ⟨fun b => cond (Nat.beq v.cells.length 1 && !b.ro) ((b.storeA off v.cells).map fun b' => h.put id (.cells b')) none⟩ := by kernel_rfl
attribute [go_sem] st_58
theorem part_58 (cs : List CV) (off : Nat) : partT Go.Proofs.Try.prog 58 cs off = nth cs off := by kernel_rfl
attribute [go_sem] part_58
theorem ze_58 : zeroT Go.Proofs.Try.prog 58 = some (.nilf) := by kernel_rfl
attribute [go_sem] ze_58
theorem eq_58 (xo yo : Operand) (f : Fn) (a b : List CV) : binT Go.Proofs.Try.prog .eql 58 xo yo (.fn f a b) .nilf = some (.bool false) := by kernel_rfl
attribute [go_sem] eq_58
theorem eq_58_n (xo yo : Operand) : binT Go.Proofs.Try.prog .eql 58 xo yo .nilf .nilf = some (.bool true) := by kernel_rfl
attribute [go_sem] eq_58_n
theorem ne_58 (xo yo : Operand) (f : Fn) (a b : List CV) : binT Go.Proofs.Try.prog .neq 58 xo yo (.fn f a b) .nilf = some (.bool true) := by kernel_rfl
attribute [go_sem] ne_58
theorem ne_58_n (xo yo : Operand) : binT Go.Proofs.Try.prog .neq 58 xo yo .nilf .nilf = some (.bool false) := by kernel_rfl
attribute [go_sem] ne_58_n
theorem sz_59 : szOf Go.Proofs.Try.prog 59 = some 1 := by kernel_rfl
attribute [go_sem] sz_59
theorem ld_59 (h : H) (id off : Nat) : loadT Go.Proofs.Try.prog h 59 id off = @thn _ _ (h.blk id) ⟨fun b => b.get off⟩ := by kernel_rfl
attribute [go_sem] ld_59
theorem st_59 (h : H) (id off : Nat) (v : CV) : storeT Go.Proofs.Try.prog h 59 id off v = @thn _ _ (h.blk id) ⟨fun b => cond (Nat.beq v.cells.length 1 && !b.ro) ((b.storeA off v.cells).map fun b' => h.put id (.cells b')) none⟩ := by kernel_rfl
attribute [go_sem] st_59
theorem part_59 (cs : List CV) (off : Nat) : partT Go.Proofs.Try.prog 59 cs off = nth cs off := by kernel_rfl
attribute [go_sem] part_59
theorem ze_59 : zeroT Go.Proofs.Try.prog 59 = some (.nilf) := by kernel_rfl
attribute [go_sem] ze_59
theorem eq_59 (xo yo : Operand) (f : Fn) (a b : List CV) : binT Go.Proofs.Try.prog .eql 59 xo yo (.fn f a b) .nilf = some (.bool false) := by kernel_rfl
attribute [go_sem] eq_59
theorem eq_59_n (xo yo : Operand) : binT Go.Proofs.Try.prog .eql 59 xo yo .nilf .nilf = some (.bool true) := by kernel_rfl
attribute [go_sem] eq_59_n
theorem ne_59 (xo yo : Operand) (f : Fn) (a b : List CV) : binT Go.Proofs.Try.prog .neq 59 xo yo (.fn f a b) .nilf = some (.bool true) := by kernel_rfl
attribute [go_sem] ne_59
theorem ne_59_n (xo yo : Operand) : binT Go.Proofs.Try.prog .neq 59 xo yo .nilf .nilf = some (.bool false) := by kernel_rfl
attribute [go_sem] ne_59_n
theorem sz_60 : szOf Go.Proofs.Try.prog 60 = some 1 := by kernel_rfl
attribute [go_sem] sz_60
theorem ld_60 (h : H) (id off : Nat) : loadT Go.Proofs.Try.prog h 60 id off = @thn _ _ (h.blk id) ⟨fun b => b.get off⟩ := by kernel_rfl
attribute [go_sem] ld_60
theorem st_60 (h : H) (id off : Nat) (v : CV) : storeT Go.Proofs.Try.prog h 60 id off v = @thn _ _ (h.blk id) ⟨fun b => cond (Nat.beq v.cells.length 1 && !b.ro) ((b.storeA off v.cells).map fun b' => h.put id (.cells b')) none⟩ := by kernel_rfl
attribute [go_sem] st_60
theorem part_60 (cs : List CV) (off : Nat) : partT Go.Proofs.Try.prog 60 cs off = nth cs off := by kernel_rfl
attribute [go_sem] part_60
theorem ze_60 : zeroT Go.Proofs.Try.prog 60 = some (.nilf) := by kernel_rfl
attribute [go_sem] ze_60
theorem eq_60 (xo yo : Operand) (f : Fn) (a b : List CV) : binT Go.Proofs.Try.prog .eql 60 xo yo (.fn f a b) .nilf = some (.bool false) := by kernel_rfl
attribute [go_sem] eq_60
theorem eq_60_n (xo yo : Operand) : binT Go.Proofs.Try.prog .eql 60 xo yo .nilf .nilf = some (.bool true) := by kernel_rfl
attribute [go_sem] eq_60_n
theorem ne_60 (xo yo : Operand) (f : Fn) (a b : List CV) : binT Go.Proofs.Try.prog .neq 60 xo yo (.fn f a b) .nilf = some (.bool true) := by kernel_rfl
attribute [go_sem] ne_60
theorem ne_60_n (xo yo : Operand) : binT Go.Proofs.Try.prog .neq 60 xo yo .nilf .nilf = some (.bool false) := by kernel_rfl
attribute [go_sem] ne_60_n
theorem sz_61 : szOf Go.Proofs.Try.prog 61 = some 1 := by kernel_rfl
attribute [go_sem] sz_61
theorem ld_61 (h : H) (id off : Nat) : loadT Go.Proofs.Try.prog h 61 id off = @thn _ _ (h.blk id) ⟨fun b => b.get off⟩ := by kernel_rfl
attribute [go_sem] ld_61
theorem st_61 (h : H) (id off : Nat) (v : CV) : storeT Go.Proofs.Try.prog h 61 id off v = @thn _ _ (h.blk id) ⟨fun b => cond (Nat.beq v.cells.length 1 && !b.ro) ((b.storeA off v.cells).map fun b' => h.put id (.cells b')) none⟩ := by kernel_rfl
attribute [go_sem] st_61
theorem part_61 (cs : List CV) (off : Nat) : partT Go.Proofs.Try.prog 61 cs off = nth cs off := by kernel_rfl
attribute [go_sem] part_61
theorem ze_61 : zeroT Go.Proofs.Try.prog 61 = some (.nilf) := by kernel_rfl
attribute [go_sem] ze_61
theorem eq_61 (xo yo : Operand) (f : Fn) (a b : List CV) : binT Go.Proofs.Try.prog .eql 61 xo yo (.fn f a b) .nilf = some (.bool false) := by kernel_rfl
attribute [go_sem] eq_61
theorem eq_61_n (xo yo : Operand) : binT Go.Proofs.Try.prog .eql 61 xo yo .nilf .nilf = some (.bool true) := by kernel_rfl
attribute [go_sem] eq_61_n
theorem ne_61 (xo yo : Operand) (f : Fn) (a b : List CV) : binT Go.Proofs.Try.prog .neq 61 xo yo (.fn f a b) .nilf = some (.bool true) := by kernel_rfl
attribute [go_sem] ne_61
theorem ne_61_n (xo yo : Operand) : binT Go.Proofs.Try.prog .neq 61 xo yo .nilf .nilf = some (.bool false) := by kernel_rfl
attribute [go_sem] ne_61_n
theorem sz_62 : szOf Go.Proofs.Try.prog 62 = some 1 := by kernel_rfl
attribute [go_sem] sz_62
theorem ld_62 (h : H) (id off : Nat) : loadT Go.Proofs.Try.prog h 62 id off = @thn _ _ (h.blk id) ⟨fun b => b.get off⟩ := by kernel_rfl
attribute [go_sem] ld_62
theorem st_62 (h : H) (id off : Nat) (v : CV) : storeT Go.Proofs.Try.prog h 62 id off v = @thn _ _ (h.blk id) ⟨fun b => cond (Nat.beq v.cells.length 1 && !b.ro) ((b.storeA off v.cells).map fun b' => h.put id (.cells b')) none⟩ := by kernel_rfl
attribute [go_sem] st_62
theorem part_62 (cs : List CV) (off : Nat) : partT Go.Proofs.Try.prog 62 cs off = nth cs off := by kernel_rfl
attribute [go_sem] part_62
theorem ze_62 : zeroT Go.Proofs.Try.prog 62 = some (.nilf) := by kernel_rfl
attribute [go_sem] ze_62
theorem eq_62 (xo yo : Operand) (f : Fn) (a b : List CV) : binT Go.Proofs.Try.prog .eql 62 xo yo (.fn f a b) .nilf = some (.bool false) := by kernel_rfl
attribute [go_sem] eq_62
theorem eq_62_n (xo yo : Operand) : binT Go.Proofs.Try.prog .eql 62 xo yo .nilf .nilf = some (.bool true) := by kernel_rfl
attribute [go_sem] eq_62_n
theorem ne_62 (xo yo : Operand) (f : Fn) (a b : List CV) : binT Go.Proofs.Try.prog .neq 62 xo yo (.fn f a b) .nilf = some (.bool true) := by kernel_rfl
attribute [go_sem] ne_62
theorem ne_62_n (xo yo : Operand) : binT Go.Proofs.Try.prog .neq 62 xo yo .nilf .nilf = some (.bool false) := by kernel_rfl
attribute [go_sem] ne_62_n
theorem sz_63 : szOf Go.Proofs.Try.prog 63 = some 1 := by kernel_rfl
attribute [go_sem] sz_63
theorem ld_63 (h : H) (id off : Nat) : loadT Go.Proofs.Try.prog h 63 id off = @thn _ _ (h.blk id) ⟨fun b => b.get off⟩ := by kernel_rfl
attribute [go_sem] ld_63
theorem st_63 (h : H) (id off : Nat) (v : CV) : storeT Go.Proofs.Try.prog h 63 id off v = @thn _ _ (h.blk id) ⟨fun b => cond (Nat.beq v.cells.length 1 && !b.ro) ((b.storeA off v.cells).map fun b' => h.put id (.cells b')) none⟩ := by kernel_rfl
attribute [go_sem] st_63
theorem part_63 (cs : List CV) (off : Nat) : partT Go.Proofs.Try.prog 63 cs off = nth cs off := by kernel_rfl
attribute [go_sem] part_63
theorem ze_63 : zeroT Go.Proofs.Try.prog 63 = some (.nilf) := by kernel_rfl
attribute [go_sem] ze_63
theorem eq_63 (xo yo : Operand) (f : Fn) (a b : List CV) : binT Go.Proofs.Try.prog .eql 63 xo yo (.fn f a b) .nilf = some (.bool false) := by kernel_rfl
attribute [go_sem] eq_63
theorem eq_63_n (xo yo : Operand) : binT Go.Proofs.Try.prog .eql 63 xo yo .nilf .nilf = some (.bool true) := by kernel_rfl
attribute [go_sem] eq_63_n
theorem ne_63 (xo yo : Operand) (f : Fn) (a b : List CV) : binT Go.Proofs.Try.prog .neq 63 xo yo (.fn f a b) .nilf = some (.bool true) := by kernel_rfl
attribute [go_sem] ne_63
theorem ne_63_n (xo yo : Operand) : binT Go.Proofs.Try.prog .neq 63 xo yo .nilf .nilf = some (.bool false) := by kernel_rfl
attribute [go_sem] ne_63_n
theorem sz_64 : szOf Go.Proofs.Try.prog 64 = some 1 := by kernel_rfl
attribute [go_sem] sz_64
theorem ld_64 (h : H) (id off : Nat) : loadT Go.Proofs.Try.prog h 64 id off = @thn _ _ (h.blk id) ⟨fun b => b.get off⟩ := by kernel_rfl
attribute [go_sem] ld_64
theorem st_64 (h : H) (id off : Nat) (v : CV) : storeT Go.Proofs.Try.prog h 64 id off v = @thn _ _ (h.blk id) ⟨fun b => cond (Nat.beq v.cells.length 1 && !b.ro) ((b.storeA off v.cells).map fun b' => h.put id (.cells b')) none⟩ := by kernel_rfl
attribute [go_sem] st_64
theorem part_64 (cs : List CV) (off : Nat) : partT Go.Proofs.Try.prog 64 cs off = nth cs off := by kernel_rfl
attribute [go_sem] part_64
theorem ze_64 : zeroT Go.Proofs.Try.prog 64 = some (.nilf) := by kernel_rfl
attribute [go_sem] ze_64
theorem eq_64 (xo yo : Operand) (f : Fn) (a b : List CV) : binT Go.Proofs.Try.prog .eql 64 xo yo (.fn f a b) .nilf = some (.bool false) := by kernel_rfl
attribute [go_sem] eq_64
theorem eq_64_n (xo yo : Operand) : binT Go.Proofs.Try.prog .eql 64 xo yo .nilf .nilf = some (.bool true) := by kernel_rfl
attribute [go_sem] eq_64_n
theorem ne_64 (xo yo : Operand) (f : Fn) (a b : List CV) : binT Go.Proofs.Try.prog .neq 64 xo yo (.fn f a b) .nilf = some (.bool true) := by kernel_rfl
attribute [go_sem] ne_64
theorem ne_64_n (xo yo : Operand) : binT Go.Proofs.Try.prog .neq 64 xo yo .nilf .nilf = some (.bool false) := by kernel_rfl
attribute [go_sem] ne_64_n
theorem sz_65 : szOf Go.Proofs.Try.prog 65 = some 1 := by kernel_rfl
attribute [go_sem] sz_65
theorem ld_65 (h : H) (id off : Nat) : loadT Go.Proofs.Try.prog h 65 id off = @thn _ _ (h.blk id) ⟨fun b => b.get off⟩ := by kernel_rfl
attribute [go_sem] ld_65
theorem st_65 (h : H) (id off : Nat) (v : CV) : storeT Go.Proofs.Try.prog h 65 id off v = @thn _ _ (h.blk id) ⟨fun b => cond (Nat.beq v.cells.length 1 && !b.ro) ((b.storeA off v.cells).map fun b' => h.put id (.cells b')) none⟩ := by kernel_rfl
attribute [go_sem] st_65
theorem part_65 (cs : List CV) (off : Nat) : partT Go.Proofs.Try.prog 65 cs off = nth cs off := by kernel_rfl
attribute [go_sem] part_65
theorem ze_65 : zeroT Go.Proofs.Try.prog 65 = some (.int .u64 0) := by kernel_rfl
attribute [go_sem] ze_65
theorem sz_66 : szOf Go.Proofs.Try.prog 66 = some 1 := by kernel_rfl
attribute [go_sem] sz_66
theorem ld_66 (h : H) (id off : Nat) : loadT Go.Proofs.Try.prog h 66 id off = @thn _ _ (h.blk id) ⟨fun b => b.get off⟩ := by kernel_rfl
attribute [go_sem] ld_66
theorem st_66 (h : H) (id off : Nat) (v : CV) : storeT Go.Proofs.Try.prog h 66 id off v = @thn _ _ (h.blk id) ⟨fun b => cond (Nat.beq v.cells.length 1 && !b.ro) ((b.storeA off v.cells).map fun b' => h.put id (.cells b')) none⟩ := by kernel_rfl
attribute [go_sem] st_66
theorem part_66 (cs : List CV) (off : Nat) : partT Go.Proofs.Try.prog 66 cs off = nth cs off := by kernel_rfl
attribute [go_sem] part_66
theorem ze_66 : zeroT Go.Proofs.Try.prog 66 = some (.nilf) := by kernel_rfl
attribute [go_sem] ze_66
theorem eq_66 (xo yo : Operand) (f : Fn) (a b : List CV) : binT Go.Proofs.Try.prog .eql 66 xo yo (.fn f a b) .nilf = some (.bool false) := by kernel_rfl
attribute [go_sem] eq_66
theorem eq_66_n (xo yo : Operand) : binT Go.Proofs.Try.prog .eql 66 xo yo .nilf .nilf = some (.bool true) := by kernel_rfl
attribute [go_sem] eq_66_n
theorem ne_66 (xo yo : Operand) (f : Fn) (a b : List CV) : binT Go.Proofs.Try.prog .neq 66 xo yo (.fn f a b) .nilf = some (.bool true) := by kernel_rfl
attribute [go_sem] ne_66
theorem ne_66_n (xo yo : Operand) : binT Go.Proofs.Try.prog .neq 66 xo yo .nilf .nilf = some (.bool false) := by kernel_rfl
attribute [go_sem] ne_66_n
theorem sz_67 : szOf Go.Proofs.Try.prog 67 = some 1 := by kernel_rfl
attribute [go_sem] sz_67
theorem ld_67 (h : H) (id off : Nat) : loadT Go.Proofs.Try.prog h 67 id off = @thn _ _ (h.blk id) ⟨fun b => b.get off⟩ := by kernel_rfl
attribute [go_sem] ld_67
theorem st_67 (h : H) (id off : Nat) (v : CV) : storeT Go.Proofs.Try.prog h 67 id off v = @thn _ _ (h.blk id) ⟨fun b => cond (Nat.beq v.cells.length 1 && !b.ro) ((b.storeA off v.cells).map fun b' => h.put id (.cells b')) none⟩ := by kernel_rfl
attribute [go_sem] st_67
theorem part_67 (cs : List CV) (off : Nat) : partT Go.Proofs.Try.prog 67 cs off = nth cs off := by kernel_rfl
attribute [go_sem] part_67
theorem ze_67 : zeroT Go.Proofs.Try.prog 67 = some (.int .i64 0) := by kernel_rfl
attribute [go_sem] ze_67
theorem sz_68 : szOf Go.Proofs.Try.prog 68 = some 1 := by kernel_rfl
attribute [go_sem] sz_68
theorem ld_68 (h : H) (id off : Nat) : loadT Go.Proofs.Try.prog h 68 id off = @thn _ _ (h.blk id) ⟨fun b => b.get off⟩ := by kernel_rfl
attribute [go_sem] ld_68
theorem st_68 (h : H) (id off : Nat) (v : CV) : storeT Go.Proofs.Try.prog h 68 id off v = @thn _ _ (h.blk id) ⟨fun b => cond (Nat.beq v.cells.length 1 && !b.ro) ((b.storeA off v.cells).map fun b' => h.put id (.cells b')) none⟩ := by kernel_rfl
attribute [go_sem] st_68
theorem part_68 (cs : List CV) (off : Nat) : partT Go.Proofs.Try.prog 68 cs off = nth cs off := by kernel_rfl
attribute [go_sem] part_68
theorem sz_69 : szOf Go.Proofs.Try.prog 69 = some 1 := by kernel_rfl
attribute [go_sem] sz_69
theorem ld_69 (h : H) (id off : Nat) : loadT Go.Proofs.Try.prog h 69 id off = @thn _ _ (h.blk id) ⟨fun b => b.get off⟩ := by kernel_rfl
attribute [go_sem] ld_69
theorem st_69 (h : H) (id off : Nat) (v : CV) : storeT Go.Proofs.Try.prog h 69 id off v = @thn _ _ (h.blk id) ⟨fun b => cond (Nat.beq v.cells.length 1 && !b.ro) ((b.storeA off v.cells).map fun b' => h.put id (.cells b')) none⟩ := by kernel_rfl
attribute [go_sem] st_69
theorem part_69 (cs : List CV) (off : Nat) : partT Go.Proofs.Try.prog 69 cs off = nth cs off := by kernel_rfl
attribute [go_sem] part_69
theorem ze_69 : zeroT Go.Proofs.Try.prog 69 = some (.nilf) := by kernel_rfl
attribute [go_sem] ze_69
theorem eq_69 (xo yo : Operand) (f : Fn) (a b : List CV) : binT Go.Proofs.Try.prog .eql 69 xo yo (.fn f a b) .nilf = some (.bool false) := by kernel_rfl
attribute [go_sem] eq_69
theorem eq_69_n (xo yo : Operand) : binT Go.Proofs.Try.prog .eql 69 xo yo .nilf .nilf = some (.bool true) := by kernel_rfl
attribute [go_sem] eq_69_n
theorem ne_69 (xo yo : Operand) (f : Fn) (a b : List CV) : binT Go.Proofs.Try.prog .neq 69 xo yo (.fn f a b) .nilf = some (.bool true) := by kernel_rfl
attribute [go_sem] ne_69
theorem ne_69_n (xo yo : Operand) : binT Go.Proofs.Try.prog .neq 69 xo yo .nilf .nilf = some (.bool false) := by kernel_rfl
attribute [go_sem] ne_69_n
theorem sz_70 : szOf Go.Proofs.Try.prog 70 = some 1 := by kernel_rfl
attribute [go_sem] sz_70
theorem ld_70 (h : H) (id off : Nat) : loadT Go.Proofs.Try.prog h 70 id off = @thn _ _ (h.blk id) ⟨fun b => b.get off⟩ := by kernel_rfl
attribute [go_sem] ld_70
theorem st_70 (h : H) (id off : Nat) (v : CV) : storeT Go.Proofs.Try.prog h 70 id off v = @thn _ _ (h.blk id) ⟨fun b => cond (Nat.beq v.cells.length 1 && !b.ro) ((b.storeA off v.cells).map fun b' => h.put id (.cells b')) none⟩ := by kernel_rfl
attribute [go_sem] st_70
theorem part_70 (cs : List CV) (off : Nat) : partT Go.Proofs.Try.prog 70 cs off = nth cs off := by kernel_rfl
attribute [go_sem] part_70
theorem ze_70 : zeroT Go.Proofs.Try.prog 70 = some (.nilf) := by kernel_rfl
attribute [go_sem] ze_70
theorem eq_70 (xo yo : Operand) (f : Fn) (a b : List CV) : binT Go.Proofs.Try.prog .eql 70 xo yo (.fn f a b) .nilf = some (.bool false) := by kernel_rfl
attribute [go_sem] eq_70
theorem eq_70_n (xo yo : Operand) : binT Go.Proofs.Try.prog .eql 70 xo yo .nilf .nilf = some (.bool true) := by kernel_rfl
attribute [go_sem] eq_70_n
theorem ne_70 (xo yo : Operand) (f : Fn) (a b : List CV) : binT Go.Proofs.Try.prog .neq 70 xo yo (.fn f a b) .nilf = some (.bool true) := by kernel_rfl
attribute [go_sem] ne_70
theorem ne_70_n (xo yo : Operand) : binT Go.Proofs.Try.prog .neq 70 xo yo .nilf .nilf = some (.bool false) := by kernel_rfl
attribute [go_sem] ne_70_n
theorem sz_71 : szOf Go.Proofs.Try.prog 71 = some 1 := by kernel_rfl
attribute [go_sem] sz_71
theorem ld_71 (h : H) (id off : Nat) : loadT Go.Proofs.Try.prog h 71 id off = @thn _ _ (h.blk id) ⟨fun b => b.get off⟩ := by kernel_rfl
attribute [go_sem] ld_71
theorem st_71 (h : H) (id off : Nat) (v : CV) : storeT Go.Proofs.Try.prog h 71 id off v = @thn _ _ (h.blk id) ⟨fun b => cond (Nat.beq v.cells.length 1 && !b.ro) ((b.storeA off v.cells).map fun b' => h.put id (.cells b')) none⟩ := by kernel_rfl
attribute [go_sem] st_71
theorem part_71 (cs : List CV) (off : Nat) : partT Go.Proofs.Try.prog 71 cs off = nth cs off := by kernel_rfl
attribute [go_sem] part_71
theorem ze_71 : zeroT Go.Proofs.Try.prog 71 = some (.nilf) := by kernel_rfl
attribute [go_sem] ze_71
theorem eq_71 (xo yo : Operand) (f : Fn) (a b : List CV) : binT Go.Proofs.Try.prog .eql 71 xo yo (.fn f a b) .nilf = some (.bool false) := by kernel_rfl
attribute [go_sem] eq_71
theorem eq_71_n (xo yo : Operand) : binT Go.Proofs.Try.prog .eql 71 xo yo .nilf .nilf = some (.bool true) := by kernel_rfl
attribute [go_sem] eq_71_n
theorem ne_71 (xo yo : Operand) (f : Fn) (a b : List CV) : binT Go.Proofs.Try.prog .neq 71 xo yo (.fn f a b) .nilf = some (.bool true) := by kernel_rfl
attribute [go_sem] ne_71
theorem ne_71_n (xo yo : Operand) : binT Go.Proofs.Try.prog .neq 71 xo yo .nilf .nilf = some (.bool false) := by kernel_rfl
attribute [go_sem] ne_71_n
theorem sz_72 : szOf Go.Proofs.Try.prog 72 = some 1 := by kernel_rfl
attribute [go_sem] sz_72
theorem ld_72 (h : H) (id off : Nat) : loadT Go.Proofs.Try.prog h 72 id off = @thn _ _ (h.blk id) ⟨fun b => b.get off⟩ := by kernel_rfl
attribute [go_sem] ld_72
theorem st_72 (h : H) (id off : Nat) (v : CV) : storeT Go.Proofs.Try.prog h 72 id off v = @thn _ _ (h.blk id) ⟨fun b => cond (Nat.beq v.cells.length 1 && !b.ro) ((b.storeA off v.cells).map fun b' => h.put id (.cells b')) none⟩ := by kernel_rfl
attribute [go_sem] st_72
theorem part_72 (cs : List CV) (off : Nat) : partT Go.Proofs.Try.prog 72 cs off = nth cs off := by kernel_rfl
attribute [go_sem] part_72
theorem ze_72 : zeroT Go.Proofs.Try.prog 72 = some (.nilf) := by kernel_rfl
attribute [go_sem] ze_72
theorem eq_72 (xo yo : Operand) (f : Fn) (a b : List CV) : binT Go.Proofs.Try.prog .eql 72 xo yo (.fn f a b) .nilf = some (.bool false) := by kernel_rfl
attribute [go_sem] eq_72
theorem eq_72_n (xo yo : Operand) : binT Go.Proofs.Try.prog .eql 72 xo yo .nilf .nilf = some (.bool true) := by kernel_rfl
attribute [go_sem] eq_72_n
theorem ne_72 (xo yo : Operand) (f : Fn) (a b : List CV) : binT Go.Proofs.Try.prog .neq 72 xo yo (.fn f a b) .nilf = some (.bool true) := by kernel_rfl
attribute [go_sem] ne_72
theorem ne_72_n (xo yo : Operand) : binT Go.Proofs.Try.prog .neq 72 xo yo .nilf .nilf = some (.bool false) := by kernel_rfl
attribute [go_sem] ne_72_n
theorem sz_73 : szOf Go.Proofs.Try.prog 73 = some 1 := by kernel_rfl
attribute [go_sem] sz_73
theorem ld_73 (h : H) (id off : Nat) : loadT Go.Proofs.Try.prog h 73 id off = @thn _ _ (h.blk id) ⟨fun b => b.get off⟩ := by kernel_rfl
attribute [go_sem] ld_73
theorem st_73 (h : H) (id off : Nat) (v : CV) : storeT Go.Proofs.Try.prog h 73 id off v = @thn _ _ (h.blk id) ⟨fun b => cond (Nat.beq v.cells.length 1 && !b.ro) ((b.storeA off v.cells).map fun b' => h.put id (.cells b')) none⟩ := by kernel_rfl
attribute [go_sem] st_73
theorem part_73 (cs : List CV) (off : Nat) : partT Go.Proofs.Try.prog 73 cs off = nth cs off := by kernel_rfl
attribute [go_sem] part_73
theorem sz_74 : szOf Go.Proofs.Try.prog 74 = some 1 := by kernel_rfl
attribute [go_sem] sz_74
theorem ld_74 (h : H) (id off : Nat) : loadT Go.Proofs.Try.prog h 74 id off = @thn _ _ (h.blk id) ⟨fun b => b.get off⟩ := by kernel_rfl
attribute [go_sem] ld_74
theorem st_74 (h : H) (id off : Nat) (v : CV) : storeT Go.Proofs.Try.prog h 74 id off v = @thn _ _ (h.blk id) ⟨fun b => cond (Nat.beq v.cells.length 1 && !b.ro) ((b.storeA off v.cells).map fun b' => h.put id (.cells b')) none⟩ := by kernel_rfl
attribute [go_sem] st_74
theorem part_74 (cs : List CV) (off : Nat) : partT Go.Proofs.Try.prog 74 cs off = nth cs off := by kernel_rfl
attribute [go_sem] part_74
theorem ze_74 : zeroT Go.Proofs.Try.prog 74 = some (.nilf) := by kernel_rfl
attribute [go_sem] ze_74
theorem eq_74 (xo yo : Operand) (f : Fn) (a b : List CV) : binT Go.Proofs.Try.prog .eql 74 xo yo (.fn f a b) .nilf = some (.bool false) := by kernel_rfl
attribute [go_sem] eq_74
theorem eq_74_n (xo yo : Operand) : binT Go.Proofs.Try.prog .eql 74 xo yo .nilf .nilf = some (.bool true) := by kernel_rfl
attribute [go_sem] eq_74_n
theorem ne_74 (xo yo : Operand) (f : Fn) (a b : List CV) : binT Go.Proofs.Try.prog .neq 74 xo yo (.fn f a b) .nilf = some (.bool true) := by kernel_rfl
attribute [go_sem] ne_74
theorem ne_74_n (xo yo : Operand) : binT Go.Proofs.Try.prog .neq 74 xo yo .nilf .nilf = some (.bool false) := by kernel_rfl
attribute [go_sem] ne_74_n
theorem sz_75 : szOf Go.Proofs.Try.prog 75 = some 1 := by kernel_rfl
attribute [go_sem] sz_75
theorem ld_75 (h : H) (id off : Nat) : loadT Go.Proofs.Try.prog h 75 id off = @thn _ _ (h.blk id) ⟨fun b => b.get off⟩ := by kernel_rfl
attribute [go_sem] ld_75
theorem st_75 (h : H) (id off : Nat) (v : CV) : storeT Go.Proofs.Try.prog h 75 id off v = @thn _ _ (h.blk id) ⟨fun b => cond (Nat.beq v.cells.length 1 && !b.ro) ((b.storeA off v.cells).map fun b' => h.put id (.cells b')) none⟩ := by kernel_rfl
attribute [go_sem] st_75
theorem part_75 (cs : List CV) (off : Nat) : partT Go.Proofs.Try.prog 75 cs off = nth cs off := by kernel_rfl
attribute [go_sem] part_75
theorem ze_75 : zeroT Go.Proofs.Try.prog 75 = some (.nilf) := by kernel_rfl
attribute [go_sem] ze_75
theorem eq_75 (xo yo : Operand) (f : Fn) (a b : List CV) : binT Go.Proofs.Try.prog .eql 75 xo yo (.fn f a b) .nilf = some (.bool false) := by kernel_rfl
attribute [go_sem] eq_75
theorem eq_75_n (xo yo : Operand) : binT Go.Proofs.Try.prog .eql 75 xo yo .nilf .nilf = some (.bool true) := by kernel_rfl
attribute [go_sem] eq_75_n
theorem ne_75 (xo yo : Operand) (f : Fn) (a b : List CV) : binT Go.Proofs.Try.prog .neq 75 xo yo (.fn f a b) .nilf = some (.bool true) := by kernel_rfl
attribute [go_sem] ne_75
theorem ne_75_n (xo yo : Operand) : binT Go.Proofs.Try.prog .neq 75 xo yo .nilf .nilf = some (.bool false) := by kernel_rfl
attribute [go_sem] ne_75_n
theorem sz_76 : szOf Go.Proofs.Try.prog 76 = some 1 := by kernel_rfl
attribute [go_sem] sz_76
theorem ld_76 (h : H) (id off : Nat) : loadT Go.Proofs.Try.prog h 76 id off = @thn _ _ (h.blk id) ⟨fun b => b.get off⟩ := by kernel_rfl
attribute [go_sem] ld_76
theorem st_76 (h : H) (id off : Nat) (v : CV) : storeT Go.Proofs.Try.prog h 76 id off v = @thn _ _ (h.blk id) ⟨fun b => cond (Nat.beq v.cells.length 1 && !b.ro) ((b.storeA off v.cells).map fun b' => h.put id (.cells b')) none⟩ := by kernel_rfl
attribute [go_sem] st_76
theorem part_76 (cs : List CV) (off : Nat) : partT Go.Proofs.Try.prog 76 cs off = nth cs off := by kernel_rfl
attribute [go_sem] part_76
theorem ze_76 : zeroT Go.Proofs.Try.prog 76 = some (.int .u32 0) := by kernel_rfl
attribute [go_sem] ze_76
theorem sz_77 : szOf Go.Proofs.Try.prog 77 = some 1 := by kernel_rfl
attribute [go_sem] sz_77
theorem ld_77 (h : H) (id off : Nat) : loadT Go.Proofs.Try.prog h 77 id off = @thn _ _ (h.blk id) ⟨fun b => b.get off⟩ := by kernel_rfl
attribute [go_sem] ld_77
theorem st_77 (h : H) (id off : Nat) (v : CV) : storeT Go.Proofs.Try.prog h 77 id off v = @thn _ _ (h.blk id) ⟨fun b => cond (Nat.beq v.cells.length 1 && !b.ro) ((b.storeA off v.cells).map fun b' => h.put id (.cells b')) none⟩ := by kernel_rfl
attribute [go_sem] st_77
theorem part_77 (cs : List CV) (off : Nat) : partT Go.Proofs.Try.prog 77 cs off = nth cs off := by kernel_rfl
attribute [go_sem] part_77
theorem ze_77 : zeroT Go.Proofs.Try.prog 77 = some (.nilf) := by kernel_rfl
attribute [go_sem] ze_77
theorem eq_77 (xo yo : Operand) (f : Fn) (a b : List CV) : binT Go.Proofs.Try.prog .eql 77 xo yo (.fn f a b) .nilf = some (.bool false) := by kernel_rfl
attribute [go_sem] eq_77
theorem eq_77_n (xo yo : Operand) : binT Go.Proofs.Try.prog .eql 77 xo yo .nilf .nilf = some (.bool true) := by kernel_rfl
attribute [go_sem] eq_77_n
theorem ne_77 (xo yo : Operand) (f : Fn) (a b : List CV) : binT Go.Proofs.Try.prog .neq 77 xo yo (.fn f a b) .nilf = some (.bool true) := by kernel_rfl
attribute [go_sem] ne_77
theorem ne_77_n (xo yo : Operand) : binT Go.Proofs.Try.prog .neq 77 xo yo .nilf .nilf = some (.bool false) := by kernel_rfl
attribute [go_sem] ne_77_n
theorem sz_78 : szOf Go.Proofs.Try.prog 78 = some 1 := by kernel_rfl
attribute [go_sem] sz_78
theorem ld_78 (h : H) (id off : Nat) : loadT Go.Proofs.Try.prog h 78 id off = @thn _ _ (h.blk id) ⟨fun b => b.get off⟩ := by kernel_rfl
attribute [go_sem] ld_78
theorem st_78 (h : H) (id off : Nat) (v : CV) : storeT Go.Proofs.Try.prog h 78 id off v = @thn _ _ (h.blk id) ⟨fun b => cond (Nat.beq v.cells.length 1 && !b.ro) ((b.storeA off v.cells).map fun b' => h.put id (.cells b')) none⟩ := by kernel_rfl
attribute [go_sem] st_78
theorem part_78 (cs : List CV) (off : Nat) : partT Go.Proofs.Try.prog 78 cs off = nth cs off := by kernel_rfl
attribute [go_sem] part_78
theorem ze_78 : zeroT Go.Proofs.Try.prog 78 = some (.int .u64 0) := by kernel_rfl
attribute [go_sem] ze_78
theorem sz_79 : szOf Go.Proofs.Try.prog 79 = some 1 := by kernel_rfl
attribute [go_sem] sz_79
theorem ld_79 (h : H) (id off : Nat) : loadT Go.Proofs.Try.prog h 79 id off = @thn _ _ (h.blk id) ⟨fun b => b.get off⟩ := by kernel_rfl
attribute [go_sem] ld_79
theorem st_79 (h : H) (id off : Nat) (v : CV) : storeT Go.Proofs.Try.prog h 79 id off v = @thn _ _ (h.blk id) ⟨fun b => cond (Nat.beq v.cells.length 1 && !b.ro) ((b.storeA off v.cells).map fun b' => h.put id (.cells b')) none⟩ := by kernel_rfl
attribute [go_sem] st_79
theorem part_79 (cs : List CV) (off : Nat) : partT Go.Proofs.Try.prog 79 cs off = nth cs off := by kernel_rfl
attribute [go_sem] part_79
theorem ze_79 : zeroT Go.Proofs.Try.prog 79 = some (.int .u64 0) := by kernel_rfl
attribute [go_sem] ze_79
theorem sz_80 : szOf Go.Proofs.Try.prog 80 = some 1 := by kernel_rfl
attribute [go_sem] sz_80
theorem ld_80 (h : H) (id off : Nat) : loadT Go.Proofs.Try.prog h 80 id off = @thn _ _ (h.blk id) ⟨fun b => b.get off⟩ := by kernel_rfl
attribute [go_sem] ld_80
theorem st_80 (h : H) (id off : Nat) (v : CV) : storeT Go.Proofs.Try.prog h 80 id off v = @thn _ _ (h.blk id) ⟨fun b => cond (Nat.beq v.cells.length 1 && !b.ro) ((b.storeA off v.cells).map fun b' => h.put id (.cells b')) none⟩ := by kernel_rfl
attribute [go_sem] st_80
theorem part_80 (cs : List CV) (off : Nat) : partT Go.Proofs.Try.prog 80 cs off = nth cs off := by kernel_rfl
attribute [go_sem] part_80
theorem ze_80 : zeroT Go.Proofs.Try.prog 80 = some (.nilf) := by kernel_rfl
attribute [go_sem] ze_80
theorem eq_80 (xo yo : Operand) (f : Fn) (a b : List CV) : binT Go.Proofs.Try.prog .eql 80 xo yo (.fn f a b) .nilf = some (.bool false) := by kernel_rfl
attribute [go_sem] eq_80
theorem eq_80_n (xo yo : Operand) : binT Go.Proofs.Try.prog .eql 80 xo yo .nilf .nilf = some (.bool true) := by kernel_rfl
attribute [go_sem] eq_80_n
theorem ne_80 (xo yo : Operand) (f : Fn) (a b : List CV) : binT Go.Proofs.Try.prog .neq 80 xo yo (.fn f a b) .nilf = some (.bool true) := by kernel_rfl
attribute [go_sem] ne_80
theorem ne_80_n (xo yo : Operand) : binT Go.Proofs.Try.prog .neq 80 xo yo .nilf .nilf = some (.bool false) := by kernel_rfl
attribute [go_sem] ne_80_n
theorem sz_81 : szOf Go.Proofs.Try.prog 81 = some 1 := by kernel_rfl
attribute [go_sem] sz_81
theorem ld_81 (h : H) (id off : Nat) : loadT Go.Proofs.Try.prog h 81 id off = @thn _ _ (h.blk id) ⟨fun b => b.get off⟩ := by kernel_rfl
attribute [go_sem] ld_81
theorem st_81 (h : H) (id off : Nat) (v : CV) : storeT Go.Proofs.Try.prog h 81 id off v = @thn _ _ (h.blk id) ⟨fun b => cond (Nat.beq v.cells.length 1 && !b.ro) ((b.storeA off v.cells).map fun b' => h.put id (.cells b')) none⟩ := by kernel_rfl
attribute [go_sem] st_81
theorem part_81 (cs : List CV) (off : Nat) : partT Go.Proofs.Try.prog 81 cs off = nth cs off := by kernel_rfl
attribute [go_sem] part_81
theorem ze_81 : zeroT Go.Proofs.Try.prog 81 = some (.nilf) := by kernel_rfl
attribute [go_sem] ze_81
theorem eq_81 (xo yo : Operand) (f : Fn) (a b : List CV) : binT Go.Proofs.Try.prog .eql 81 xo yo (.fn f a b) .nilf = some (.bool false) := by kernel_rfl
attribute [go_sem] eq_81
theorem eq_81_n (xo yo : Operand) : binT Go.Proofs.Try.prog .eql 81 xo yo .nilf .nilf = some (.bool true) := by kernel_rfl
attribute [go_sem] eq_81_n
theorem ne_81 (xo yo : Operand) (f : Fn) (a b : List CV) : binT Go.Proofs.Try.prog .neq 81 xo yo (.fn f a b) .nilf = some (.bool true) := by kernel_rfl
attribute [go_sem] ne_81
theorem ne_81_n (xo yo : Operand) : binT Go.Proofs.Try.prog .neq 81 xo yo .nilf .nilf = some (.bool false) := by kernel_rfl
attribute [go_sem] ne_81_n
theorem sz_82 : szOf Go.Proofs.Try.prog 82 = some 1 := by kernel_rfl
attribute [go_sem] sz_82
theorem ld_82 (h : H) (id off : Nat) : loadT Go.Proofs.Try.prog h 82 id off = @thn _ _ (h.blk id) ⟨fun b => b.get off⟩ := by kernel_rfl
attribute [go_sem] ld_82
theorem st_82 (h : H) (id off : Nat) (v : CV) : storeT Go.Proofs.Try.prog h 82 id off v = @thn _ _ (h.blk id) ⟨fun b => cond (Nat.beq v.cells.length 1 && !b.ro) ((b.storeA off v.cells).map fun b' => h.put id (.cells b')) none⟩ := by kernel_rfl
attribute [go_sem] st_82
theorem part_82 (cs : List CV) (off : Nat) : partT Go.Proofs.Try.prog 82 cs off = nth cs off := by kernel_rfl
attribute [go_sem] part_82
theorem ze_82 : zeroT Go.Proofs.Try.prog 82 = some (.nilf) := by kernel_rfl
attribute [go_sem] ze_82
theorem eq_82 (xo yo : Operand) (f : Fn) (a b : List CV) : binT Go.Proofs.Try.prog .eql 82 xo yo (.fn f a b) .nilf = some (.bool false) := by kernel_rfl
attribute [go_sem] eq_82
theorem eq_82_n (xo yo : Operand) : binT Go.Proofs.Try.prog .eql 82 xo yo .nilf .nilf = some (.bool true) := by kernel_rfl
attribute [go_sem] eq_82_n
theorem ne_82 (xo yo : Operand) (f : Fn) (a b : List CV) : binT Go.Proofs.Try.prog .neq 82 xo yo (.fn f a b) .nilf = some (.bool true) := by kernel_rfl
attribute [go_sem] ne_82
theorem ne_82_n (xo yo : Operand) : binT Go.Proofs.Try.prog .neq 82 xo yo .nilf .nilf = some (.bool false) := by kernel_rfl
attribute [go_sem] ne_82_n
theorem sz_83 : szOf Go.Proofs.Try.prog 83 = some 1 := by kernel_rfl
attribute [go_sem] sz_83
theorem ld_83 (h : H) (id off : Nat) : loadT Go.Proofs.Try.prog h 83 id off = @thn _ _ (h.blk id) ⟨fun b => b.get off⟩ := by kernel_rfl
attribute [go_sem] ld_83
theorem st_83 (h : H) (id off : Nat) (v : CV) : storeT Go.Proofs.Try.prog h 83 id off v = @thn _ _ (h.blk id) ⟨fun b => cond (Nat.beq v.cells.length 1 && !b.ro) ((b.storeA off v.cells).map fun b' => h.put id (.cells b')) none⟩ := by kernel_rfl
attribute [go_sem] st_83
theorem part_83 (cs : List CV) (off : Nat) : partT Go.Proofs.Try.prog 83 cs off = nth cs off := by kernel_rfl
attribute [go_sem] part_83
theorem ze_83 : zeroT Go.Proofs.Try.prog 83 = some (.nilp) := by kernel_rfl
attribute [go_sem] ze_83
theorem eq_83 (xo yo : Operand) (a b : Nat) : binT Go.Proofs.Try.prog .eql 83 xo yo (.ptr a b) .nilp = some (.bool false) := by kernel_rfl
attribute [go_sem] eq_83
theorem eq_83_n (xo yo : Operand) : binT Go.Proofs.Try.prog .eql 83 xo yo .nilp .nilp = some (.bool true) := by kernel_rfl
attribute [go_sem] eq_83_n
theorem ne_83 (xo yo : Operand) (a b : Nat) : binT Go.Proofs.Try.prog .neq 83 xo yo (.ptr a b) .nilp = some (.bool true) := by kernel_rfl
attribute [go_sem] ne_83
theorem ne_83_n (xo yo : Operand) : binT Go.Proofs.Try.prog .neq 83 xo yo .nilp .nilp = some (.bool false) := by kernel_rfl
attribute [go_sem] ne_83_n
theorem sz_84 : szOf Go.Proofs.Try.prog 84 = some 1 := by kernel_rfl
attribute [go_sem] sz_84
theorem ld_84 (h : H) (id off : Nat) : loadT Go.Proofs.Try.prog h 84 id off = @thn _ _ (h.blk id) ⟨fun b => b.get off⟩ := by kernel_rfl
attribute [go_sem] ld_84
theorem st_84 (h : H) (id off : Nat) (v : CV) : storeT Go.Proofs.Try.prog h 84 id off v = @thn _ _ (h.blk id) ⟨fun b => cond (Nat.beq v.cells.length 1 && !b.ro) ((b.storeA off v.cells).map fun b' => h.put id (.cells b')) none⟩ := by kernel_rfl
attribute [go_sem] st_84
theorem part_84 (cs : List CV) (off : Nat) : partT Go.Proofs.Try.prog 84 cs off = nth cs off := by kernel_rfl
attribute [go_sem] part_84
theorem ze_84 : zeroT Go.Proofs.Try.prog 84 = some (.nilf) := by kernel_rfl
attribute [go_sem] ze_84
theorem eq_84 (xo yo : Operand) (f : Fn) (a b : List CV) : binT Go.Proofs.Try.prog .eql 84 xo yo (.fn f a b) .nilf = some (.bool false) := by kernel_rfl
attribute [go_sem] eq_84
theorem eq_84_n (xo yo : Operand) : binT Go.Proofs.Try.prog .eql 84 xo yo .nilf .nilf = some (.bool true) := by kernel_rfl
attribute [go_sem] eq_84_n
theorem ne_84 (xo yo : Operand) (f : Fn) (a b : List CV) : binT Go.Proofs.Try.prog .neq 84 xo yo (.fn f a b) .nilf = some (.bool true) := by kernel_rfl
attribute [go_sem] ne_84
theorem ne_84_n (xo yo : Operand) : binT Go.Proofs.Try.prog .neq 84 xo yo .nilf .nilf = some (.bool false) := by kernel_rfl
attribute [go_sem] ne_84_n
theorem sz_85 : szOf Go.Proofs.Try.prog 85 = some 1 := by kernel_rfl
attribute [go_sem] sz_85
theorem ld_85 (h : H) (id off : Nat) : loadT Go.Proofs.Try.prog h 85 id off = @thn _ _ (h.blk id) ⟨fun b => b.get off⟩ := by kernel_rfl
attribute [go_sem] ld_85
theorem st_85 (h : H) (id off : Nat) (v : CV) : storeT Go.Proofs.Try.prog h 85 id off v = @thn _ _ (h.blk id) ⟨fun b => cond (Nat.beq v.cells.length 1 && !b.ro) ((b.storeA off v.cells).map fun b' => h.put id (.cells b')) none⟩ := by kernel_rfl
attribute [go_sem] st_85
theorem part_85 (cs : List CV) (off : Nat) : partT Go.Proofs.Try.prog 85 cs off = nth cs off := by kernel_rfl
attribute [go_sem] part_85
theorem ze_85 : zeroT Go.Proofs.Try.prog 85 = some (.nilp) := by kernel_rfl
attribute [go_sem] ze_85
theorem eq_85 (xo yo : Operand) (a b : Nat) : binT Go.Proofs.Try.prog .eql 85 xo yo (.ptr a b) .nilp = some (.bool false) := by kernel_rfl
attribute [go_sem] eq_85
theorem eq_85_n (xo yo : Operand) : binT Go.Proofs.Try.prog .eql 85 xo yo .nilp .nilp = some (.bool true) := by kernel_rfl
attribute [go_sem] eq_85_n
theorem ne_85 (xo yo : Operand) (a b : Nat) : binT Go.Proofs.Try.prog .neq 85 xo yo (.ptr a b) .nilp = some (.bool true) := by kernel_rfl
attribute [go_sem] ne_85
theorem ne_85_n (xo yo : Operand) : binT Go.Proofs.Try.prog .neq 85 xo yo .nilp .nilp = some (.bool false) := by kernel_rfl
attribute [go_sem] ne_85_n
theorem sz_86 : szOf Go.Proofs.Try.prog 86 = some 1 := by kernel_rfl
attribute [go_sem] sz_86
theorem ld_86 (h : H) (id off : Nat) : loadT Go.Proofs.Try.prog h 86 id off = @thn _ _ (h.blk id) ⟨fun b => b.get off⟩ := by kernel_rfl
attribute [go_sem] ld_86
theorem st_86 (h : H) (id off : Nat) (v : CV) : storeT Go.Proofs.Try.prog h 86 id off v = @thn _ _ (h.blk id) ⟨fun b => cond (Nat.beq v.cells.length 1 && !b.ro) ((b.storeA off v.cells).map fun b' => h.put id (.cells b')) none⟩ := by kernel_rfl
attribute [go_sem] st_86
theorem part_86 (cs : List CV) (off : Nat) : partT Go.Proofs.Try.prog 86 cs off = nth cs off := by kernel_rfl
attribute [go_sem] part_86
theorem sz_87 : szOf Go.Proofs.Try.prog 87 = some 1 := by kernel_rfl
attribute [go_sem] sz_87
theorem ld_87 (h : H) (id off : Nat) : loadT Go.Proofs.Try.prog h 87 id off = @thn _ _ (h.blk id) ⟨fun b => b.get off⟩ := by kernel_rfl
attribute [go_sem] ld_87
theorem st_87 (h : H) (id off : Nat) (v : CV) : storeT Go.Proofs.Try.prog h 87 id off v = @thn _ _ (h.blk id) ⟨fun b => cond (Nat.beq v.cells.length 1 && !b.ro) ((b.storeA off v.cells).map fun b' => h.put id (.cells b')) none⟩ := by kernel_rfl
attribute [go_sem] st_87
theorem part_87 (cs : List CV) (off : Nat) : partT Go.Proofs.Try.prog 87 cs off = nth cs off := by kernel_rfl
attribute [go_sem] part_87
theorem ze_87 : zeroT Go.Proofs.Try.prog 87 = some (.nilf) := by kernel_rfl
attribute [go_sem] ze_87
theorem eq_87 (xo yo : Operand) (f : Fn) (a b : List CV) : binT Go.Proofs.Try.prog .eql 87 xo yo (.fn f a b) .nilf = some (.bool false) := by kernel_rfl
attribute [go_sem] eq_87
theorem eq_87_n (xo yo : Operand) : binT Go.Proofs.Try.prog .eql 87 xo yo .nilf .nilf = some (.bool true) := by kernel_rfl
attribute [go_sem] eq_87_n
theorem ne_87 (xo yo : Operand) (f : Fn) (a b : List CV) : binT Go.Proofs.Try.prog .neq 87 xo yo (.fn f a b) .nilf = some (.bool true) := by kernel_rfl
attribute [go_sem] ne_87
theorem ne_87_n (xo yo : Operand) : binT Go.Proofs.Try.prog .neq 87 xo yo .nilf .nilf = some (.bool false) := by kernel_rfl
attribute [go_sem] ne_87_n
theorem sz_88 : szOf Go.Proofs.Try.prog 88 = some 1 := by kernel_rfl
attribute [go_sem] sz_88
theorem ld_88 (h : H) (id off : Nat) : loadT Go.Proofs.Try.prog h 88 id off = @thn _ _ (h.blk id) ⟨fun b => b.get off⟩ := by kernel_rfl
attribute [go_sem] ld_88
theorem st_88 (h : H) (id off : Nat) (v : CV) : storeT Go.Proofs.Try.prog h 88 id off v = @thn _ _ (h.blk id) ⟨fun b => cond (Nat.beq v.cells.length 1 && !b.ro) ((b.storeA off v.cells).map fun b' => h.put id (.cells b')) none⟩ := by kernel_rfl
attribute [go_sem] st_88
theorem part_88 (cs : List CV) (off : Nat) : partT Go.Proofs.Try.prog 88 cs off = nth cs off := by kernel_rfl
attribute [go_sem] part_88
theorem ze_88 : zeroT Go.Proofs.Try.prog 88 = some (.nilf) := by kernel_rfl
attribute [go_sem] ze_88
theorem eq_88 (xo yo : Operand) (f : Fn) (a b : List CV) : binT Go.Proofs.Try.prog .eql 88 xo yo (.fn f a b) .nilf = some (.bool false) := by kernel_rfl
attribute [go_sem] eq_88
theorem eq_88_n (xo yo : Operand) : binT Go.Proofs.Try.prog .eql 88 xo yo .nilf .nilf = some (.bool true) := by kernel_rfl
attribute [go_sem] eq_88_n
theorem ne_88 (xo yo : Operand) (f : Fn) (a b : List CV) : binT Go.Proofs.Try.prog .neq 88 xo yo (.fn f a b) .nilf = some (.bool true) := by kernel_rfl
attribute [go_sem] ne_88
theorem ne_88_n (xo yo : Operand) : binT Go.Proofs.Try.prog .neq 88 xo yo .nilf .nilf = some (.bool false) := by kernel_rfl
attribute [go_sem] ne_88_n
theorem sz_89 : szOf Go.Proofs.Try.prog 89 = some 4 := by kernel_rfl
attribute [go_sem] sz_89
theorem ld_89 (h : H) (id off : Nat) : loadT Go.Proofs.Try.prog h 89 id off = @thn _ _ (h.blk id) ⟨fun b => (b.loadN off 4).map .agg⟩ := by kernel_rfl
attribute [go_sem] ld_89
theorem st_89 (h : H) (id off : Nat) (v : CV) : storeT Go.Proofs.Try.prog h 89 id off v = @thn _ _ (h.blk id) ⟨fun b => cond (Nat.beq v.cells.length 4 && !b.ro) ((b.storeA off v.cells).map fun b' => h.put id (.cells b')) none⟩ := by kernel_rfl
attribute [go_sem] st_89
theorem part_89 (cs : List CV) (off : Nat) : partT Go.Proofs.Try.prog 89 cs off = some (.agg ((cs.drop off).take 4)) := by kernel_rfl
attribute [go_sem] part_89
theorem ze_89 : zeroT Go.Proofs.Try.prog 89 = some (.agg [.nilp, .nilp, .nilp, .str []]) := by kernel_rfl
attribute [go_sem] ze_89
theorem bt_89 (parts : List (Nat × CV)) : buildT Go.Proofs.Try.prog 89 parts = finB (CV.cells (.agg [.nilp, .nilp, .nilp, .str []])) (nth [(0, 1), (1, 1), (2, 1), (3, 1)]) parts := by kernel_rfl
attribute [go_sem] bt_89
theorem fa_89_0 (id off : Nat) : fieldAddrT Go.Proofs.Try.prog 89 (.ptr id off) 0 = some (.ptr id (off)) := by kernel_rfl
attribute [go_sem] fa_89_0
theorem fd_89_0 (cs : List CV) : fieldT Go.Proofs.Try.prog 89 (.agg cs) 0 = partT Go.Proofs.Try.prog 17 cs 0 := by kernel_rfl
attribute [go_sem] fd_89_0
theorem fa_89_1 (id off : Nat) : fieldAddrT Go.Proofs.Try.prog 89 (.ptr id off) 1 = some (.ptr id (off + 1)) := by kernel_rfl
attribute [go_sem] fa_89_1
theorem fd_89_1 (cs : List CV) : fieldT Go.Proofs.Try.prog 89 (.agg cs) 1 = partT Go.Proofs.Try.prog 17 cs 1 := by kernel_rfl
attribute [go_sem] fd_89_1
theorem fa_89_2 (id off : Nat) : fieldAddrT Go.Proofs.Try.prog 89 (.ptr id off) 2 = some (.ptr id (off + 2)) := by kernel_rfl
attribute [go_sem] fa_89_2
theorem fd_89_2 (cs : List CV) : fieldT Go.Proofs.Try.prog 89 (.agg cs) 2 = partT Go.Proofs.Try.prog 17 cs 2 := by kernel_rfl
attribute [go_sem] fd_89_2
theorem fa_89_3 (id off : Nat) : fieldAddrT Go.Proofs.Try.prog 89 (.ptr id off) 3 = some (.ptr id (off + 3)) := by kernel_rfl
attribute [go_sem] fa_89_3
theorem fd_89_3 (cs : List CV) : fieldT Go.Proofs.Try.prog 89 (.agg cs) 3 = partT Go.Proofs.Try.prog 9 cs 3 := by kernel_rfl
attribute [go_sem] fd_89_3
theorem sz_90 : szOf Go.Proofs.Try.prog 90 = some 4 := by kernel_rfl
attribute [go_sem] sz_90
theorem ld_90 (h : H) (id off : Nat) : loadT Go.Proofs.Try.prog h 90 id off = @thn _ _ (h.blk id) ⟨fun b => (b.loadN off 4).map .agg⟩ := by kernel_rfl
attribute [go_sem] ld_90
theorem st_90 (h : H) (id off : Nat) (v : CV) : storeT Go.Proofs.Try.prog h 90 id off v = @thn _ _ (h.blk id) ⟨fun b => cond (Nat.beq v.cells.length 4 && !b.ro) ((b.storeA off v.cells).map fun b' => h.put id (.cells b')) none⟩ := by kernel_rfl
attribute [go_sem] st_90
theorem part_90 (cs : List CV) (off : Nat) : partT Go.Proofs.Try.prog 90 cs off = some (.agg ((cs.drop off).take 4)) := by kernel_rfl
attribute [go_sem] part_90
theorem ze_90 : zeroT Go.Proofs.Try.prog 90 = some (.agg [.nilp, .nilp, .nilp, .str []]) := by kernel_rfl
attribute [go_sem] ze_90
theorem bt_90 (parts : List (Nat × CV)) : buildT Go.Proofs.Try.prog 90 parts = finB (CV.cells (.agg [.nilp, .nilp, .nilp, .str []])) (nth [(0, 1), (1, 1), (2, 1), (3, 1)]) parts := by kernel_rfl
attribute [go_sem] bt_90
theorem fa_90_0 (id off : Nat) : fieldAddrT Go.Proofs.Try.prog 90 (.ptr id off) 0 = some (.ptr id (off)) := by kernel_rfl
attribute [go_sem] fa_90_0
theorem fd_90_0 (cs : List CV) : fieldT Go.Proofs.Try.prog 90 (.agg cs) 0 = partT Go.Proofs.Try.prog 17 cs 0 := by kernel_rfl
attribute [go_sem] fd_90_0
theorem fa_90_1 (id off : Nat) : fieldAddrT Go.Proofs.Try.prog 90 (.ptr id off) 1 = some (.ptr id (off + 1)) := by kernel_rfl
attribute [go_sem] fa_90_1
theorem fd_90_1 (cs : List CV) : fieldT Go.Proofs.Try.prog 90 (.agg cs) 1 = partT Go.Proofs.Try.prog 17 cs 1 := by kernel_rfl
attribute [go_sem] fd_90_1
theorem fa_90_2 (id off : Nat) : fieldAddrT Go.Proofs.Try.prog 90 (.ptr id off) 2 = some (.ptr id (off + 2)) := by kernel_rfl
attribute [go_sem] fa_90_2
theorem fd_90_2 (cs : List CV) : fieldT Go.Proofs.Try.prog 90 (.agg cs) 2 = partT Go.Proofs.Try.prog 17 cs 2 := by kernel_rfl
attribute [go_sem] fd_90_2
theorem fa_90_3 (id off : Nat) : fieldAddrT Go.Proofs.Try.prog 90 (.ptr id off) 3 = some (.ptr id (off + 3)) := by kernel_rfl
attribute [go_sem] fa_90_3
theorem fd_90_3 (cs : List CV) : fieldT Go.Proofs.Try.prog 90 (.agg cs) 3 = partT Go.Proofs.Try.prog 9 cs 3 := by kernel_rfl
attribute [go_sem] fd_90_3
theorem sz_91 : szOf Go.Proofs.Try.prog 91 = some 0 := by kernel_rfl
attribute [go_sem] sz_91
theorem ld_91 (h : H) (id off : Nat) : loadT Go.Proofs.Try.prog h 91 id off = @thn _ _ (h.blk id) ⟨fun b => (b.loadN off 0).map .agg⟩ := by kernel_rfl
attribute [go_sem] ld_91
theorem st_91 (h : H) (id off : Nat) (v : CV) : storeT Go.Proofs.Try.prog h 91 id off v = @thn _ _ (h.blk id) ⟨fun b => cond (Nat.beq v.cells.length 0 && !b.ro) ((b.storeA off v.cells).map fun b' => h.put id (.cells b')) none⟩ := by kernel_rfl
attribute [go_sem] st_91
theorem part_91 (cs : List CV) (off : Nat) : partT Go.Proofs.Try.prog 91 cs off = some (.agg ((cs.drop off).take 0)) := by kernel_rfl
attribute [go_sem] part_91
theorem ze_91 : zeroT Go.Proofs.Try.prog 91 = some (.agg []) := by kernel_rfl
attribute [go_sem] ze_91
theorem ia_91 (id off k : Nat) (kd : IntKind) : indexAddrT Go.Proofs.Try.prog 91 (.ptr id off) (.int kd (Int.ofNat k)) = cond (Nat.blt k 0) (some (.ptr id (off + k * 1))) none := by kernel_rfl
attribute [go_sem] ia_91
theorem ix_91 (cs : List CV) (k : Nat) (kd : IntKind) : indexT Go.Proofs.Try.prog 91 (.agg cs) (.int kd (Int.ofNat k)) = cond (Nat.blt k 0) (partT Go.Proofs.Try.prog 16 cs (k * 1)) none := by kernel_rfl
attribute [go_sem] ix_91
theorem len_91 (h : H) (ts : List TypeId) (az : List CV) (a : CV) : builtinT Go.Proofs.Try.prog h .len (91 :: ts) (a :: az) = some (.val (.int .i64 0)) := by kernel_rfl
attribute [go_sem] len_91
theorem bt_91 (parts : List (Nat × CV)) : buildT Go.Proofs.Try.prog 91 parts = finB (CV.cells (.agg [])) (fun i => some (i * 1, 1)) parts := by kernel_rfl
attribute [go_sem] bt_91
theorem sz_92 : szOf Go.Proofs.Try.prog 92 = some 0 := by kernel_rfl
attribute [go_sem] sz_92
theorem ld_92 (h : H) (id off : Nat) : loadT Go.Proofs.Try.prog h 92 id off = @thn _ _ (h.blk id) ⟨fun b => (b.loadN off 0).map .agg⟩ := by kernel_rfl
attribute [go_sem] ld_92
theorem st_92 (h : H) (id off : Nat) (v : CV) : storeT Go.Proofs.Try.prog h 92 id off v = @thn _ _ (h.blk id) ⟨fun b => cond (Nat.beq v.cells.length 0 && !b.ro) ((b.storeA off v.cells).map fun b' => h.put id (.cells b')) none⟩ := by kernel_rfl
attribute [go_sem] st_92
theorem part_92 (cs : List CV) (off : Nat) : partT Go.Proofs.Try.prog 92 cs off = some (.agg ((cs.drop off).take 0)) := by kernel_rfl
attribute [go_sem] part_92
theorem ze_92 : zeroT Go.Proofs.Try.prog 92 = some (.agg []) := by kernel_rfl
attribute [go_sem] ze_92
theorem bt_92 (parts : List (Nat × CV)) : buildT Go.Proofs.Try.prog 92 parts = finB (CV.cells (.agg [])) (nth [(0, 0)]) parts := by kernel_rfl
attribute [go_sem] bt_92
theorem fd_92_0 (cs : List CV) : fieldT Go.Proofs.Try.prog 92 (.agg cs) 0 = partT Go.Proofs.Try.prog 91 cs 0 := by kernel_rfl
attribute [go_sem] fd_92_0
theorem sz_93 : szOf Go.Proofs.Try.prog 93 = some 0 := by kernel_rfl
attribute [go_sem] sz_93
theorem ld_93 (h : H) (id off : Nat) : loadT Go.Proofs.Try.prog h 93 id off = @thn _ _ (h.blk id) ⟨fun b => (b.loadN off 0).map .agg⟩ := by kernel_rfl
attribute [go_sem] ld_93
theorem st_93 (h : H) (id off : Nat) (v : CV) : storeT Go.Proofs.Try.prog h 93 id off v = @thn _ _ (h.blk id) ⟨fun b => cond (Nat.beq v.cells.length 0 && !b.ro) ((b.storeA off v.cells).map fun b' => h.put id (.cells b')) none⟩ := by kernel_rfl
attribute [go_sem] st_93
theorem part_93 (cs : List CV) (off : Nat) : partT Go.Proofs.Try.prog 93 cs off = some (.agg ((cs.drop off).take 0)) := by kernel_rfl
attribute [go_sem] part_93
theorem ze_93 : zeroT Go.Proofs.Try.prog 93 = some (.agg []) := by kernel_rfl
attribute [go_sem] ze_93
theorem bt_93 (parts : List (Nat × CV)) : buildT Go.Proofs.Try.prog 93 parts = finB (CV.cells (.agg [])) (nth [(0, 0)]) parts := by kernel_rfl
attribute [go_sem] bt_93
theorem fd_93_0 (cs : List CV) : fieldT Go.Proofs.Try.prog 93 (.agg cs) 0 = partT Go.Proofs.Try.prog 91 cs 0 := by kernel_rfl
attribute [go_sem] fd_93_0
theorem sz_94 : szOf Go.Proofs.Try.prog 94 = some 1 := by kernel_rfl
attribute [go_sem] sz_94
theorem ld_94 (h : H) (id off : Nat) : loadT Go.Proofs.Try.prog h 94 id off = @thn _ _ (h.blk id) ⟨fun b => b.get off⟩ := by kernel_rfl
attribute [go_sem] ld_94
theorem st_94 (h : H) (id off : Nat) (v : CV) : storeT Go.Proofs.Try.prog h 94 id off v = @thn _ _ (h.blk id) ⟨fun b => cond (Nat.beq v.cells.length 1 && !b.ro) ((b.storeA off v.cells).map fun b' => h.put id (.cells b')) none⟩ := by kernel_rfl
attribute [go_sem] st_94
theorem part_94 (cs : List CV) (off : Nat) : partT Go.Proofs.Try.prog 94 cs off = nth cs off := by kernel_rfl
attribute [go_sem] part_94
theorem ze_94 : zeroT Go.Proofs.Try.prog 94 = some (.int .u8 0) := by kernel_rfl
attribute [go_sem] ze_94
theorem sz_95 : szOf Go.Proofs.Try.prog 95 = some 1 := by kernel_rfl
attribute [go_sem] sz_95
theorem ld_95 (h : H) (id off : Nat) : loadT Go.Proofs.Try.prog h 95 id off = @thn _ _ (h.blk id) ⟨fun b => b.get off⟩ := by kernel_rfl
attribute [go_sem] ld_95
theorem st_95 (h : H) (id off : Nat) (v : CV) : storeT Go.Proofs.Try.prog h 95 id off v = @thn _ _ (h.blk id) ⟨fun b => cond (Nat.beq v.cells.length 1 && !b.ro) ((b.storeA off v.cells).map fun b' => h.put id (.cells b')) none⟩ := by kernel_rfl
attribute [go_sem] st_95
theorem part_95 (cs : List CV) (off : Nat) : partT Go.Proofs.Try.prog 95 cs off = nth cs off := by kernel_rfl
attribute [go_sem] part_95
theorem ze_95 : zeroT Go.Proofs.Try.prog 95 = some (.int .u8 0) := by kernel_rfl
attribute [go_sem] ze_95
theorem sz_96 : szOf Go.Proofs.Try.prog 96 = some 1 := by kernel_rfl
attribute [go_sem] sz_96
theorem ld_96 (h : H) (id off : Nat) : loadT Go.Proofs.Try.prog h 96 id off = @thn _ _ (h.blk id) ⟨fun b => b.get off⟩ := by kernel_rfl
attribute [go_sem] ld_96
theorem st_96 (h : H) (id off : Nat) (v : CV) : storeT Go.Proofs.Try.prog h 96 id off v = @thn _ _ (h.blk id) ⟨fun b => cond (Nat.beq v.cells.length 1 && !b.ro) ((b.storeA off v.cells).map fun b' => h.put id (.cells b')) none⟩ := by kernel_rfl
attribute [go_sem] st_96
theorem part_96 (cs : List CV) (off : Nat) : partT Go.Proofs.Try.prog 96 cs off = nth cs off := by kernel_rfl
attribute [go_sem] part_96
theorem ze_96 : zeroT Go.Proofs.Try.prog 96 = some (.nilf) := by kernel_rfl
attribute [go_sem] ze_96
theorem eq_96 (xo yo : Operand) (f : Fn) (a b : List CV) : binT Go.Proofs.Try.prog .eql 96 xo yo (.fn f a b) .nilf = some (.bool false) := by kernel_rfl
attribute [go_sem] eq_96
theorem eq_96_n (xo yo : Operand) : binT Go.Proofs.Try.prog .eql 96 xo yo .nilf .nilf = some (.bool true) := by kernel_rfl
attribute [go_sem] eq_96_n
theorem ne_96 (xo yo : Operand) (f : Fn) (a b : List CV) : binT Go.Proofs.Try.prog .neq 96 xo yo (.fn f a b) .nilf = some (.bool true) := by kernel_rfl
attribute [go_sem] ne_96
theorem ne_96_n (xo yo : Operand) : binT Go.Proofs.Try.prog .neq 96 xo yo .nilf .nilf = some (.bool false) := by kernel_rfl
attribute [go_sem] ne_96_n
theorem sz_97 : szOf Go.Proofs.Try.prog 97 = some 1 := by kernel_rfl
attribute [go_sem] sz_97
theorem ld_97 (h : H) (id off : Nat) : loadT Go.Proofs.Try.prog h 97 id off = @thn _ _ (h.blk id) ⟨fun b => b.get off⟩ := by kernel_rfl
attribute [go_sem] ld_97
theorem st_97 (h : H) (id off : Nat) (v : CV) : storeT Go.Proofs.Try.prog h 97 id off v = @thn _ _ (h.blk id) ⟨fun b => cond (Nat.beq v.cells.length 1 && !b.ro) ((b.storeA off v.cells).map fun b' => h.put id (.cells b')) none⟩ := by kernel_rfl
attribute [go_sem] st_97
theorem part_97 (cs : List CV) (off : Nat) : partT Go.Proofs.Try.prog 97 cs off = nth cs off := by kernel_rfl
attribute [go_sem] part_97
theorem ze_97 : zeroT Go.Proofs.Try.prog 97 = some (.nilp) := by kernel_rfl
attribute [go_sem] ze_97
theorem eq_97 (xo yo : Operand) (a b : Nat) : binT Go.Proofs.Try.prog .eql 97 xo yo (.ptr a b) .nilp = some (.bool false) := by kernel_rfl
attribute [go_sem] eq_97
theorem eq_97_n (xo yo : Operand) : binT Go.Proofs.Try.prog .eql 97 xo yo .nilp .nilp = some (.bool true) := by kernel_rfl
attribute [go_sem] eq_97_n
theorem ne_97 (xo yo : Operand) (a b : Nat) : binT Go.Proofs.Try.prog .neq 97 xo yo (.ptr a b) .nilp = some (.bool true) := by kernel_rfl
attribute [go_sem] ne_97
theorem ne_97_n (xo yo : Operand) : binT Go.Proofs.Try.prog .neq 97 xo yo .nilp .nilp = some (.bool false) := by kernel_rfl
attribute [go_sem] ne_97_n
theorem sz_98 : szOf Go.Proofs.Try.prog 98 = some 1 := by kernel_rfl
attribute [go_sem] sz_98
theorem ld_98 (h : H) (id off : Nat) : loadT Go.Proofs.Try.prog h 98 id off = @thn _ _ (h.blk id) ⟨fun b => b.get off⟩ := by kernel_rfl
attribute [go_sem] ld_98
theorem st_98 (h : H) (id off : Nat) (v : CV) : storeT Go.Proofs.Try.prog h 98 id off v = @thn _ _ (h.blk id) ⟨fun b => cond (Nat.beq v.cells.length 1 && !b.ro) ((b.storeA off v.cells).map fun b' => h.put id (.cells b')) none⟩ := by kernel_rfl
attribute [go_sem] st_98
theorem part_98 (cs : List CV) (off : Nat) : partT Go.Proofs.Try.prog 98 cs off = nth cs off := by kernel_rfl
attribute [go_sem] part_98
theorem ze_98 : zeroT Go.Proofs.Try.prog 98 = some (.int .i32 0) := by kernel_rfl
attribute [go_sem] ze_98
theorem sz_99 : szOf Go.Proofs.Try.prog 99 = some 1 := by kernel_rfl
attribute [go_sem] sz_99
theorem ld_99 (h : H) (id off : Nat) : loadT Go.Proofs.Try.prog h 99 id off = @thn _ _ (h.blk id) ⟨fun b => b.get off⟩ := by kernel_rfl
attribute [go_sem] ld_99
theorem st_99 (h : H) (id off : Nat) (v : CV) : storeT Go.Proofs.Try.prog h 99 id off v = @thn _ _ (h.blk id) ⟨fun b => cond (Nat.beq v.cells.length 1 && !b.ro) ((b.storeA off v.cells).map fun b' => h.put id (.cells b')) none⟩ := by kernel_rfl
attribute [go_sem] st_99
theorem part_99 (cs : List CV) (off : Nat) : partT Go.Proofs.Try.prog 99 cs off = nth cs off := by kernel_rfl
attribute [go_sem] part_99
theorem ze_99 : zeroT Go.Proofs.Try.prog 99 = some (.int .i32 0) := by kernel_rfl
attribute [go_sem] ze_99
theorem sz_100 : szOf Go.Proofs.Try.prog 100 = some 11 := by kernel_rfl
attribute [go_sem] sz_100
theorem ld_100 (h : H) (id off : Nat) : loadT Go.Proofs.Try.prog h 100 id off = @thn _ _ (h.blk id) ⟨fun b => (b.loadN off 11).map .agg⟩ := by kernel_rfl
attribute [go_sem] ld_100
theorem st_100 (h : H) (id off : Nat) (v : CV) : storeT Go.Proofs.Try.prog h 100 id off v = @thn _ _ (h.blk id) ⟨fun b => cond (Nat.beq v.cells.length 11 && !b.ro) ((b.storeA off v.cells).map fun b' => h.put id (.cells b')) none⟩ := by kernel_rfl
attribute [go_sem] st_100
theorem part_100 (cs : List CV) (off : Nat) : partT Go.Proofs.Try.prog 100 cs off = some (.agg ((cs.drop off).take 11)) := by kernel_rfl
attribute [go_sem] part_100
theorem ze_100 : zeroT Go.Proofs.Try.prog 100 = some (.agg [.int .u64 0, .int .u64 0, .int .u32 0, .int .u8 0, .int .u8 0, .int .u8 0, .int .u8 0, .nilf, .nilp, .int .i32 0, .int .i32 0]) := by kernel_rfl
attribute [go_sem] ze_100
theorem bt_100 (parts : List (Nat × CV)) : buildT Go.Proofs.Try.prog 100 parts = finB (CV.cells (.agg [.int .u64 0, .int .u64 0, .int .u32 0, .int .u8 0, .int .u8 0, .int .u8 0, .int .u8 0, .nilf, .nilp, .int .i32 0, .int .i32 0])) (nth [(0, 1), (1, 1), (2, 1), (3, 1), (4, 1), (5, 1), (6, 1), (7, 1), (8, 1), (9, 1), (10, 1)]) parts := by kernel_rfl
attribute [go_sem] bt_100
theorem fa_100_0 (id off : Nat) : fieldAddrT Go.Proofs.Try.prog 100 (.ptr id off) 0 = some (.ptr id (off)) := by kernel_rfl
attribute [go_sem] fa_100_0
theorem fd_100_0 (cs : List CV) : fieldT Go.Proofs.Try.prog 100 (.agg cs) 0 = partT Go.Proofs.Try.prog 12 cs 0 := by kernel_rfl
attribute [go_sem] fd_100_0
theorem fa_100_1 (id off : Nat) : fieldAddrT Go.Proofs.Try.prog 100 (.ptr id off) 1 = some (.ptr id (off + 1)) := by kernel_rfl
attribute [go_sem] fa_100_1
theorem fd_100_1 (cs : List CV) : fieldT Go.Proofs.Try.prog 100 (.agg cs) 1 = partT Go.Proofs.Try.prog 12 cs 1 := by kernel_rfl
attribute [go_sem] fd_100_1
theorem fa_100_2 (id off : Nat) : fieldAddrT Go.Proofs.Try.prog 100 (.ptr id off) 2 = some (.ptr id (off + 2)) := by kernel_rfl
attribute [go_sem] fa_100_2
theorem fd_100_2 (cs : List CV) : fieldT Go.Proofs.Try.prog 100 (.agg cs) 2 = partT Go.Proofs.Try.prog 76 cs 2 := by kernel_rfl
attribute [go_sem] fd_100_2
theorem fa_100_3 (id off : Nat) : fieldAddrT Go.Proofs.Try.prog 100 (.ptr id off) 3 = some (.ptr id (off + 3)) := by kernel_rfl
attribute [go_sem] fa_100_3
theorem fd_100_3 (cs : List CV) : fieldT Go.Proofs.Try.prog 100 (.agg cs) 3 = partT Go.Proofs.Try.prog 94 cs 3 := by kernel_rfl
attribute [go_sem] fd_100_3
theorem fa_100_4 (id off : Nat) : fieldAddrT Go.Proofs.Try.prog 100 (.ptr id off) 4 = some (.ptr id (off + 4)) := by kernel_rfl
attribute [go_sem] fa_100_4
theorem fd_100_4 (cs : List CV) : fieldT Go.Proofs.Try.prog 100 (.agg cs) 4 = partT Go.Proofs.Try.prog 5 cs 4 := by kernel_rfl
attribute [go_sem] fd_100_4
theorem fa_100_5 (id off : Nat) : fieldAddrT Go.Proofs.Try.prog 100 (.ptr id off) 5 = some (.ptr id (off + 5)) := by kernel_rfl
attribute [go_sem] fa_100_5
theorem fd_100_5 (cs : List CV) : fieldT Go.Proofs.Try.prog 100 (.agg cs) 5 = partT Go.Proofs.Try.prog 5 cs 5 := by kernel_rfl
attribute [go_sem] fd_100_5
theorem fa_100_6 (id off : Nat) : fieldAddrT Go.Proofs.Try.prog 100 (.ptr id off) 6 = some (.ptr id (off + 6)) := by kernel_rfl
attribute [go_sem] fa_100_6
theorem fd_100_6 (cs : List CV) : fieldT Go.Proofs.Try.prog 100 (.agg cs) 6 = partT Go.Proofs.Try.prog 95 cs 6 := by kernel_rfl
attribute [go_sem] fd_100_6
theorem fa_100_7 (id off : Nat) : fieldAddrT Go.Proofs.Try.prog 100 (.ptr id off) 7 = some (.ptr id (off + 7)) := by kernel_rfl
attribute [go_sem] fa_100_7
theorem fd_100_7 (cs : List CV) : fieldT Go.Proofs.Try.prog 100 (.agg cs) 7 = partT Go.Proofs.Try.prog 96 cs 7 := by kernel_rfl
attribute [go_sem] fd_100_7
theorem fa_100_8 (id off : Nat) : fieldAddrT Go.Proofs.Try.prog 100 (.ptr id off) 8 = some (.ptr id (off + 8)) := by kernel_rfl
attribute [go_sem] fa_100_8
theorem fd_100_8 (cs : List CV) : fieldT Go.Proofs.Try.prog 100 (.agg cs) 8 = partT Go.Proofs.Try.prog 97 cs 8 := by kernel_rfl
attribute [go_sem] fd_100_8
theorem fa_100_9 (id off : Nat) : fieldAddrT Go.Proofs.Try.prog 100 (.ptr id off) 9 = some (.ptr id (off + 9)) := by kernel_rfl
attribute [go_sem] fa_100_9
theorem fd_100_9 (cs : List CV) : fieldT Go.Proofs.Try.prog 100 (.agg cs) 9 = partT Go.Proofs.Try.prog 98 cs 9 := by kernel_rfl
attribute [go_sem] fd_100_9
theorem fa_100_10 (id off : Nat) : fieldAddrT Go.Proofs.Try.prog 100 (.ptr id off) 10 = some (.ptr id (off + 10)) := by kernel_rfl
attribute [go_sem] fa_100_10
theorem fd_100_10 (cs : List CV) : fieldT Go.Proofs.Try.prog 100 (.agg cs) 10 = partT Go.Proofs.Try.prog 99 cs 10 := by kernel_rfl
attribute [go_sem] fd_100_10
theorem sz_101 : szOf Go.Proofs.Try.prog 101 = some 11 := by kernel_rfl
attribute [go_sem] sz_101
theorem ld_101 (h : H) (id off : Nat) : loadT Go.Proofs.Try.prog h 101 id off = @thn _ _ (h.blk id) ⟨fun b => (b.loadN off 11).map .agg⟩ := by kernel_rfl
attribute [go_sem] ld_101
theorem st_101 (h : H) (id off : Nat) (v : CV) : storeT Go.Proofs.Try.prog h 101 id off v = @thn _ _ (h.blk id) ⟨fun b => cond (Nat.beq v.cells.length 11 && !b.ro) ((b.storeA off v.cells).map fun b' => h.put id (.cells b')) none⟩ := by kernel_rfl
attribute [go_sem] st_101
theorem part_101 (cs : List CV) (off : Nat) : partT Go.Proofs.Try.prog 101 cs off = some (.agg ((cs.drop off).take 11)) := by kernel_rfl
attribute [go_sem] part_101
theorem ze_101 : zeroT Go.Proofs.Try.prog 101 = some (.agg [.int .u64 0, .int .u64 0, .int .u32 0, .int .u8 0, .int .u8 0, .int .u8 0, .int .u8 0, .nilf, .nilp, .int .i32 0, .int .i32 0]) := by kernel_rfl
attribute [go_sem] ze_101
theorem bt_101 (parts : List (Nat × CV)) : buildT Go.Proofs.Try.prog 101 parts = finB (CV.cells (.agg [.int .u64 0, .int .u64 0, .int .u32 0, .int .u8 0, .int .u8 0, .int .u8 0, .int .u8 0, .nilf, .nilp, .int .i32 0, .int .i32 0])) (nth [(0, 1), (1, 1), (2, 1), (3, 1), (4, 1), (5, 1), (6, 1), (7, 1), (8, 1), (9, 1), (10, 1)]) parts := by kernel_rfl
attribute [go_sem] bt_101
theorem fa_101_0 (id off : Nat) : fieldAddrT Go.Proofs.Try.prog 101 (.ptr id off) 0 = some (.ptr id (off)) := by kernel_rfl
attribute [go_sem] fa_101_0
theorem fd_101_0 (cs : List CV) : fieldT Go.Proofs.Try.prog 101 (.agg cs) 0 = partT Go.Proofs.Try.prog 12 cs 0 := by kernel_rfl
attribute [go_sem] fd_101_0
theorem fa_101_1 (id off : Nat) : fieldAddrT Go.Proofs.Try.prog 101 (.ptr id off) 1 = some (.ptr id (off + 1)) := by kernel_rfl
attribute [go_sem] fa_101_1
theorem fd_101_1 (cs : List CV) : fieldT Go.Proofs.Try.prog 101 (.agg cs) 1 = partT Go.Proofs.Try.prog 12 cs 1 := by kernel_rfl
attribute [go_sem] fd_101_1
theorem fa_101_2 (id off : Nat) : fieldAddrT Go.Proofs.Try.prog 101 (.ptr id off) 2 = some (.ptr id (off + 2)) := by kernel_rfl
attribute [go_sem] fa_101_2
theorem fd_101_2 (cs : List CV) : fieldT Go.Proofs.Try.prog 101 (.agg cs) 2 = partT Go.Proofs.Try.prog 76 cs 2 := by kernel_rfl
attribute [go_sem] fd_101_2
theorem fa_101_3 (id off : Nat) : fieldAddrT Go.Proofs.Try.prog 101 (.ptr id off) 3 = some (.ptr id (off + 3)) := by kernel_rfl
attribute [go_sem] fa_101_3
theorem fd_101_3 (cs : List CV) : fieldT Go.Proofs.Try.prog 101 (.agg cs) 3 = partT Go.Proofs.Try.prog 94 cs 3 := by kernel_rfl
attribute [go_sem] fd_101_3
theorem fa_101_4 (id off : Nat) : fieldAddrT Go.Proofs.Try.prog 101 (.ptr id off) 4 = some (.ptr id (off + 4)) := by kernel_rfl
attribute [go_sem] fa_101_4
theorem fd_101_4 (cs : List CV) : fieldT Go.Proofs.Try.prog 101 (.agg cs) 4 = partT Go.Proofs.Try.prog 5 cs 4 := by kernel_rfl
attribute [go_sem] fd_101_4
theorem fa_101_5 (id off : Nat) : fieldAddrT Go.Proofs.Try.prog 101 (.ptr id off) 5 = some (.ptr id (off + 5)) := by kernel_rfl
attribute [go_sem] fa_101_5
theorem fd_101_5 (cs : List CV) : fieldT Go.Proofs.Try.prog 101 (.agg cs) 5 = partT Go.Proofs.Try.prog 5 cs 5 := by kernel_rfl
attribute [go_sem] fd_101_5
theorem fa_101_6 (id off : Nat) : fieldAddrT Go.Proofs.Try.prog 101 (.ptr id off) 6 = some (.ptr id (off + 6)) := by kernel_rfl
attribute [go_sem] fa_101_6
theorem fd_101_6 (cs : List CV) : fieldT Go.Proofs.Try.prog 101 (.agg cs) 6 = partT Go.Proofs.Try.prog 95 cs 6 := by kernel_rfl
attribute [go_sem] fd_101_6
theorem fa_101_7 (id off : Nat) : fieldAddrT Go.Proofs.Try.prog 101 (.ptr id off) 7 = some (.ptr id (off + 7)) := by kernel_rfl
attribute [go_sem] fa_101_7
theorem fd_101_7 (cs : List CV) : fieldT Go.Proofs.Try.prog 101 (.agg cs) 7 = partT Go.Proofs.Try.prog 96 cs 7 := by kernel_rfl
attribute [go_sem] fd_101_7
theorem fa_101_8 (id off : Nat) : fieldAddrT Go.Proofs.Try.prog 101 (.ptr id off) 8 = some (.ptr id (off + 8)) := by kernel_rfl
attribute [go_sem] fa_101_8
theorem fd_101_8 (cs : List CV) : fieldT Go.Proofs.Try.prog 101 (.agg cs) 8 = partT Go.Proofs.Try.prog 97 cs 8 := by kernel_rfl
attribute [go_sem] fd_101_8
theorem fa_101_9 (id off : Nat) : fieldAddrT Go.Proofs.Try.prog 101 (.ptr id off) 9 = some (.ptr id (off + 9)) := by kernel_rfl
attribute [go_sem] fa_101_9
theorem fd_101_9 (cs : List CV) : fieldT Go.Proofs.Try.prog 101 (.agg cs) 9 = partT Go.Proofs.Try.prog 98 cs 9 := by kernel_rfl
attribute [go_sem] fd_101_9
theorem fa_101_10 (id off : Nat) : fieldAddrT Go.Proofs.Try.prog 101 (.ptr id off) 10 = some (.ptr id (off + 10)) := by kernel_rfl
attribute [go_sem] fa_101_10
theorem fd_101_10 (cs : List CV) : fieldT Go.Proofs.Try.prog 101 (.agg cs) 10 = partT Go.Proofs.Try.prog 99 cs 10 := by kernel_rfl
attribute [go_sem] fd_101_10
theorem sz_102 : szOf Go.Proofs.Try.prog 102 = some 1 := by kernel_rfl
attribute [go_sem] sz_102
theorem ld_102 (h : H) (id off : Nat) : loadT Go.Proofs.Try.prog h 102 id off = @thn _ _ (h.blk id) ⟨fun b => b.get off⟩ := by kernel_rfl
attribute [go_sem] ld_102
theorem st_102 (h : H) (id off : Nat) (v : CV) : storeT Go.Proofs.Try.prog h 102 id off v = @thn _ _ (h.blk id) ⟨fun b => cond (Nat.beq v.cells.length 1 && !b.ro) ((b.storeA off v.cells).map fun b' => h.put id (.cells b')) none⟩ := by kernel_rfl
attribute [go_sem] st_102
theorem part_102 (cs : List CV) (off : Nat) : partT Go.Proofs.Try.prog 102 cs off = nth cs off := by kernel_rfl
attribute [go_sem] part_102
theorem ze_102 : zeroT Go.Proofs.Try.prog 102 = some (.nilp) := by kernel_rfl
attribute [go_sem] ze_102
theorem cv_3_65 (h : H) (k : IntKind) (x : Int) : convT Go.Proofs.Try.prog h 3 65 (.int k x) = some (.val (.int .u64 (IntKind.wrap .u64 x))) := by kernel_rfl
attribute [go_sem] cv_3_65
theorem cv_65_76 (h : H) (k : IntKind) (x : Int) : convT Go.Proofs.Try.prog h 65 76 (.int k x) = some (.val (.int .u32 (IntKind.wrap .u32 x))) := by kernel_rfl
attribute [go_sem] cv_65_76
theorem cv_3_79 (h : H) (k : IntKind) (x : Int) : convT Go.Proofs.Try.prog h 3 79 (.int k x) = some (.val (.int .u64 (IntKind.wrap .u64 x))) := by kernel_rfl
attribute [go_sem] cv_3_79
theorem cv_65_3 (h : H) (k : IntKind) (x : Int) : convT Go.Proofs.Try.prog h 65 3 (.int k x) = some (.val (.int .i64 (IntKind.wrap .i64 x))) := by kernel_rfl
attribute [go_sem] cv_65_3
theorem cv_76_5 (h : H) (k : IntKind) (x : Int) : convT Go.Proofs.Try.prog h 76 5 (.int k x) = some (.val (.int .u8 (IntKind.wrap .u8 x))) := by kernel_rfl
attribute [go_sem] cv_76_5
theorem cv_5_3 (h : H) (k : IntKind) (x : Int) : convT Go.Proofs.Try.prog h 5 3 (.int k x) = some (.val (.int .i64 (IntKind.wrap .i64 x))) := by kernel_rfl
attribute [go_sem] cv_5_3
theorem cv_78_5 (h : H) (k : IntKind) (x : Int) : convT Go.Proofs.Try.prog h 78 5 (.int k x) = some (.val (.int .u8 (IntKind.wrap .u8 x))) := by kernel_rfl
attribute [go_sem] cv_78_5
theorem eq_20 (xo yo : Operand) (u : TypeId) (v : CV) : binT Go.Proofs.Try.prog .eql 20 xo yo (.ifc u v) .nili = some (.bool false) := by kernel_rfl
attribute [go_sem] eq_20
theorem eq_20_n (n : Nat) (v : Value) : binT Go.Proofs.Try.prog .eql 20 (.tmp n) (.const v) .nili .nili = some (.bool true) := by kernel_rfl
attribute [go_sem] eq_20_n
theorem ne_20 (xo yo : Operand) (u : TypeId) (v : CV) : binT Go.Proofs.Try.prog .neq 20 xo yo (.ifc u v) .nili = some (.bool true) := by kernel_rfl
attribute [go_sem] ne_20
theorem ne_20_n (n : Nat) (v : Value) : binT Go.Proofs.Try.prog .neq 20 (.tmp n) (.const v) .nili .nili = some (.bool false) := by kernel_rfl
attribute [go_sem] ne_20_n
theorem fn_2 : nth Go.Proofs.Try.prog.funcs.toList 2 = some Go.Proofs.Try.f2 := by kernel_rfl
attribute [go_sem] fn_2
theorem tx_2 : isTextO Go.Proofs.Try.prog 2 = some () := by kernel_rfl
attribute [go_sem] tx_2
theorem fn_3 : nth Go.Proofs.Try.prog.funcs.toList 3 = some Go.Proofs.Try.f3 := by kernel_rfl
attribute [go_sem] fn_3
theorem tx_3 : isTextO Go.Proofs.Try.prog 3 = some () := by kernel_rfl
attribute [go_sem] tx_3
theorem fn_4 : nth Go.Proofs.Try.prog.funcs.toList 4 = some Go.Proofs.Try.f4 := by kernel_rfl
attribute [go_sem] fn_4
theorem tx_4 : isTextO Go.Proofs.Try.prog 4 = some () := by kernel_rfl
attribute [go_sem] tx_4
theorem fn_5 : nth Go.Proofs.Try.prog.funcs.toList 5 = some Go.Proofs.Try.f5 := by kernel_rfl
attribute [go_sem] fn_5
theorem tx_5 : isTextO Go.Proofs.Try.prog 5 = some () := by kernel_rfl
attribute [go_sem] tx_5
theorem fn_6 : nth Go.Proofs.Try.prog.funcs.toList 6 = some Go.Proofs.Try.f6 := by kernel_rfl
attribute [go_sem] fn_6
theorem tx_6 : isTextO Go.Proofs.Try.prog 6 = some () := by kernel_rfl
attribute [go_sem] tx_6
theorem fn_7 : nth Go.Proofs.Try.prog.funcs.toList 7 = some Go.Proofs.Try.f7 := by kernel_rfl
attribute [go_sem] fn_7
theorem tx_7 : isTextO Go.Proofs.Try.prog 7 = some () := by kernel_rfl
attribute [go_sem] tx_7
theorem fn_8 : nth Go.Proofs.Try.prog.funcs.toList 8 = some Go.Proofs.Try.f8 := by kernel_rfl
attribute [go_sem] fn_8
theorem tx_8 : isTextO Go.Proofs.Try.prog 8 = some () := by kernel_rfl
attribute [go_sem] tx_8
theorem fn_9 : nth Go.Proofs.Try.prog.funcs.toList 9 = some Go.Proofs.Try.f9 := by kernel_rfl
attribute [go_sem] fn_9
theorem tx_9 : isTextO Go.Proofs.Try.prog 9 = some () := by kernel_rfl
attribute [go_sem] tx_9
theorem fn_10 : nth Go.Proofs.Try.prog.funcs.toList 10 = some Go.Proofs.Try.f10 := by kernel_rfl
attribute [go_sem] fn_10
theorem tx_10 : isTextO Go.Proofs.Try.prog 10 = some () := by kernel_rfl
attribute [go_sem] tx_10
theorem fn_11 : nth Go.Proofs.Try.prog.funcs.toList 11 = some Go.Proofs.Try.f11 := by kernel_rfl
attribute [go_sem] fn_11
theorem tx_11 : isTextO Go.Proofs.Try.prog 11 = some () := by kernel_rfl
attribute [go_sem] tx_11
theorem fn_12 : nth Go.Proofs.Try.prog.funcs.toList 12 = some Go.Proofs.Try.f12 := by kernel_rfl
attribute [go_sem] fn_12
theorem tx_12 : isTextO Go.Proofs.Try.prog 12 = some () := by kernel_rfl
attribute [go_sem] tx_12
theorem fn_13 : nth Go.Proofs.Try.prog.funcs.toList 13 = some Go.Proofs.Try.f13 := by kernel_rfl
attribute [go_sem] fn_13
theorem tx_13 : isTextO Go.Proofs.Try.prog 13 = some () := by kernel_rfl
attribute [go_sem] tx_13
theorem fn_14 : nth Go.Proofs.Try.prog.funcs.toList 14 = some Go.Proofs.Try.f14 := by kernel_rfl
attribute [go_sem] fn_14
theorem tx_14 : isTextO Go.Proofs.Try.prog 14 = some () := by kernel_rfl
attribute [go_sem] tx_14
theorem fn_15 : nth Go.Proofs.Try.prog.funcs.toList 15 = some Go.Proofs.Try.f15 := by kernel_rfl
attribute [go_sem] fn_15
theorem tx_15 : isTextO Go.Proofs.Try.prog 15 = some () := by kernel_rfl
attribute [go_sem] tx_15
theorem fn_16 : nth Go.Proofs.Try.prog.funcs.toList 16 = some Go.Proofs.Try.f16 := by kernel_rfl
attribute [go_sem] fn_16
theorem tx_16 : isTextO Go.Proofs.Try.prog 16 = some () := by kernel_rfl
attribute [go_sem] tx_16
theorem fn_17 : nth Go.Proofs.Try.prog.funcs.toList 17 = some Go.Proofs.Try.f17 := by kernel_rfl
attribute [go_sem] fn_17
theorem tx_17 : isTextO Go.Proofs.Try.prog 17 = some () := by kernel_rfl
attribute [go_sem] tx_17
theorem fn_18 : nth Go.Proofs.Try.prog.funcs.toList 18 = some Go.Proofs.Try.f18 := by kernel_rfl
attribute [go_sem] fn_18
theorem tx_18 : isTextO Go.Proofs.Try.prog 18 = some () := by kernel_rfl
attribute [go_sem] tx_18
theorem fn_19 : nth Go.Proofs.Try.prog.funcs.toList 19 = some Go.Proofs.Try.f19 := by kernel_rfl
attribute [go_sem] fn_19
theorem tx_19 : isTextO Go.Proofs.Try.prog 19 = some () := by kernel_rfl
attribute [go_sem] tx_19
theorem fn_20 : nth Go.Proofs.Try.prog.funcs.toList 20 = some Go.Proofs.Try.f20 := by kernel_rfl
attribute [go_sem] fn_20
theorem tx_20 : isTextO Go.Proofs.Try.prog 20 = some () := by kernel_rfl
attribute [go_sem] tx_20
theorem fn_21 : nth Go.Proofs.Try.prog.funcs.toList 21 = some Go.Proofs.Try.f21 := by kernel_rfl
attribute [go_sem] fn_21
theorem tx_21 : isTextO Go.Proofs.Try.prog 21 = some () := by kernel_rfl
attribute [go_sem] tx_21
theorem fn_22 : nth Go.Proofs.Try.prog.funcs.toList 22 = some Go.Proofs.Try.f22 := by kernel_rfl
attribute [go_sem] fn_22
theorem tx_22 : isTextO Go.Proofs.Try.prog 22 = some () := by kernel_rfl
attribute [go_sem] tx_22
theorem fn_23 : nth Go.Proofs.Try.prog.funcs.toList 23 = some Go.Proofs.Try.f23 := by kernel_rfl
attribute [go_sem] fn_23
theorem tx_23 : isTextO Go.Proofs.Try.prog 23 = some () := by kernel_rfl
attribute [go_sem] tx_23
theorem fn_24 : nth Go.Proofs.Try.prog.funcs.toList 24 = some Go.Proofs.Try.f24 := by kernel_rfl
attribute [go_sem] fn_24
theorem tx_24 : isTextO Go.Proofs.Try.prog 24 = some () := by kernel_rfl
attribute [go_sem] tx_24
theorem fn_25 : nth Go.Proofs.Try.prog.funcs.toList 25 = some Go.Proofs.Try.f25 := by kernel_rfl
attribute [go_sem] fn_25
theorem tx_25 : isTextO Go.Proofs.Try.prog 25 = some () := by kernel_rfl
attribute [go_sem] tx_25
theorem fn_26 : nth Go.Proofs.Try.prog.funcs.toList 26 = some Go.Proofs.Try.f26 := by kernel_rfl
attribute [go_sem] fn_26
theorem tx_26 : isTextO Go.Proofs.Try.prog 26 = some () := by kernel_rfl
attribute [go_sem] tx_26
theorem fn_27 : nth Go.Proofs.Try.prog.funcs.toList 27 = some Go.Proofs.Try.f27 := by kernel_rfl
attribute [go_sem] fn_27
theorem tx_27 : isTextO Go.Proofs.Try.prog 27 = some () := by kernel_rfl
attribute [go_sem] tx_27
theorem fn_28 : nth Go.Proofs.Try.prog.funcs.toList 28 = some Go.Proofs.Try.f28 := by kernel_rfl
attribute [go_sem] fn_28
theorem tx_28 : isTextO Go.Proofs.Try.prog 28 = some () := by kernel_rfl
attribute [go_sem] tx_28
theorem fn_29 : nth Go.Proofs.Try.prog.funcs.toList 29 = some Go.Proofs.Try.f29 := by kernel_rfl
attribute [go_sem] fn_29
theorem tx_29 : isTextO Go.Proofs.Try.prog 29 = some () := by kernel_rfl
attribute [go_sem] tx_29
theorem fn_30 : nth Go.Proofs.Try.prog.funcs.toList 30 = some Go.Proofs.Try.f30 := by kernel_rfl
attribute [go_sem] fn_30
theorem tx_30 : isTextO Go.Proofs.Try.prog 30 = some () := by kernel_rfl
attribute [go_sem] tx_30
theorem fn_31 : nth Go.Proofs.Try.prog.funcs.toList 31 = some Go.Proofs.Try.f31 := by kernel_rfl
attribute [go_sem] fn_31
theorem tx_31 : isTextO Go.Proofs.Try.prog 31 = some () := by kernel_rfl
attribute [go_sem] tx_31
theorem fn_32 : nth Go.Proofs.Try.prog.funcs.toList 32 = some Go.Proofs.Try.f32 := by kernel_rfl
attribute [go_sem] fn_32
theorem tx_32 : isTextO Go.Proofs.Try.prog 32 = some () := by kernel_rfl
attribute [go_sem] tx_32
theorem fn_33 : nth Go.Proofs.Try.prog.funcs.toList 33 = some Go.Proofs.Try.f33 := by kernel_rfl
attribute [go_sem] fn_33
theorem tx_33 : isTextO Go.Proofs.Try.prog 33 = some () := by kernel_rfl
attribute [go_sem] tx_33
theorem fn_34 : nth Go.Proofs.Try.prog.funcs.toList 34 = some Go.Proofs.Try.f34 := by kernel_rfl
attribute [go_sem] fn_34
theorem tx_34 : isTextO Go.Proofs.Try.prog 34 = some () := by kernel_rfl
attribute [go_sem] tx_34
theorem fn_35 : nth Go.Proofs.Try.prog.funcs.toList 35 = some Go.Proofs.Try.f35 := by kernel_rfl
attribute [go_sem] fn_35
theorem tx_35 : isTextO Go.Proofs.Try.prog 35 = some () := by kernel_rfl
attribute [go_sem] tx_35
theorem fn_36 : nth Go.Proofs.Try.prog.funcs.toList 36 = some Go.Proofs.Try.f36 := by kernel_rfl
attribute [go_sem] fn_36
theorem tx_36 : isTextO Go.Proofs.Try.prog 36 = some () := by kernel_rfl
attribute [go_sem] tx_36
theorem fn_37 : nth Go.Proofs.Try.prog.funcs.toList 37 = some Go.Proofs.Try.f37 := by kernel_rfl
attribute [go_sem] fn_37
theorem tx_37 : isTextO Go.Proofs.Try.prog 37 = some () := by kernel_rfl
attribute [go_sem] tx_37
theorem fn_38 : nth Go.Proofs.Try.prog.funcs.toList 38 = some Go.Proofs.Try.f38 := by kernel_rfl
attribute [go_sem] fn_38
theorem tx_38 : isTextO Go.Proofs.Try.prog 38 = some () := by kernel_rfl
attribute [go_sem] tx_38
theorem fn_39 : nth Go.Proofs.Try.prog.funcs.toList 39 = some Go.Proofs.Try.f39 := by kernel_rfl
attribute [go_sem] fn_39
theorem tx_39 : isTextO Go.Proofs.Try.prog 39 = some () := by kernel_rfl
attribute [go_sem] tx_39
theorem fn_40 : nth Go.Proofs.Try.prog.funcs.toList 40 = some Go.Proofs.Try.f40 := by kernel_rfl
attribute [go_sem] fn_40
theorem tx_40 : isTextO Go.Proofs.Try.prog 40 = some () := by kernel_rfl
attribute [go_sem] tx_40
theorem fn_41 : nth Go.Proofs.Try.prog.funcs.toList 41 = some Go.Proofs.Try.f41 := by kernel_rfl
attribute [go_sem] fn_41
theorem tx_41 : isTextO Go.Proofs.Try.prog 41 = some () := by kernel_rfl
attribute [go_sem] tx_41
theorem fn_42 : nth Go.Proofs.Try.prog.funcs.toList 42 = some Go.Proofs.Try.f42 := by kernel_rfl
attribute [go_sem] fn_42
theorem tx_42 : isTextO Go.Proofs.Try.prog 42 = some () := by kernel_rfl
attribute [go_sem] tx_42
theorem fn_43 : nth Go.Proofs.Try.prog.funcs.toList 43 = some Go.Proofs.Try.f43 := by kernel_rfl
attribute [go_sem] fn_43
theorem tx_43 : isTextO Go.Proofs.Try.prog 43 = some () := by kernel_rfl
attribute [go_sem] tx_43
theorem fn_44 : nth Go.Proofs.Try.prog.funcs.toList 44 = some Go.Proofs.Try.f44 := by kernel_rfl
attribute [go_sem] fn_44
theorem tx_44 : isTextO Go.Proofs.Try.prog 44 = some () := by kernel_rfl
attribute [go_sem] tx_44
theorem fn_45 : nth Go.Proofs.Try.prog.funcs.toList 45 = some Go.Proofs.Try.f45 := by kernel_rfl
attribute [go_sem] fn_45
theorem tx_45 : isTextO Go.Proofs.Try.prog 45 = some () := by kernel_rfl
attribute [go_sem] tx_45
theorem fn_46 : nth Go.Proofs.Try.prog.funcs.toList 46 = some Go.Proofs.Try.f46 := by kernel_rfl
attribute [go_sem] fn_46
theorem tx_46 : isTextO Go.Proofs.Try.prog 46 = some () := by kernel_rfl
attribute [go_sem] tx_46
theorem fn_47 : nth Go.Proofs.Try.prog.funcs.toList 47 = some Go.Proofs.Try.f47 := by kernel_rfl
attribute [go_sem] fn_47
theorem tx_47 : isTextO Go.Proofs.Try.prog 47 = some () := by kernel_rfl
attribute [go_sem] tx_47
theorem fn_48 : nth Go.Proofs.Try.prog.funcs.toList 48 = some Go.Proofs.Try.f48 := by kernel_rfl
attribute [go_sem] fn_48
theorem tx_48 : isTextO Go.Proofs.Try.prog 48 = some () := by kernel_rfl
attribute [go_sem] tx_48
theorem fn_49 : nth Go.Proofs.Try.prog.funcs.toList 49 = some Go.Proofs.Try.f49 := by kernel_rfl
attribute [go_sem] fn_49
theorem tx_49 : isTextO Go.Proofs.Try.prog 49 = some () := by kernel_rfl
attribute [go_sem] tx_49
theorem fn_50 : nth Go.Proofs.Try.prog.funcs.toList 50 = some Go.Proofs.Try.f50 := by kernel_rfl
attribute [go_sem] fn_50
theorem tx_50 : isTextO Go.Proofs.Try.prog 50 = some () := by kernel_rfl
attribute [go_sem] tx_50
theorem fn_51 : nth Go.Proofs.Try.prog.funcs.toList 51 = some Go.Proofs.Try.f51 := by kernel_rfl
attribute [go_sem] fn_51
theorem tx_51 : isTextO Go.Proofs.Try.prog 51 = some () := by kernel_rfl
attribute [go_sem] tx_51
theorem fn_52 : nth Go.Proofs.Try.prog.funcs.toList 52 = some Go.Proofs.Try.f52 := by kernel_rfl
attribute [go_sem] fn_52
theorem tx_52 : isTextO Go.Proofs.Try.prog 52 = some () := by kernel_rfl
attribute [go_sem] tx_52
theorem fn_53 : nth Go.Proofs.Try.prog.funcs.toList 53 = some Go.Proofs.Try.f53 := by kernel_rfl
attribute [go_sem] fn_53
theorem tx_53 : isTextO Go.Proofs.Try.prog 53 = some () := by kernel_rfl
attribute [go_sem] tx_53
theorem fn_54 : nth Go.Proofs.Try.prog.funcs.toList 54 = some Go.Proofs.Try.f54 := by kernel_rfl
attribute [go_sem] fn_54
theorem tx_54 : isTextO Go.Proofs.Try.prog 54 = some () := by kernel_rfl
attribute [go_sem] tx_54
theorem fn_55 : nth Go.Proofs.Try.prog.funcs.toList 55 = some Go.Proofs.Try.f55 := by kernel_rfl
attribute [go_sem] fn_55
theorem tx_55 : isTextO Go.Proofs.Try.prog 55 = some () := by kernel_rfl
attribute [go_sem] tx_55
end Go.Cl.Sh
