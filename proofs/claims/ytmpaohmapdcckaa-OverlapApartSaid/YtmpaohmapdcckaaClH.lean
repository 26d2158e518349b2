/- Facts of the program's tables, each read off by the kernel. -/
import Derived.Attr
import Derived.KernelRfl
import Derived.Test.YtmpaohmapdcckaaProg
import Derived.Test.YtmpaohmapdcckaaClG
set_option linter.all false
namespace Go.Cl.O
open Go Go.Cl
theorem sz_0 : szOf Go.Proofs.Try.prog 0 = some 1 := by kernel_rfl
attribute [go_sem] sz_0
theorem ld_0 (h : H) (id off : Nat) : loadT Go.Proofs.Try.prog h 0 id off = @thn _ _ (h.blk id) ⟨fun b => b.get off⟩ := by kernel_rfl
attribute [go_sem] ld_0
theorem st_0 (h : H) (id off : Nat) (v : CV) : storeT Go.Proofs.Try.prog h 0 id off v = @thn _ _ (h.blk id) ⟨fun b => cond (Nat.beq v.cells.length 1 && !b.ro) ((b.storeA off v.cells).map fun b' => h.put id (.cells b')) none⟩ := by kernel_rfl
attribute [go_sem] st_0
theorem part_0 (cs : List CV) (off : Nat) : partT Go.Proofs.Try.prog 0 cs off = nth cs off := by kernel_rfl
attribute [go_sem] part_0
theorem sz_1 : szOf Go.Proofs.Try.prog 1 = some 1 := by kernel_rfl
attribute [go_sem] sz_1
theorem ld_1 (h : H) (id off : Nat) : loadT Go.Proofs.Try.prog h 1 id off = @thn _ _ (h.blk id) ⟨fun b => b.get off⟩ := by kernel_rfl
attribute [go_sem] ld_1
theorem st_1 (h : H) (id off : Nat) (v : CV) : storeT Go.Proofs.Try.prog h 1 id off v = @thn _ _ (h.blk id) ⟨fun b => cond (Nat.beq v.cells.length 1 && !b.ro) ((b.storeA off v.cells).map fun b' => h.put id (.cells b')) none⟩ := by kernel_rfl
attribute [go_sem] st_1
theorem part_1 (cs : List CV) (off : Nat) : partT Go.Proofs.Try.prog 1 cs off = nth cs off := by kernel_rfl
attribute [go_sem] part_1
theorem ze_1 : zeroT Go.Proofs.Try.prog 1 = some (.nilf) := by kernel_rfl
attribute [go_sem] ze_1
theorem eq_1 (xo yo : Operand) (f : Fn) (a b : List CV) : binT Go.Proofs.Try.prog .eql 1 xo yo (.fn f a b) .nilf = some (.bool false) := by kernel_rfl
attribute [go_sem] eq_1
theorem eq_1_n (xo yo : Operand) : binT Go.Proofs.Try.prog .eql 1 xo yo .nilf .nilf = some (.bool true) := by kernel_rfl
attribute [go_sem] eq_1_n
theorem ne_1 (xo yo : Operand) (f : Fn) (a b : List CV) : binT Go.Proofs.Try.prog .neq 1 xo yo (.fn f a b) .nilf = some (.bool true) := by kernel_rfl
attribute [go_sem] ne_1
theorem ne_1_n (xo yo : Operand) : binT Go.Proofs.Try.prog .neq 1 xo yo .nilf .nilf = some (.bool false) := by kernel_rfl
attribute [go_sem] ne_1_n
theorem sz_2 : szOf Go.Proofs.Try.prog 2 = some 1 := by kernel_rfl
attribute [go_sem] sz_2
theorem ld_2 (h : H) (id off : Nat) : loadT Go.Proofs.Try.prog h 2 id off = @thn _ _ (h.blk id) ⟨fun b => b.get off⟩ := by kernel_rfl
attribute [go_sem] ld_2
theorem st_2 (h : H) (id off : Nat) (v : CV) : storeT Go.Proofs.Try.prog h 2 id off v = @thn _ _ (h.blk id) ⟨fun b => cond (Nat.beq v.cells.length 1 && !b.ro) ((b.storeA off v.cells).map fun b' => h.put id (.cells b')) none⟩ := by kernel_rfl
attribute [go_sem] st_2
theorem part_2 (cs : List CV) (off : Nat) : partT Go.Proofs.Try.prog 2 cs off = nth cs off := by kernel_rfl
attribute [go_sem] part_2
theorem ze_2 : zeroT Go.Proofs.Try.prog 2 = some (.int .i64 0) := by kernel_rfl
attribute [go_sem] ze_2
theorem sz_3 : szOf Go.Proofs.Try.prog 3 = some 1 := by kernel_rfl
attribute [go_sem] sz_3
theorem ld_3 (h : H) (id off : Nat) : loadT Go.Proofs.Try.prog h 3 id off = @thn _ _ (h.blk id) ⟨fun b => b.get off⟩ := by kernel_rfl
attribute [go_sem] ld_3
theorem st_3 (h : H) (id off : Nat) (v : CV) : storeT Go.Proofs.Try.prog h 3 id off v = @thn _ _ (h.blk id) ⟨fun b => cond (Nat.beq v.cells.length 1 && !b.ro) ((b.storeA off v.cells).map fun b' => h.put id (.cells b')) none⟩ := by kernel_rfl
attribute [go_sem] st_3
theorem part_3 (cs : List CV) (off : Nat) : partT Go.Proofs.Try.prog 3 cs off = nth cs off := by kernel_rfl
attribute [go_sem] part_3
theorem ze_3 : zeroT Go.Proofs.Try.prog 3 = some (.int .i64 0) := by kernel_rfl
attribute [go_sem] ze_3
theorem sz_4 : szOf Go.Proofs.Try.prog 4 = some 1 := by kernel_rfl
attribute [go_sem] sz_4
theorem ld_4 (h : H) (id off : Nat) : loadT Go.Proofs.Try.prog h 4 id off = @thn _ _ (h.blk id) ⟨fun b => b.get off⟩ := by kernel_rfl
attribute [go_sem] ld_4
theorem st_4 (h : H) (id off : Nat) (v : CV) : storeT Go.Proofs.Try.prog h 4 id off v = @thn _ _ (h.blk id) ⟨fun b => cond (Nat.beq v.cells.length 1 && !b.ro) ((b.storeA off v.cells).map fun b' => h.put id (.cells b')) none⟩ := by kernel_rfl
attribute [go_sem] st_4
theorem part_4 (cs : List CV) (off : Nat) : partT Go.Proofs.Try.prog 4 cs off = nth cs off := by kernel_rfl
attribute [go_sem] part_4
theorem ze_4 : zeroT Go.Proofs.Try.prog 4 = some (.bool false) := by kernel_rfl
attribute [go_sem] ze_4
theorem eq_4 (xo yo : Operand) (a b : Bool) : binT Go.Proofs.Try.prog .eql 4 xo yo (.bool a) (.bool b) = some (.bool (a == b)) := by kernel_rfl
attribute [go_sem] eq_4
theorem ne_4 (xo yo : Operand) (a b : Bool) : binT Go.Proofs.Try.prog .neq 4 xo yo (.bool a) (.bool b) = some (.bool (!(a == b))) := by kernel_rfl
attribute [go_sem] ne_4
theorem sz_5 : szOf Go.Proofs.Try.prog 5 = some 1 := by kernel_rfl
attribute [go_sem] sz_5
theorem ld_5 (h : H) (id off : Nat) : loadT Go.Proofs.Try.prog h 5 id off = @thn _ _ (h.blk id) ⟨fun b => b.get off⟩ := by kernel_rfl
attribute [go_sem] ld_5
theorem st_5 (h : H) (id off : Nat) (v : CV) : storeT Go.Proofs.Try.prog h 5 id off v = @thn _ _ (h.blk id) ⟨fun b => cond (Nat.beq v.cells.length 1 && !b.ro) ((b.storeA off v.cells).map fun b' => h.put id (.cells b')) none⟩ := by kernel_rfl
attribute [go_sem] st_5
theorem part_5 (cs : List CV) (off : Nat) : partT Go.Proofs.Try.prog 5 cs off = nth cs off := by kernel_rfl
attribute [go_sem] part_5
theorem ze_5 : zeroT Go.Proofs.Try.prog 5 = some (.int .u8 0) := by kernel_rfl
attribute [go_sem] ze_5
theorem sz_6 : szOf Go.Proofs.Try.prog 6 = some 1 := by kernel_rfl
attribute [go_sem] sz_6
theorem ld_6 (h : H) (id off : Nat) : loadT Go.Proofs.Try.prog h 6 id off = @thn _ _ (h.blk id) ⟨fun b => b.get off⟩ := by kernel_rfl
attribute [go_sem] ld_6
theorem st_6 (h : H) (id off : Nat) (v : CV) : storeT Go.Proofs.Try.prog h 6 id off v = @thn _ _ (h.blk id) ⟨fun b => cond (Nat.beq v.cells.length 1 && !b.ro) ((b.storeA off v.cells).map fun b' => h.put id (.cells b')) none⟩ := by kernel_rfl
attribute [go_sem] st_6
theorem part_6 (cs : List CV) (off : Nat) : partT Go.Proofs.Try.prog 6 cs off = nth cs off := by kernel_rfl
attribute [go_sem] part_6
theorem ze_6 : zeroT Go.Proofs.Try.prog 6 = some (.int .u8 0) := by kernel_rfl
attribute [go_sem] ze_6
theorem sz_7 : szOf Go.Proofs.Try.prog 7 = some 4 := by kernel_rfl
attribute [go_sem] sz_7
theorem ld_7 (h : H) (id off : Nat) : loadT Go.Proofs.Try.prog h 7 id off = @thn _ _ (h.blk id) ⟨fun b => (b.loadN off 4).map .agg⟩ := by kernel_rfl
attribute [go_sem] ld_7
theorem st_7 (h : H) (id off : Nat) (v : CV) : storeT Go.Proofs.Try.prog h 7 id off v = @thn _ _ (h.blk id) ⟨fun b => cond (Nat.beq v.cells.length 4 && !b.ro) ((b.storeA off v.cells).map fun b' => h.put id (.cells b')) none⟩ := by kernel_rfl
attribute [go_sem] st_7
theorem part_7 (cs : List CV) (off : Nat) : partT Go.Proofs.Try.prog 7 cs off = some (.agg ((cs.drop off).take 4)) := by kernel_rfl
attribute [go_sem] part_7
theorem ze_7 : zeroT Go.Proofs.Try.prog 7 = some (.agg [.int .i64 0, .int .i64 0, .bool false, .int .u8 0]) := by kernel_rfl
attribute [go_sem] ze_7
theorem bt_7 (parts : List (Nat × CV)) : buildT Go.Proofs.Try.prog 7 parts = finB (CV.cells (.agg [.int .i64 0, .int .i64 0, .bool false, .int .u8 0])) (nth [(0, 1), (1, 1), (2, 1), (3, 1)]) parts := by kernel_rfl
attribute [go_sem] bt_7
theorem fa_7_0 (id off : Nat) : fieldAddrT Go.Proofs.Try.prog 7 (.ptr id off) 0 = some (.ptr id (off)) := by kernel_rfl
attribute [go_sem] fa_7_0
theorem fd_7_0 (cs : List CV) : fieldT Go.Proofs.Try.prog 7 (.agg cs) 0 = partT Go.Proofs.Try.prog 2 cs 0 := by kernel_rfl
attribute [go_sem] fd_7_0
theorem fa_7_1 (id off : Nat) : fieldAddrT Go.Proofs.Try.prog 7 (.ptr id off) 1 = some (.ptr id (off + 1)) := by kernel_rfl
attribute [go_sem] fa_7_1
theorem fd_7_1 (cs : List CV) : fieldT Go.Proofs.Try.prog 7 (.agg cs) 1 = partT Go.Proofs.Try.prog 3 cs 1 := by kernel_rfl
attribute [go_sem] fd_7_1
theorem fa_7_2 (id off : Nat) : fieldAddrT Go.Proofs.Try.prog 7 (.ptr id off) 2 = some (.ptr id (off + 2)) := by kernel_rfl
attribute [go_sem] fa_7_2
theorem fd_7_2 (cs : List CV) : fieldT Go.Proofs.Try.prog 7 (.agg cs) 2 = partT Go.Proofs.Try.prog 4 cs 2 := by kernel_rfl
attribute [go_sem] fd_7_2
theorem fa_7_3 (id off : Nat) : fieldAddrT Go.Proofs.Try.prog 7 (.ptr id off) 3 = some (.ptr id (off + 3)) := by kernel_rfl
attribute [go_sem] fa_7_3
theorem fd_7_3 (cs : List CV) : fieldT Go.Proofs.Try.prog 7 (.agg cs) 3 = partT Go.Proofs.Try.prog 6 cs 3 := by kernel_rfl
attribute [go_sem] fd_7_3
theorem sz_8 : szOf Go.Proofs.Try.prog 8 = some 4 := by kernel_rfl
attribute [go_sem] sz_8
theorem ld_8 (h : H) (id off : Nat) : loadT Go.Proofs.Try.prog h 8 id off = @thn _ _ (h.blk id) ⟨fun b => (b.loadN off 4).map .agg⟩ := by kernel_rfl
attribute [go_sem] ld_8
theorem st_8 (h : H) (id off : Nat) (v : CV) : storeT Go.Proofs.Try.prog h 8 id off v = @thn _ _ (h.blk id) ⟨fun b => cond (Nat.beq v.cells.length 4 && !b.ro) ((b.storeA off v.cells).map fun b' => h.put id (.cells b')) none⟩ := by kernel_rfl
attribute [go_sem] st_8
theorem part_8 (cs : List CV) (off : Nat) : partT Go.Proofs.Try.prog 8 cs off = some (.agg ((cs.drop off).take 4)) := by kernel_rfl
attribute [go_sem] part_8
theorem ze_8 : zeroT Go.Proofs.Try.prog 8 = some (.agg [.int .i64 0, .int .i64 0, .bool false, .int .u8 0]) := by kernel_rfl
attribute [go_sem] ze_8
theorem bt_8 (parts : List (Nat × CV)) : buildT Go.Proofs.Try.prog 8 parts = finB (CV.cells (.agg [.int .i64 0, .int .i64 0, .bool false, .int .u8 0])) (nth [(0, 1), (1, 1), (2, 1), (3, 1)]) parts := by kernel_rfl
attribute [go_sem] bt_8
theorem fa_8_0 (id off : Nat) : fieldAddrT Go.Proofs.Try.prog 8 (.ptr id off) 0 = some (.ptr id (off)) := by kernel_rfl
attribute [go_sem] fa_8_0
theorem fd_8_0 (cs : List CV) : fieldT Go.Proofs.Try.prog 8 (.agg cs) 0 = partT Go.Proofs.Try.prog 2 cs 0 := by kernel_rfl
attribute [go_sem] fd_8_0
theorem fa_8_1 (id off : Nat) : fieldAddrT Go.Proofs.Try.prog 8 (.ptr id off) 1 = some (.ptr id (off + 1)) := by kernel_rfl
attribute [go_sem] fa_8_1
theorem fd_8_1 (cs : List CV) : fieldT Go.Proofs.Try.prog 8 (.agg cs) 1 = partT Go.Proofs.Try.prog 3 cs 1 := by kernel_rfl
attribute [go_sem] fd_8_1
theorem fa_8_2 (id off : Nat) : fieldAddrT Go.Proofs.Try.prog 8 (.ptr id off) 2 = some (.ptr id (off + 2)) := by kernel_rfl
attribute [go_sem] fa_8_2
theorem fd_8_2 (cs : List CV) : fieldT Go.Proofs.Try.prog 8 (.agg cs) 2 = partT Go.Proofs.Try.prog 4 cs 2 := by kernel_rfl
attribute [go_sem] fd_8_2
theorem fa_8_3 (id off : Nat) : fieldAddrT Go.Proofs.Try.prog 8 (.ptr id off) 3 = some (.ptr id (off + 3)) := by kernel_rfl
attribute [go_sem] fa_8_3
theorem fd_8_3 (cs : List CV) : fieldT Go.Proofs.Try.prog 8 (.agg cs) 3 = partT Go.Proofs.Try.prog 6 cs 3 := by kernel_rfl
attribute [go_sem] fd_8_3
theorem sz_9 : szOf Go.Proofs.Try.prog 9 = some 1 := by kernel_rfl
attribute [go_sem] sz_9
theorem ld_9 (h : H) (id off : Nat) : loadT Go.Proofs.Try.prog h 9 id off = @thn _ _ (h.blk id) ⟨fun b => b.get off⟩ := by kernel_rfl
attribute [go_sem] ld_9
theorem st_9 (h : H) (id off : Nat) (v : CV) : storeT Go.Proofs.Try.prog h 9 id off v = @thn _ _ (h.blk id) ⟨fun b => cond (Nat.beq v.cells.length 1 && !b.ro) ((b.storeA off v.cells).map fun b' => h.put id (.cells b')) none⟩ := by kernel_rfl
attribute [go_sem] st_9
theorem part_9 (cs : List CV) (off : Nat) : partT Go.Proofs.Try.prog 9 cs off = nth cs off := by kernel_rfl
attribute [go_sem] part_9
theorem ze_9 : zeroT Go.Proofs.Try.prog 9 = some (.str []) := by kernel_rfl
attribute [go_sem] ze_9
theorem ix_9 (s : List Nat) (k : Nat) (kd : IntKind) : indexT Go.Proofs.Try.prog 9 (.str s) (.int kd (Int.ofNat k)) = (nth s k).map fun b => .int .u8 (Int.ofNat b) := by kernel_rfl
attribute [go_sem] ix_9
theorem len_9 (h : H) (ts : List TypeId) (az : List CV) (s : List Nat) : builtinT Go.Proofs.Try.prog h .len (9 :: ts) (.str s :: az) = some (.val (.int .i64 (Int.ofNat s.length))) := by kernel_rfl
attribute [go_sem] len_9
theorem sz_10 : szOf Go.Proofs.Try.prog 10 = some 1 := by kernel_rfl
attribute [go_sem] sz_10
theorem ld_10 (h : H) (id off : Nat) : loadT Go.Proofs.Try.prog h 10 id off = @thn _ _ (h.blk id) ⟨fun b => b.get off⟩ := by kernel_rfl
attribute [go_sem] ld_10
theorem st_10 (h : H) (id off : Nat) (v : CV) : storeT Go.Proofs.Try.prog h 10 id off v = @thn _ _ (h.blk id) ⟨fun b => cond (Nat.beq v.cells.length 1 && !b.ro) ((b.storeA off v.cells).map fun b' => h.put id (.cells b')) none⟩ := by kernel_rfl
attribute [go_sem] st_10
theorem part_10 (cs : List CV) (off : Nat) : partT Go.Proofs.Try.prog 10 cs off = nth cs off := by kernel_rfl
attribute [go_sem] part_10
theorem ze_10 : zeroT Go.Proofs.Try.prog 10 = some (.str []) := by kernel_rfl
attribute [go_sem] ze_10
theorem ix_10 (s : List Nat) (k : Nat) (kd : IntKind) : indexT Go.Proofs.Try.prog 10 (.str s) (.int kd (Int.ofNat k)) = (nth s k).map fun b => .int .u8 (Int.ofNat b) := by kernel_rfl
attribute [go_sem] ix_10
theorem len_10 (h : H) (ts : List TypeId) (az : List CV) (s : List Nat) : builtinT Go.Proofs.Try.prog h .len (10 :: ts) (.str s :: az) = some (.val (.int .i64 (Int.ofNat s.length))) := by kernel_rfl
attribute [go_sem] len_10
theorem sz_11 : szOf Go.Proofs.Try.prog 11 = some 1 := by kernel_rfl
attribute [go_sem] sz_11
theorem ld_11 (h : H) (id off : Nat) : loadT Go.Proofs.Try.prog h 11 id off = @thn _ _ (h.blk id) ⟨fun b => b.get off⟩ := by kernel_rfl
attribute [go_sem] ld_11
theorem st_11 (h : H) (id off : Nat) (v : CV) : storeT Go.Proofs.Try.prog h 11 id off v = @thn _ _ (h.blk id) ⟨fun b => cond (Nat.beq v.cells.length 1 && !b.ro) ((b.storeA off v.cells).map fun b' => h.put id (.cells b')) none⟩ := by kernel_rfl
attribute [go_sem] st_11
theorem part_11 (cs : List CV) (off : Nat) : partT Go.Proofs.Try.prog 11 cs off = nth cs off := by kernel_rfl
attribute [go_sem] part_11
theorem ze_11 : zeroT Go.Proofs.Try.prog 11 = some (.str []) := by kernel_rfl
attribute [go_sem] ze_11
theorem ix_11 (s : List Nat) (k : Nat) (kd : IntKind) : indexT Go.Proofs.Try.prog 11 (.str s) (.int kd (Int.ofNat k)) = (nth s k).map fun b => .int .u8 (Int.ofNat b) := by kernel_rfl
attribute [go_sem] ix_11
theorem len_11 (h : H) (ts : List TypeId) (az : List CV) (s : List Nat) : builtinT Go.Proofs.Try.prog h .len (11 :: ts) (.str s :: az) = some (.val (.int .i64 (Int.ofNat s.length))) := by kernel_rfl
attribute [go_sem] len_11
theorem sz_12 : szOf Go.Proofs.Try.prog 12 = some 1 := by kernel_rfl
attribute [go_sem] sz_12
theorem ld_12 (h : H) (id off : Nat) : loadT Go.Proofs.Try.prog h 12 id off = @thn _ _ (h.blk id) ⟨fun b => b.get off⟩ := by kernel_rfl
attribute [go_sem] ld_12
theorem st_12 (h : H) (id off : Nat) (v : CV) : storeT Go.Proofs.Try.prog h 12 id off v = @thn _ _ (h.blk id) ⟨fun b => cond (Nat.beq v.cells.length 1 && !b.ro) ((b.storeA off v.cells).map fun b' => h.put id (.cells b')) none⟩ := by kernel_rfl
attribute [go_sem] st_12
theorem part_12 (cs : List CV) (off : Nat) : partT Go.Proofs.Try.prog 12 cs off = nth cs off := by kernel_rfl
attribute [go_sem] part_12
theorem ze_12 : zeroT Go.Proofs.Try.prog 12 = some (.int .u64 0) := by kernel_rfl
attribute [go_sem] ze_12
theorem sz_13 : szOf Go.Proofs.Try.prog 13 = some 2 := by kernel_rfl
attribute [go_sem] sz_13
theorem ld_13 (h : H) (id off : Nat) : loadT Go.Proofs.Try.prog h 13 id off = @thn _ _ (h.blk id) ⟨fun b => (b.loadN off 2).map .agg⟩ := by kernel_rfl
attribute [go_sem] ld_13
theorem st_13 (h : H) (id off : Nat) (v : CV) : storeT Go.Proofs.Try.prog h 13 id off v = @thn _ _ (h.blk id) ⟨fun b => cond (Nat.beq v.cells.length 2 && !b.ro) ((b.storeA off v.cells).map fun b' => h.put id (.cells b')) none⟩ := by kernel_rfl
attribute [go_sem] st_13
theorem part_13 (cs : List CV) (off : Nat) : partT Go.Proofs.Try.prog 13 cs off = some (.agg ((cs.drop off).take 2)) := by kernel_rfl
attribute [go_sem] part_13
theorem ze_13 : zeroT Go.Proofs.Try.prog 13 = some (.agg [.str [], .int .u64 0]) := by kernel_rfl
attribute [go_sem] ze_13
theorem bt_13 (parts : List (Nat × CV)) : buildT Go.Proofs.Try.prog 13 parts = finB (CV.cells (.agg [.str [], .int .u64 0])) (nth [(0, 1), (1, 1)]) parts := by kernel_rfl
attribute [go_sem] bt_13
theorem fa_13_0 (id off : Nat) : fieldAddrT Go.Proofs.Try.prog 13 (.ptr id off) 0 = some (.ptr id (off)) := by kernel_rfl
attribute [go_sem] fa_13_0
theorem fd_13_0 (cs : List CV) : fieldT Go.Proofs.Try.prog 13 (.agg cs) 0 = partT Go.Proofs.Try.prog 9 cs 0 := by kernel_rfl
attribute [go_sem] fd_13_0
theorem fa_13_1 (id off : Nat) : fieldAddrT Go.Proofs.Try.prog 13 (.ptr id off) 1 = some (.ptr id (off + 1)) := by kernel_rfl
attribute [go_sem] fa_13_1
theorem fd_13_1 (cs : List CV) : fieldT Go.Proofs.Try.prog 13 (.agg cs) 1 = partT Go.Proofs.Try.prog 12 cs 1 := by kernel_rfl
attribute [go_sem] fd_13_1
theorem sz_14 : szOf Go.Proofs.Try.prog 14 = some 2 := by kernel_rfl
attribute [go_sem] sz_14
theorem ld_14 (h : H) (id off : Nat) : loadT Go.Proofs.Try.prog h 14 id off = @thn _ _ (h.blk id) ⟨fun b => (b.loadN off 2).map .agg⟩ := by kernel_rfl
attribute [go_sem] ld_14
theorem st_14 (h : H) (id off : Nat) (v : CV) : storeT Go.Proofs.Try.prog h 14 id off v = @thn _ _ (h.blk id) ⟨fun b => cond (Nat.beq v.cells.length 2 && !b.ro) ((b.storeA off v.cells).map fun b' => h.put id (.cells b')) none⟩ := by kernel_rfl
attribute [go_sem] st_14
theorem part_14 (cs : List CV) (off : Nat) : partT Go.Proofs.Try.prog 14 cs off = some (.agg ((cs.drop off).take 2)) := by kernel_rfl
attribute [go_sem] part_14
theorem ze_14 : zeroT Go.Proofs.Try.prog 14 = some (.agg [.str [], .int .u64 0]) := by kernel_rfl
attribute [go_sem] ze_14
theorem bt_14 (parts : List (Nat × CV)) : buildT Go.Proofs.Try.prog 14 parts = finB (CV.cells (.agg [.str [], .int .u64 0])) (nth [(0, 1), (1, 1)]) parts := by kernel_rfl
attribute [go_sem] bt_14
theorem fa_14_0 (id off : Nat) : fieldAddrT Go.Proofs.Try.prog 14 (.ptr id off) 0 = some (.ptr id (off)) := by kernel_rfl
attribute [go_sem] fa_14_0
theorem fd_14_0 (cs : List CV) : fieldT Go.Proofs.Try.prog 14 (.agg cs) 0 = partT Go.Proofs.Try.prog 9 cs 0 := by kernel_rfl
attribute [go_sem] fd_14_0
theorem fa_14_1 (id off : Nat) : fieldAddrT Go.Proofs.Try.prog 14 (.ptr id off) 1 = some (.ptr id (off + 1)) := by kernel_rfl
attribute [go_sem] fa_14_1
theorem fd_14_1 (cs : List CV) : fieldT Go.Proofs.Try.prog 14 (.agg cs) 1 = partT Go.Proofs.Try.prog 12 cs 1 := by kernel_rfl
attribute [go_sem] fd_14_1
theorem sz_15 : szOf Go.Proofs.Try.prog 15 = some 1 := by kernel_rfl
attribute [go_sem] sz_15
theorem ld_15 (h : H) (id off : Nat) : loadT Go.Proofs.Try.prog h 15 id off = @thn _ _ (h.blk id) ⟨fun b => b.get off⟩ := by kernel_rfl
attribute [go_sem] ld_15
theorem st_15 (h : H) (id off : Nat) (v : CV) : storeT Go.Proofs.Try.prog h 15 id off v = @thn _ _ (h.blk id) ⟨fun b => cond (Nat.beq v.cells.length 1 && !b.ro) ((b.storeA off v.cells).map fun b' => h.put id (.cells b')) none⟩ := by kernel_rfl
attribute [go_sem] st_15
theorem part_15 (cs : List CV) (off : Nat) : partT Go.Proofs.Try.prog 15 cs off = nth cs off := by kernel_rfl
attribute [go_sem] part_15
theorem ze_15 : zeroT Go.Proofs.Try.prog 15 = some (.nilp) := by kernel_rfl
attribute [go_sem] ze_15
theorem eq_15 (xo yo : Operand) (a b : Nat) : binT Go.Proofs.Try.prog .eql 15 xo yo (.ptr a b) .nilp = some (.bool false) := by kernel_rfl
attribute [go_sem] eq_15
theorem eq_15_n (xo yo : Operand) : binT Go.Proofs.Try.prog .eql 15 xo yo .nilp .nilp = some (.bool true) := by kernel_rfl
attribute [go_sem] eq_15_n
theorem ne_15 (xo yo : Operand) (a b : Nat) : binT Go.Proofs.Try.prog .neq 15 xo yo (.ptr a b) .nilp = some (.bool true) := by kernel_rfl
attribute [go_sem] ne_15
theorem ne_15_n (xo yo : Operand) : binT Go.Proofs.Try.prog .neq 15 xo yo .nilp .nilp = some (.bool false) := by kernel_rfl
attribute [go_sem] ne_15_n
theorem sz_16 : szOf Go.Proofs.Try.prog 16 = some 1 := by kernel_rfl
attribute [go_sem] sz_16
theorem ld_16 (h : H) (id off : Nat) : loadT Go.Proofs.Try.prog h 16 id off = @thn _ _ (h.blk id) ⟨fun b => b.get off⟩ := by kernel_rfl
attribute [go_sem] ld_16
theorem st_16 (h : H) (id off : Nat) (v : CV) : storeT Go.Proofs.Try.prog h 16 id off v = @thn _ _ (h.blk id) ⟨fun b => cond (Nat.beq v.cells.length 1 && !b.ro) ((b.storeA off v.cells).map fun b' => h.put id (.cells b')) none⟩ := by kernel_rfl
attribute [go_sem] st_16
theorem part_16 (cs : List CV) (off : Nat) : partT Go.Proofs.Try.prog 16 cs off = nth cs off := by kernel_rfl
attribute [go_sem] part_16
theorem ze_16 : zeroT Go.Proofs.Try.prog 16 = some (.nilp) := by kernel_rfl
attribute [go_sem] ze_16
theorem eq_16 (xo yo : Operand) (a b : Nat) : binT Go.Proofs.Try.prog .eql 16 xo yo (.ptr a b) .nilp = some (.bool false) := by kernel_rfl
attribute [go_sem] eq_16
theorem eq_16_n (xo yo : Operand) : binT Go.Proofs.Try.prog .eql 16 xo yo .nilp .nilp = some (.bool true) := by kernel_rfl
attribute [go_sem] eq_16_n
theorem ne_16 (xo yo : Operand) (a b : Nat) : binT Go.Proofs.Try.prog .neq 16 xo yo (.ptr a b) .nilp = some (.bool true) := by kernel_rfl
attribute [go_sem] ne_16
theorem ne_16_n (xo yo : Operand) : binT Go.Proofs.Try.prog .neq 16 xo yo .nilp .nilp = some (.bool false) := by kernel_rfl
attribute [go_sem] ne_16_n
theorem sz_17 : szOf Go.Proofs.Try.prog 17 = some 1 := by kernel_rfl
attribute [go_sem] sz_17
theorem ld_17 (h : H) (id off : Nat) : loadT Go.Proofs.Try.prog h 17 id off = @thn _ _ (h.blk id) ⟨fun b => b.get off⟩ := by kernel_rfl
attribute [go_sem] ld_17
theorem st_17 (h : H) (id off : Nat) (v : CV) : storeT Go.Proofs.Try.prog h 17 id off v = @thn _ _ (h.blk id) ⟨fun b => cond (Nat.beq v.cells.length 1 && !b.ro) ((b.storeA off v.cells).map fun b' => h.put id (.cells b')) none⟩ := by kernel_rfl
attribute [go_sem] st_17
theorem part_17 (cs : List CV) (off : Nat) : partT Go.Proofs.Try.prog 17 cs off = nth cs off := by kernel_rfl
attribute [go_sem] part_17
theorem ze_17 : zeroT Go.Proofs.Try.prog 17 = some (.nilp) := by kernel_rfl
attribute [go_sem] ze_17
theorem eq_17 (xo yo : Operand) (a b : Nat) : binT Go.Proofs.Try.prog .eql 17 xo yo (.ptr a b) .nilp = some (.bool false) := by kernel_rfl
attribute [go_sem] eq_17
theorem eq_17_n (xo yo : Operand) : binT Go.Proofs.Try.prog .eql 17 xo yo .nilp .nilp = some (.bool true) := by kernel_rfl
attribute [go_sem] eq_17_n
theorem ne_17 (xo yo : Operand) (a b : Nat) : binT Go.Proofs.Try.prog .neq 17 xo yo (.ptr a b) .nilp = some (.bool true) := by kernel_rfl
attribute [go_sem] ne_17
theorem ne_17_n (xo yo : Operand) : binT Go.Proofs.Try.prog .neq 17 xo yo .nilp .nilp = some (.bool false) := by kernel_rfl
attribute [go_sem] ne_17_n
theorem sz_18 : szOf Go.Proofs.Try.prog 18 = some 1 := by kernel_rfl
attribute [go_sem] sz_18
theorem ld_18 (h : H) (id off : Nat) : loadT Go.Proofs.Try.prog h 18 id off = @thn _ _ (h.blk id) ⟨fun b => (b.loadN off 1).map .agg⟩ := by kernel_rfl
attribute [go_sem] ld_18
theorem st_18 (h : H) (id off : Nat) (v : CV) : storeT Go.Proofs.Try.prog h 18 id off v = @thn _ _ (h.blk id) ⟨fun b => cond (Nat.beq v.cells.length 1 && !b.ro) ((b.storeA off v.cells).map fun b' => h.put id (.cells b')) none⟩ := by kernel_rfl
attribute [go_sem] st_18
theorem part_18 (cs : List CV) (off : Nat) : partT Go.Proofs.Try.prog 18 cs off = some (.agg ((cs.drop off).take 1)) := by kernel_rfl
attribute [go_sem] part_18
theorem ze_18 : zeroT Go.Proofs.Try.prog 18 = some (.agg [.nilp]) := by kernel_rfl
attribute [go_sem] ze_18
theorem bt_18 (parts : List (Nat × CV)) : buildT Go.Proofs.Try.prog 18 parts = finB (CV.cells (.agg [.nilp])) (nth [(0, 1)]) parts := by kernel_rfl
attribute [go_sem] bt_18
theorem fa_18_0 (id off : Nat) : fieldAddrT Go.Proofs.Try.prog 18 (.ptr id off) 0 = some (.ptr id (off)) := by kernel_rfl
attribute [go_sem] fa_18_0
theorem fd_18_0 (cs : List CV) : fieldT Go.Proofs.Try.prog 18 (.agg cs) 0 = partT Go.Proofs.Try.prog 17 cs 0 := by kernel_rfl
attribute [go_sem] fd_18_0
theorem sz_19 : szOf Go.Proofs.Try.prog 19 = some 1 := by kernel_rfl
attribute [go_sem] sz_19
theorem ld_19 (h : H) (id off : Nat) : loadT Go.Proofs.Try.prog h 19 id off = @thn _ _ (h.blk id) ⟨fun b => (b.loadN off 1).map .agg⟩ := by kernel_rfl
attribute [go_sem] ld_19
theorem st_19 (h : H) (id off : Nat) (v : CV) : storeT Go.Proofs.Try.prog h 19 id off v = @thn _ _ (h.blk id) ⟨fun b => cond (Nat.beq v.cells.length 1 && !b.ro) ((b.storeA off v.cells).map fun b' => h.put id (.cells b')) none⟩ := by kernel_rfl
attribute [go_sem] st_19
theorem part_19 (cs : List CV) (off : Nat) : partT Go.Proofs.Try.prog 19 cs off = some (.agg ((cs.drop off).take 1)) := by kernel_rfl
attribute [go_sem] part_19
theorem ze_19 : zeroT Go.Proofs.Try.prog 19 = some (.agg [.nilp]) := by kernel_rfl
attribute [go_sem] ze_19
theorem bt_19 (parts : List (Nat × CV)) : buildT Go.Proofs.Try.prog 19 parts = finB (CV.cells (.agg [.nilp])) (nth [(0, 1)]) parts := by kernel_rfl
attribute [go_sem] bt_19
theorem fa_19_0 (id off : Nat) : fieldAddrT Go.Proofs.Try.prog 19 (.ptr id off) 0 = some (.ptr id (off)) := by kernel_rfl
attribute [go_sem] fa_19_0
theorem fd_19_0 (cs : List CV) : fieldT Go.Proofs.Try.prog 19 (.agg cs) 0 = partT Go.Proofs.Try.prog 17 cs 0 := by kernel_rfl
attribute [go_sem] fd_19_0
theorem sz_20 : szOf Go.Proofs.Try.prog 20 = some 1 := by kernel_rfl
attribute [go_sem] sz_20
theorem ld_20 (h : H) (id off : Nat) : loadT Go.Proofs.Try.prog h 20 id off = @thn _ _ (h.blk id) ⟨fun b => b.get off⟩ := by kernel_rfl
attribute [go_sem] ld_20
theorem st_20 (h : H) (id off : Nat) (v : CV) : storeT Go.Proofs.Try.prog h 20 id off v = @thn _ _ (h.blk id) ⟨fun b => cond (Nat.beq v.cells.length 1 && !b.ro) ((b.storeA off v.cells).map fun b' => h.put id (.cells b')) none⟩ := by kernel_rfl
attribute [go_sem] st_20
theorem part_20 (cs : List CV) (off : Nat) : partT Go.Proofs.Try.prog 20 cs off = nth cs off := by kernel_rfl
attribute [go_sem] part_20
theorem ze_20 : zeroT Go.Proofs.Try.prog 20 = some (.nili) := by kernel_rfl
attribute [go_sem] ze_20
theorem sz_21 : szOf Go.Proofs.Try.prog 21 = some 1 := by kernel_rfl
attribute [go_sem] sz_21
theorem ld_21 (h : H) (id off : Nat) : loadT Go.Proofs.Try.prog h 21 id off = @thn _ _ (h.blk id) ⟨fun b => b.get off⟩ := by kernel_rfl
attribute [go_sem] ld_21
theorem st_21 (h : H) (id off : Nat) (v : CV) : storeT Go.Proofs.Try.prog h 21 id off v = @thn _ _ (h.blk id) ⟨fun b => cond (Nat.beq v.cells.length 1 && !b.ro) ((b.storeA off v.cells).map fun b' => h.put id (.cells b')) none⟩ := by kernel_rfl
attribute [go_sem] st_21
theorem part_21 (cs : List CV) (off : Nat) : partT Go.Proofs.Try.prog 21 cs off = nth cs off := by kernel_rfl
attribute [go_sem] part_21
theorem ze_21 : zeroT Go.Proofs.Try.prog 21 = some (.int .i32 0) := by kernel_rfl
attribute [go_sem] ze_21
theorem sz_22 : szOf Go.Proofs.Try.prog 22 = some 1 := by kernel_rfl
attribute [go_sem] sz_22
theorem ld_22 (h : H) (id off : Nat) : loadT Go.Proofs.Try.prog h 22 id off = @thn _ _ (h.blk id) ⟨fun b => b.get off⟩ := by kernel_rfl
attribute [go_sem] ld_22
theorem st_22 (h : H) (id off : Nat) (v : CV) : storeT Go.Proofs.Try.prog h 22 id off v = @thn _ _ (h.blk id) ⟨fun b => cond (Nat.beq v.cells.length 1 && !b.ro) ((b.storeA off v.cells).map fun b' => h.put id (.cells b')) none⟩ := by kernel_rfl
attribute [go_sem] st_22
theorem part_22 (cs : List CV) (off : Nat) : partT Go.Proofs.Try.prog 22 cs off = nth cs off := by kernel_rfl
attribute [go_sem] part_22
theorem ze_22 : zeroT Go.Proofs.Try.prog 22 = some (.int .u64 0) := by kernel_rfl
attribute [go_sem] ze_22
theorem sz_23 : szOf Go.Proofs.Try.prog 23 = some 1 := by kernel_rfl
attribute [go_sem] sz_23
theorem ld_23 (h : H) (id off : Nat) : loadT Go.Proofs.Try.prog h 23 id off = @thn _ _ (h.blk id) ⟨fun b => b.get off⟩ := by kernel_rfl
attribute [go_sem] ld_23
theorem st_23 (h : H) (id off : Nat) (v : CV) : storeT Go.Proofs.Try.prog h 23 id off v = @thn _ _ (h.blk id) ⟨fun b => cond (Nat.beq v.cells.length 1 && !b.ro) ((b.storeA off v.cells).map fun b' => h.put id (.cells b')) none⟩ := by kernel_rfl
attribute [go_sem] st_23
theorem part_23 (cs : List CV) (off : Nat) : partT Go.Proofs.Try.prog 23 cs off = nth cs off := by kernel_rfl
attribute [go_sem] part_23
theorem ze_23 : zeroT Go.Proofs.Try.prog 23 = some (.nils) := by kernel_rfl
attribute [go_sem] ze_23
theorem ia_23 (id off len k : Nat) (c : Cap) (kd : IntKind) : indexAddrT Go.Proofs.Try.prog 23 (.sl id off len c) (.int kd (Int.ofNat k)) = cond (Nat.blt k len) (some (.ptr id (off + k * 2))) none := by kernel_rfl
attribute [go_sem] ia_23
theorem len_23 (h : H) (id off len : Nat) (c : Cap) (ts : List TypeId) (az : List CV) : builtinT Go.Proofs.Try.prog h .len (23 :: ts) (.sl id off len c :: az) = some (.val (.int .i64 (Int.ofNat len))) := by kernel_rfl
attribute [go_sem] len_23
theorem len_23_n (h : H) (ts : List TypeId) (az : List CV) : builtinT Go.Proofs.Try.prog h .len (23 :: ts) (.nils :: az) = some (.val (.int .i64 0)) := by kernel_rfl
attribute [go_sem] len_23_n
theorem app_23 (h : H) (s : CV) (id off len : Nat) (c : Cap) (ts : List TypeId) (az : List CV) : builtinT Go.Proofs.Try.prog h .append (23 :: 23 :: ts) (s :: .sl id off len c :: az) = uv (appendT Go.Proofs.Try.prog h 23 s (.sl id off len c)) := by kernel_rfl
attribute [go_sem] app_23
theorem app_23_n (h : H) (s : CV) (ts : List TypeId) (az : List CV) : builtinT Go.Proofs.Try.prog h .append (23 :: 23 :: ts) (s :: .nils :: az) = uv (appendT Go.Proofs.Try.prog h 23 s .nils) := by kernel_rfl
attribute [go_sem] app_23_n
theorem ap_23 (h : H) (s : CV) (id off len : Nat) (c : Cap) : appendT Go.Proofs.Try.prog h 23 s (.sl id off len c) = appS h 2 16 2 s len (firstC h 2 len (.sl id off len c)) := by kernel_rfl
attribute [go_sem] ap_23
theorem ap_23_n (h : H) (s : CV) : appendT Go.Proofs.Try.prog h 23 s .nils = appS h 2 16 2 s 0 (some []) := by kernel_rfl
attribute [go_sem] ap_23_n
theorem ap_23_z (h : H) (s : CV) (a b c d : Nat) : appendT Go.Proofs.Try.prog h 23 s (.sl0 a b c d) = appS h 2 16 2 s 0 (some []) := by kernel_rfl
attribute [go_sem] ap_23_z
theorem bs_23 (h : H) (n : Nat) (parts : List (Nat × CV)) : buildSliceT Go.Proofs.Try.prog h 23 n parts = bslS h 2 (CV.cells (.agg [.int .u64 0, .int .u64 0])) n parts := by kernel_rfl
attribute [go_sem] bs_23
theorem ms_23 (h : H) (l c : Nat) (k k' : IntKind) : makeSliceT Go.Proofs.Try.prog h 23 (.int k (Int.ofNat l)) (.int k' (Int.ofNat c)) = mkS h 2 16 (zeroT Go.Proofs.Try.prog 50) l c := by kernel_rfl
attribute [go_sem] ms_23
theorem eq_23 (xo yo : Operand) (a b c : Nat) (d : Cap) : binT Go.Proofs.Try.prog .eql 23 xo yo (.sl a b c d) .nils = some (.bool false) := by kernel_rfl
attribute [go_sem] eq_23
theorem eq_23_n (xo yo : Operand) : binT Go.Proofs.Try.prog .eql 23 xo yo .nils .nils = some (.bool true) := by kernel_rfl
attribute [go_sem] eq_23_n
theorem eq_23_z (xo yo : Operand) (a b c d : Nat) : binT Go.Proofs.Try.prog .eql 23 xo yo (.sl0 a b c d) .nils = some (.bool false) := by kernel_rfl
attribute [go_sem] eq_23_z
theorem ne_23 (xo yo : Operand) (a b c : Nat) (d : Cap) : binT Go.Proofs.Try.prog .neq 23 xo yo (.sl a b c d) .nils = some (.bool true) := by kernel_rfl
attribute [go_sem] ne_23
theorem ne_23_n (xo yo : Operand) : binT Go.Proofs.Try.prog .neq 23 xo yo .nils .nils = some (.bool false) := by kernel_rfl
attribute [go_sem] ne_23_n
theorem ne_23_z (xo yo : Operand) (a b c d : Nat) : binT Go.Proofs.Try.prog .neq 23 xo yo (.sl0 a b c d) .nils = some (.bool true) := by kernel_rfl
attribute [go_sem] ne_23_z
theorem len_23_z (h : H) (a b c d : Nat) (ts : List TypeId) (az : List CV) : builtinT Go.Proofs.Try.prog h .len (23 :: ts) (.sl0 a b c d :: az) = some (.val (.int .i64 0)) := by kernel_rfl
attribute [go_sem] len_23_z
theorem app_23_z (h : H) (s : CV) (a b c d : Nat) (ts : List TypeId) (az : List CV) : builtinT Go.Proofs.Try.prog h .append (23 :: 23 :: ts) (s :: .sl0 a b c d :: az) = uv (appendT Go.Proofs.Try.prog h 23 s (.sl0 a b c d)) := by kernel_rfl
attribute [go_sem] app_23_z
theorem sz_24 : szOf Go.Proofs.Try.prog 24 = some 1 := by kernel_rfl
attribute [go_sem] sz_24
theorem ld_24 (h : H) (id off : Nat) : loadT Go.Proofs.Try.prog h 24 id off = @thn _ _ (h.blk id) ⟨fun b => b.get off⟩ := by kernel_rfl
attribute [go_sem] ld_24
theorem st_24 (h : H) (id off : Nat) (v : CV) : storeT Go.Proofs.Try.prog h 24 id off v = @thn _ _ (h.blk id) ⟨fun b => cond (Nat.beq v.cells.length 1 && !b.ro) ((b.storeA off v.cells).map fun b' => h.put id (.cells b')) none⟩ := by kernel_rfl
attribute [go_sem] st_24
theorem part_24 (cs : List CV) (off : Nat) : partT Go.Proofs.Try.prog 24 cs off = nth cs off := by kernel_rfl
attribute [go_sem] part_24
theorem ze_24 : zeroT Go.Proofs.Try.prog 24 = some (.nilf) := by kernel_rfl
attribute [go_sem] ze_24
theorem eq_24 (xo yo : Operand) (f : Fn) (a b : List CV) : binT Go.Proofs.Try.prog .eql 24 xo yo (.fn f a b) .nilf = some (.bool false) := by kernel_rfl
attribute [go_sem] eq_24
theorem eq_24_n (xo yo : Operand) : binT Go.Proofs.Try.prog .eql 24 xo yo .nilf .nilf = some (.bool true) := by kernel_rfl
attribute [go_sem] eq_24_n
theorem ne_24 (xo yo : Operand) (f : Fn) (a b : List CV) : binT Go.Proofs.Try.prog .neq 24 xo yo (.fn f a b) .nilf = some (.bool true) := by kernel_rfl
attribute [go_sem] ne_24
theorem ne_24_n (xo yo : Operand) : binT Go.Proofs.Try.prog .neq 24 xo yo .nilf .nilf = some (.bool false) := by kernel_rfl
attribute [go_sem] ne_24_n
theorem sz_25 : szOf Go.Proofs.Try.prog 25 = some 1 := by kernel_rfl
attribute [go_sem] sz_25
theorem ld_25 (h : H) (id off : Nat) : loadT Go.Proofs.Try.prog h 25 id off = @thn _ _ (h.blk id) ⟨fun b => b.get off⟩ := by kernel_rfl
attribute [go_sem] ld_25
theorem st_25 (h : H) (id off : Nat) (v : CV) : storeT Go.Proofs.Try.prog h 25 id off v = @thn _ _ (h.blk id) ⟨fun b => cond (Nat.beq v.cells.length 1 && !b.ro) ((b.storeA off v.cells).map fun b' => h.put id (.cells b')) none⟩ := by kernel_rfl
attribute [go_sem] st_25
theorem part_25 (cs : List CV) (off : Nat) : partT Go.Proofs.Try.prog 25 cs off = nth cs off := by kernel_rfl
attribute [go_sem] part_25
theorem ze_25 : zeroT Go.Proofs.Try.prog 25 = some (.nilf) := by kernel_rfl
attribute [go_sem] ze_25
theorem eq_25 (xo yo : Operand) (f : Fn) (a b : List CV) : binT Go.Proofs.Try.prog .eql 25 xo yo (.fn f a b) .nilf = some (.bool false) := by kernel_rfl
attribute [go_sem] eq_25
theorem eq_25_n (xo yo : Operand) : binT Go.Proofs.Try.prog .eql 25 xo yo .nilf .nilf = some (.bool true) := by kernel_rfl
attribute [go_sem] eq_25_n
theorem ne_25 (xo yo : Operand) (f : Fn) (a b : List CV) : binT Go.Proofs.Try.prog .neq 25 xo yo (.fn f a b) .nilf = some (.bool true) := by kernel_rfl
attribute [go_sem] ne_25
theorem ne_25_n (xo yo : Operand) : binT Go.Proofs.Try.prog .neq 25 xo yo .nilf .nilf = some (.bool false) := by kernel_rfl
attribute [go_sem] ne_25_n
theorem sz_26 : szOf Go.Proofs.Try.prog 26 = some 1 := by kernel_rfl
attribute [go_sem] sz_26
theorem ld_26 (h : H) (id off : Nat) : loadT Go.Proofs.Try.prog h 26 id off = @thn _ _ (h.blk id) ⟨fun b => b.get off⟩ := by kernel_rfl
attribute [go_sem] ld_26
theorem st_26 (h : H) (id off : Nat) (v : CV) : storeT Go.Proofs.Try.prog h 26 id off v = @thn _ _ (h.blk id) ⟨fun b => cond (Nat.beq v.cells.length 1 && !b.ro) ((b.storeA off v.cells).map fun b' => h.put id (.cells b')) none⟩ := by kernel_rfl
attribute [go_sem] st_26
theorem part_26 (cs : List CV) (off : Nat) : partT Go.Proofs.Try.prog 26 cs off = nth cs off := by kernel_rfl
attribute [go_sem] part_26
theorem ze_26 : zeroT Go.Proofs.Try.prog 26 = some (.nilp) := by kernel_rfl
attribute [go_sem] ze_26
theorem eq_26 (xo yo : Operand) (a b : Nat) : binT Go.Proofs.Try.prog .eql 26 xo yo (.ptr a b) .nilp = some (.bool false) := by kernel_rfl
attribute [go_sem] eq_26
theorem eq_26_n (xo yo : Operand) : binT Go.Proofs.Try.prog .eql 26 xo yo .nilp .nilp = some (.bool true) := by kernel_rfl
attribute [go_sem] eq_26_n
theorem ne_26 (xo yo : Operand) (a b : Nat) : binT Go.Proofs.Try.prog .neq 26 xo yo (.ptr a b) .nilp = some (.bool true) := by kernel_rfl
attribute [go_sem] ne_26
theorem ne_26_n (xo yo : Operand) : binT Go.Proofs.Try.prog .neq 26 xo yo .nilp .nilp = some (.bool false) := by kernel_rfl
attribute [go_sem] ne_26_n
theorem sz_27 : szOf Go.Proofs.Try.prog 27 = some 1 := by kernel_rfl
attribute [go_sem] sz_27
theorem ld_27 (h : H) (id off : Nat) : loadT Go.Proofs.Try.prog h 27 id off = @thn _ _ (h.blk id) ⟨fun b => b.get off⟩ := by kernel_rfl
attribute [go_sem] ld_27
theorem st_27 (h : H) (id off : Nat) (v : CV) : storeT Go.Proofs.Try.prog h 27 id off v = @thn _ _ (h.blk id) ⟨fun b => cond (Nat.beq v.cells.length 1 && !b.ro) ((b.storeA off v.cells).map fun b' => h.put id (.cells b')) none⟩ := by kernel_rfl
attribute [go_sem] st_27
theorem part_27 (cs : List CV) (off : Nat) : partT Go.Proofs.Try.prog 27 cs off = nth cs off := by kernel_rfl
attribute [go_sem] part_27
theorem ze_27 : zeroT Go.Proofs.Try.prog 27 = some (.int .i64 0) := by kernel_rfl
attribute [go_sem] ze_27
theorem sz_28 : szOf Go.Proofs.Try.prog 28 = some 1 := by kernel_rfl
attribute [go_sem] sz_28
theorem ld_28 (h : H) (id off : Nat) : loadT Go.Proofs.Try.prog h 28 id off = @thn _ _ (h.blk id) ⟨fun b => b.get off⟩ := by kernel_rfl
attribute [go_sem] ld_28
theorem st_28 (h : H) (id off : Nat) (v : CV) : storeT Go.Proofs.Try.prog h 28 id off v = @thn _ _ (h.blk id) ⟨fun b => cond (Nat.beq v.cells.length 1 && !b.ro) ((b.storeA off v.cells).map fun b' => h.put id (.cells b')) none⟩ := by kernel_rfl
attribute [go_sem] st_28
theorem part_28 (cs : List CV) (off : Nat) : partT Go.Proofs.Try.prog 28 cs off = nth cs off := by kernel_rfl
attribute [go_sem] part_28
theorem sz_29 : szOf Go.Proofs.Try.prog 29 = some 1 := by kernel_rfl
attribute [go_sem] sz_29
theorem ld_29 (h : H) (id off : Nat) : loadT Go.Proofs.Try.prog h 29 id off = @thn _ _ (h.blk id) ⟨fun b => b.get off⟩ := by kernel_rfl
attribute [go_sem] ld_29
theorem st_29 (h : H) (id off : Nat) (v : CV) : storeT Go.Proofs.Try.prog h 29 id off v = @thn _ _ (h.blk id) ⟨fun b => cond (Nat.beq v.cells.length 1 && !b.ro) ((b.storeA off v.cells).map fun b' => h.put id (.cells b')) none⟩ := by kernel_rfl
attribute [go_sem] st_29
theorem part_29 (cs : List CV) (off : Nat) : partT Go.Proofs.Try.prog 29 cs off = nth cs off := by kernel_rfl
attribute [go_sem] part_29
theorem ze_29 : zeroT Go.Proofs.Try.prog 29 = some (.nilf) := by kernel_rfl
attribute [go_sem] ze_29
theorem eq_29 (xo yo : Operand) (f : Fn) (a b : List CV) : binT Go.Proofs.Try.prog .eql 29 xo yo (.fn f a b) .nilf = some (.bool false) := by kernel_rfl
attribute [go_sem] eq_29
theorem eq_29_n (xo yo : Operand) : binT Go.Proofs.Try.prog .eql 29 xo yo .nilf .nilf = some (.bool true) := by kernel_rfl
attribute [go_sem] eq_29_n
theorem ne_29 (xo yo : Operand) (f : Fn) (a b : List CV) : binT Go.Proofs.Try.prog .neq 29 xo yo (.fn f a b) .nilf = some (.bool true) := by kernel_rfl
attribute [go_sem] ne_29
theorem ne_29_n (xo yo : Operand) : binT Go.Proofs.Try.prog .neq 29 xo yo .nilf .nilf = some (.bool false) := by kernel_rfl
attribute [go_sem] ne_29_n
theorem sz_30 : szOf Go.Proofs.Try.prog 30 = some 1 := by kernel_rfl
attribute [go_sem] sz_30
theorem ld_30 (h : H) (id off : Nat) : loadT Go.Proofs.Try.prog h 30 id off = @thn _ _ (h.blk id) ⟨fun b => b.get off⟩ := by kernel_rfl
attribute [go_sem] ld_30
theorem st_30 (h : H) (id off : Nat) (v : CV) : storeT Go.Proofs.Try.prog h 30 id off v = @thn _ _ (h.blk id) ⟨fun b => cond (Nat.beq v.cells.length 1 && !b.ro) ((b.storeA off v.cells).map fun b' => h.put id (.cells b')) none⟩ := by kernel_rfl
attribute [go_sem] st_30
theorem part_30 (cs : List CV) (off : Nat) : partT Go.Proofs.Try.prog 30 cs off = nth cs off := by kernel_rfl
attribute [go_sem] part_30
theorem ze_30 : zeroT Go.Proofs.Try.prog 30 = some (.nilf) := by kernel_rfl
attribute [go_sem] ze_30
theorem eq_30 (xo yo : Operand) (f : Fn) (a b : List CV) : binT Go.Proofs.Try.prog .eql 30 xo yo (.fn f a b) .nilf = some (.bool false) := by kernel_rfl
attribute [go_sem] eq_30
theorem eq_30_n (xo yo : Operand) : binT Go.Proofs.Try.prog .eql 30 xo yo .nilf .nilf = some (.bool true) := by kernel_rfl
attribute [go_sem] eq_30_n
theorem ne_30 (xo yo : Operand) (f : Fn) (a b : List CV) : binT Go.Proofs.Try.prog .neq 30 xo yo (.fn f a b) .nilf = some (.bool true) := by kernel_rfl
attribute [go_sem] ne_30
theorem ne_30_n (xo yo : Operand) : binT Go.Proofs.Try.prog .neq 30 xo yo .nilf .nilf = some (.bool false) := by kernel_rfl
attribute [go_sem] ne_30_n
theorem sz_31 : szOf Go.Proofs.Try.prog 31 = some 1 := by kernel_rfl
attribute [go_sem] sz_31
theorem ld_31 (h : H) (id off : Nat) : loadT Go.Proofs.Try.prog h 31 id off = @thn _ _ (h.blk id) ⟨fun b => b.get off⟩ := by kernel_rfl
attribute [go_sem] ld_31
theorem st_31 (h : H) (id off : Nat) (v : CV) : storeT Go.Proofs.Try.prog h 31 id off v = @thn _ _ (h.blk id) ⟨fun b => cond (Nat.beq v.cells.length 1 && !b.ro) ((b.storeA off v.cells).map fun b' => h.put id (.cells b')) none⟩ := by kernel_rfl
attribute [go_sem] st_31
theorem part_31 (cs : List CV) (off : Nat) : partT Go.Proofs.Try.prog 31 cs off = nth cs off := by kernel_rfl
attribute [go_sem] part_31
theorem sz_32 : szOf Go.Proofs.Try.prog 32 = some 1 := by kernel_rfl
attribute [go_sem] sz_32
theorem ld_32 (h : H) (id off : Nat) : loadT Go.Proofs.Try.prog h 32 id off = @thn _ _ (h.blk id) ⟨fun b => b.get off⟩ := by kernel_rfl
attribute [go_sem] ld_32
theorem st_32 (h : H) (id off : Nat) (v : CV) : storeT Go.Proofs.Try.prog h 32 id off v = @thn _ _ (h.blk id) ⟨fun b => cond (Nat.beq v.cells.length 1 && !b.ro) ((b.storeA off v.cells).map fun b' => h.put id (.cells b')) none⟩ := by kernel_rfl
attribute [go_sem] st_32
theorem part_32 (cs : List CV) (off : Nat) : partT Go.Proofs.Try.prog 32 cs off = nth cs off := by kernel_rfl
attribute [go_sem] part_32
theorem ze_32 : zeroT Go.Proofs.Try.prog 32 = some (.nilf) := by kernel_rfl
attribute [go_sem] ze_32
theorem eq_32 (xo yo : Operand) (f : Fn) (a b : List CV) : binT Go.Proofs.Try.prog .eql 32 xo yo (.fn f a b) .nilf = some (.bool false) := by kernel_rfl
attribute [go_sem] eq_32
theorem eq_32_n (xo yo : Operand) : binT Go.Proofs.Try.prog .eql 32 xo yo .nilf .nilf = some (.bool true) := by kernel_rfl
attribute [go_sem] eq_32_n
theorem ne_32 (xo yo : Operand) (f : Fn) (a b : List CV) : binT Go.Proofs.Try.prog .neq 32 xo yo (.fn f a b) .nilf = some (.bool true) := by kernel_rfl
attribute [go_sem] ne_32
theorem ne_32_n (xo yo : Operand) : binT Go.Proofs.Try.prog .neq 32 xo yo .nilf .nilf = some (.bool false) := by kernel_rfl
attribute [go_sem] ne_32_n
theorem sz_33 : szOf Go.Proofs.Try.prog 33 = some 1 := by kernel_rfl
attribute [go_sem] sz_33
theorem ld_33 (h : H) (id off : Nat) : loadT Go.Proofs.Try.prog h 33 id off = @thn _ _ (h.blk id) ⟨fun b => b.get off⟩ := by kernel_rfl
attribute [go_sem] ld_33
theorem st_33 (h : H) (id off : Nat) (v : CV) : storeT Go.Proofs.Try.prog h 33 id off v = @thn _ _ (h.blk id) ⟨fun b => cond (Nat.beq v.cells.length 1 && !b.ro) ((b.storeA off v.cells).map fun b' => h.put id (.cells b')) none⟩ := by kernel_rfl
attribute [go_sem] st_33
theorem part_33 (cs : List CV) (off : Nat) : partT Go.Proofs.Try.prog 33 cs off = nth cs off := by kernel_rfl
attribute [go_sem] part_33
theorem ze_33 : zeroT Go.Proofs.Try.prog 33 = some (.nilf) := by kernel_rfl
attribute [go_sem] ze_33
theorem eq_33 (xo yo : Operand) (f : Fn) (a b : List CV) : binT Go.Proofs.Try.prog .eql 33 xo yo (.fn f a b) .nilf = some (.bool false) := by kernel_rfl
attribute [go_sem] eq_33
theorem eq_33_n (xo yo : Operand) : binT Go.Proofs.Try.prog .eql 33 xo yo .nilf .nilf = some (.bool true) := by kernel_rfl
attribute [go_sem] eq_33_n
theorem ne_33 (xo yo : Operand) (f : Fn) (a b : List CV) : binT Go.Proofs.Try.prog .neq 33 xo yo (.fn f a b) .nilf = some (.bool true) := by kernel_rfl
attribute [go_sem] ne_33
theorem ne_33_n (xo yo : Operand) : binT Go.Proofs.Try.prog .neq 33 xo yo .nilf .nilf = some (.bool false) := by kernel_rfl
attribute [go_sem] ne_33_n
theorem sz_34 : szOf Go.Proofs.Try.prog 34 = some 1 := by kernel_rfl
attribute [go_sem] sz_34
theorem ld_34 (h : H) (id off : Nat) : loadT Go.Proofs.Try.prog h 34 id off = @thn _ _ (h.blk id) ⟨fun b => b.get off⟩ := by kernel_rfl
attribute [go_sem] ld_34
theorem st_34 (h : H) (id off : Nat) (v : CV) : storeT Go.Proofs.Try.prog h 34 id off v = @thn _ _ (h.blk id) ⟨fun b => cond (Nat.beq v.cells.length 1 && !b.ro) ((b.storeA off v.cells).map fun b' => h.put id (.cells b')) none⟩ := by kernel_rfl
attribute [go_sem] st_34
theorem part_34 (cs : List CV) (off : Nat) : partT Go.Proofs.Try.prog 34 cs off = nth cs off := by kernel_rfl
attribute [go_sem] part_34
theorem ze_34 : zeroT Go.Proofs.Try.prog 34 = some (.nils) := by kernel_rfl
attribute [go_sem] ze_34
theorem ia_34 (id off len k : Nat) (c : Cap) (kd : IntKind) : indexAddrT Go.Proofs.Try.prog 34 (.sl id off len c) (.int kd (Int.ofNat k)) = cond (Nat.blt k len) (some (.ptr id (off + k * 1))) none := by kernel_rfl
attribute [go_sem] ia_34
theorem len_34 (h : H) (id off len : Nat) (c : Cap) (ts : List TypeId) (az : List CV) : builtinT Go.Proofs.Try.prog h .len (34 :: ts) (.sl id off len c :: az) = some (.val (.int .i64 (Int.ofNat len))) := by kernel_rfl
attribute [go_sem] len_34
theorem len_34_n (h : H) (ts : List TypeId) (az : List CV) : builtinT Go.Proofs.Try.prog h .len (34 :: ts) (.nils :: az) = some (.val (.int .i64 0)) := by kernel_rfl
attribute [go_sem] len_34_n
theorem app_34 (h : H) (s : CV) (id off len : Nat) (c : Cap) (ts : List TypeId) (az : List CV) : builtinT Go.Proofs.Try.prog h .append (34 :: 34 :: ts) (s :: .sl id off len c :: az) = uv (appendT Go.Proofs.Try.prog h 34 s (.sl id off len c)) := by kernel_rfl
attribute [go_sem] app_34
theorem app_34_n (h : H) (s : CV) (ts : List TypeId) (az : List CV) : builtinT Go.Proofs.Try.prog h .append (34 :: 34 :: ts) (s :: .nils :: az) = uv (appendT Go.Proofs.Try.prog h 34 s .nils) := by kernel_rfl
attribute [go_sem] app_34_n
theorem ap_34 (h : H) (s : CV) (id off len : Nat) (c : Cap) : appendT Go.Proofs.Try.prog h 34 s (.sl id off len c) = appS h 1 8 1 s len (firstC h 1 len (.sl id off len c)) := by kernel_rfl
attribute [go_sem] ap_34
theorem ap_34_n (h : H) (s : CV) : appendT Go.Proofs.Try.prog h 34 s .nils = appS h 1 8 1 s 0 (some []) := by kernel_rfl
attribute [go_sem] ap_34_n
theorem ap_34_z (h : H) (s : CV) (a b c d : Nat) : appendT Go.Proofs.Try.prog h 34 s (.sl0 a b c d) = appS h 1 8 1 s 0 (some []) := by kernel_rfl
attribute [go_sem] ap_34_z
theorem bs_34 (h : H) (n : Nat) (parts : List (Nat × CV)) : buildSliceT Go.Proofs.Try.prog h 34 n parts = bslS h 1 (CV.cells (.int .u64 0)) n parts := by kernel_rfl
attribute [go_sem] bs_34
theorem ms_34 (h : H) (l c : Nat) (k k' : IntKind) : makeSliceT Go.Proofs.Try.prog h 34 (.int k (Int.ofNat l)) (.int k' (Int.ofNat c)) = mkS h 1 8 (zeroT Go.Proofs.Try.prog 22) l c := by kernel_rfl
attribute [go_sem] ms_34
theorem eq_34 (xo yo : Operand) (a b c : Nat) (d : Cap) : binT Go.Proofs.Try.prog .eql 34 xo yo (.sl a b c d) .nils = some (.bool false) := by kernel_rfl
attribute [go_sem] eq_34
theorem eq_34_n (xo yo : Operand) : binT Go.Proofs.Try.prog .eql 34 xo yo .nils .nils = some (.bool true) := by kernel_rfl
attribute [go_sem] eq_34_n
theorem eq_34_z (xo yo : Operand) (a b c d : Nat) : binT Go.Proofs.Try.prog .eql 34 xo yo (.sl0 a b c d) .nils = some (.bool false) := by kernel_rfl
attribute [go_sem] eq_34_z
theorem ne_34 (xo yo : Operand) (a b c : Nat) (d : Cap) : binT Go.Proofs.Try.prog .neq 34 xo yo (.sl a b c d) .nils = some (.bool true) := by kernel_rfl
attribute [go_sem] ne_34
theorem ne_34_n (xo yo : Operand) : binT Go.Proofs.Try.prog .neq 34 xo yo .nils .nils = some (.bool false) := by kernel_rfl
attribute [go_sem] ne_34_n
theorem ne_34_z (xo yo : Operand) (a b c d : Nat) : binT Go.Proofs.Try.prog .neq 34 xo yo (.sl0 a b c d) .nils = some (.bool true) := by kernel_rfl
attribute [go_sem] ne_34_z
theorem len_34_z (h : H) (a b c d : Nat) (ts : List TypeId) (az : List CV) : builtinT Go.Proofs.Try.prog h .len (34 :: ts) (.sl0 a b c d :: az) = some (.val (.int .i64 0)) := by kernel_rfl
attribute [go_sem] len_34_z
theorem app_34_z (h : H) (s : CV) (a b c d : Nat) (ts : List TypeId) (az : List CV) : builtinT Go.Proofs.Try.prog h .append (34 :: 34 :: ts) (s :: .sl0 a b c d :: az) = uv (appendT Go.Proofs.Try.prog h 34 s (.sl0 a b c d)) := by kernel_rfl
attribute [go_sem] app_34_z
theorem sz_35 : szOf Go.Proofs.Try.prog 35 = some 1 := by kernel_rfl
attribute [go_sem] sz_35
theorem ld_35 (h : H) (id off : Nat) : loadT Go.Proofs.Try.prog h 35 id off = @thn _ _ (h.blk id) ⟨fun b => b.get off⟩ := by kernel_rfl
attribute [go_sem] ld_35
theorem st_35 (h : H) (id off : Nat) (v : CV) : storeT Go.Proofs.Try.prog h 35 id off v = @thn _ _ (h.blk id) ⟨fun b => cond (Nat.beq v.cells.length 1 && !b.ro) ((b.storeA off v.cells).map fun b' => h.put id (.cells b')) none⟩ := by kernel_rfl
attribute [go_sem] st_35
theorem part_35 (cs : List CV) (off : Nat) : partT Go.Proofs.Try.prog 35 cs off = nth cs off := by kernel_rfl
attribute [go_sem] part_35
theorem ze_35 : zeroT Go.Proofs.Try.prog 35 = some (.nilf) := by kernel_rfl
attribute [go_sem] ze_35
theorem eq_35 (xo yo : Operand) (f : Fn) (a b : List CV) : binT Go.Proofs.Try.prog .eql 35 xo yo (.fn f a b) .nilf = some (.bool false) := by kernel_rfl
attribute [go_sem] eq_35
theorem eq_35_n (xo yo : Operand) : binT Go.Proofs.Try.prog .eql 35 xo yo .nilf .nilf = some (.bool true) := by kernel_rfl
attribute [go_sem] eq_35_n
theorem ne_35 (xo yo : Operand) (f : Fn) (a b : List CV) : binT Go.Proofs.Try.prog .neq 35 xo yo (.fn f a b) .nilf = some (.bool true) := by kernel_rfl
attribute [go_sem] ne_35
theorem ne_35_n (xo yo : Operand) : binT Go.Proofs.Try.prog .neq 35 xo yo .nilf .nilf = some (.bool false) := by kernel_rfl
attribute [go_sem] ne_35_n
theorem sz_36 : szOf Go.Proofs.Try.prog 36 = some 1 := by kernel_rfl
attribute [go_sem] sz_36
theorem ld_36 (h : H) (id off : Nat) : loadT Go.Proofs.Try.prog h 36 id off = @thn _ _ (h.blk id) ⟨fun b => b.get off⟩ := by kernel_rfl
attribute [go_sem] ld_36
theorem st_36 (h : H) (id off : Nat) (v : CV) : storeT Go.Proofs.Try.prog h 36 id off v = @thn _ _ (h.blk id) ⟨fun b => cond (Nat.beq v.cells.length 1 && !b.ro) ((b.storeA off v.cells).map fun b' => h.put id (.cells b')) none⟩ := by kernel_rfl
attribute [go_sem] st_36
theorem part_36 (cs : List CV) (off : Nat) : partT Go.Proofs.Try.prog 36 cs off = nth cs off := by kernel_rfl
attribute [go_sem] part_36
theorem ze_36 : zeroT Go.Proofs.Try.prog 36 = some (.nilf) := by kernel_rfl
attribute [go_sem] ze_36
theorem eq_36 (xo yo : Operand) (f : Fn) (a b : List CV) : binT Go.Proofs.Try.prog .eql 36 xo yo (.fn f a b) .nilf = some (.bool false) := by kernel_rfl
attribute [go_sem] eq_36
theorem eq_36_n (xo yo : Operand) : binT Go.Proofs.Try.prog .eql 36 xo yo .nilf .nilf = some (.bool true) := by kernel_rfl
attribute [go_sem] eq_36_n
theorem ne_36 (xo yo : Operand) (f : Fn) (a b : List CV) : binT Go.Proofs.Try.prog .neq 36 xo yo (.fn f a b) .nilf = some (.bool true) := by kernel_rfl
attribute [go_sem] ne_36
theorem ne_36_n (xo yo : Operand) : binT Go.Proofs.Try.prog .neq 36 xo yo .nilf .nilf = some (.bool false) := by kernel_rfl
attribute [go_sem] ne_36_n
theorem sz_37 : szOf Go.Proofs.Try.prog 37 = some 1 := by kernel_rfl
attribute [go_sem] sz_37
theorem ld_37 (h : H) (id off : Nat) : loadT Go.Proofs.Try.prog h 37 id off = @thn _ _ (h.blk id) ⟨fun b => b.get off⟩ := by kernel_rfl
attribute [go_sem] ld_37
theorem st_37 (h : H) (id off : Nat) (v : CV) : storeT Go.Proofs.Try.prog h 37 id off v = @thn _ _ (h.blk id) ⟨fun b => cond (Nat.beq v.cells.length 1 && !b.ro) ((b.storeA off v.cells).map fun b' => h.put id (.cells b')) none⟩ := by kernel_rfl
attribute [go_sem] st_37
theorem part_37 (cs : List CV) (off : Nat) : partT Go.Proofs.Try.prog 37 cs off = nth cs off := by kernel_rfl
attribute [go_sem] part_37
theorem ze_37 : zeroT Go.Proofs.Try.prog 37 = some (.nilf) := by kernel_rfl
attribute [go_sem] ze_37
theorem eq_37 (xo yo : Operand) (f : Fn) (a b : List CV) : binT Go.Proofs.Try.prog .eql 37 xo yo (.fn f a b) .nilf = some (.bool false) := by kernel_rfl
attribute [go_sem] eq_37
theorem eq_37_n (xo yo : Operand) : binT Go.Proofs.Try.prog .eql 37 xo yo .nilf .nilf = some (.bool true) := by kernel_rfl
attribute [go_sem] eq_37_n
theorem ne_37 (xo yo : Operand) (f : Fn) (a b : List CV) : binT Go.Proofs.Try.prog .neq 37 xo yo (.fn f a b) .nilf = some (.bool true) := by kernel_rfl
attribute [go_sem] ne_37
theorem ne_37_n (xo yo : Operand) : binT Go.Proofs.Try.prog .neq 37 xo yo .nilf .nilf = some (.bool false) := by kernel_rfl
attribute [go_sem] ne_37_n
theorem sz_38 : szOf Go.Proofs.Try.prog 38 = some 1 := by kernel_rfl
attribute [go_sem] sz_38
theorem ld_38 (h : H) (id off : Nat) : loadT Go.Proofs.Try.prog h 38 id off = @thn _ _ (h.blk id) ⟨fun b => b.get off⟩ := by kernel_rfl
attribute [go_sem] ld_38
theorem st_38 (h : H) (id off : Nat) (v : CV) : storeT Go.Proofs.Try.prog h 38 id off v = @thn _ _ (h.blk id) ⟨fun b => cond (Nat.beq v.cells.length 1 && !b.ro) ((b.storeA off v.cells).map fun b' => h.put id (.cells b')) none⟩ := by kernel_rfl
attribute [go_sem] st_38
theorem part_38 (cs : List CV) (off : Nat) : partT Go.Proofs.Try.prog 38 cs off = nth cs off := by kernel_rfl
attribute [go_sem] part_38
theorem ze_38 : zeroT Go.Proofs.Try.prog 38 = some (.nilf) := by kernel_rfl
attribute [go_sem] ze_38
theorem eq_38 (xo yo : Operand) (f : Fn) (a b : List CV) : binT Go.Proofs.Try.prog .eql 38 xo yo (.fn f a b) .nilf = some (.bool false) := by kernel_rfl
attribute [go_sem] eq_38
theorem eq_38_n (xo yo : Operand) : binT Go.Proofs.Try.prog .eql 38 xo yo .nilf .nilf = some (.bool true) := by kernel_rfl
attribute [go_sem] eq_38_n
theorem ne_38 (xo yo : Operand) (f : Fn) (a b : List CV) : binT Go.Proofs.Try.prog .neq 38 xo yo (.fn f a b) .nilf = some (.bool true) := by kernel_rfl
attribute [go_sem] ne_38
theorem ne_38_n (xo yo : Operand) : binT Go.Proofs.Try.prog .neq 38 xo yo .nilf .nilf = some (.bool false) := by kernel_rfl
attribute [go_sem] ne_38_n
theorem sz_39 : szOf Go.Proofs.Try.prog 39 = some 1 := by kernel_rfl
attribute [go_sem] sz_39
theorem ld_39 (h : H) (id off : Nat) : loadT Go.Proofs.Try.prog h 39 id off = @thn _ _ (h.blk id) ⟨fun b => b.get off⟩ := by kernel_rfl
attribute [go_sem] ld_39
theorem st_39 (h : H) (id off : Nat) (v : CV) : storeT Go.Proofs.Try.prog h 39 id off v = @thn _ _ (h.blk id) ⟨fun b => cond (Nat.beq v.cells.length 1 && !b.ro) ((b.storeA off v.cells).map fun b' => h.put id (.cells b')) none⟩ := by kernel_rfl
attribute [go_sem] st_39
theorem part_39 (cs : List CV) (off : Nat) : partT Go.Proofs.Try.prog 39 cs off = nth cs off := by kernel_rfl
attribute [go_sem] part_39
theorem ze_39 : zeroT Go.Proofs.Try.prog 39 = some (.nils) := by kernel_rfl
attribute [go_sem] ze_39
theorem ia_39 (id off len k : Nat) (c : Cap) (kd : IntKind) : indexAddrT Go.Proofs.Try.prog 39 (.sl id off len c) (.int kd (Int.ofNat k)) = cond (Nat.blt k len) (some (.ptr id (off + k * 3))) none := by kernel_rfl
attribute [go_sem] ia_39
theorem len_39 (h : H) (id off len : Nat) (c : Cap) (ts : List TypeId) (az : List CV) : builtinT Go.Proofs.Try.prog h .len (39 :: ts) (.sl id off len c :: az) = some (.val (.int .i64 (Int.ofNat len))) := by kernel_rfl
attribute [go_sem] len_39
theorem len_39_n (h : H) (ts : List TypeId) (az : List CV) : builtinT Go.Proofs.Try.prog h .len (39 :: ts) (.nils :: az) = some (.val (.int .i64 0)) := by kernel_rfl
attribute [go_sem] len_39_n
theorem app_39 (h : H) (s : CV) (id off len : Nat) (c : Cap) (ts : List TypeId) (az : List CV) : builtinT Go.Proofs.Try.prog h .append (39 :: 39 :: ts) (s :: .sl id off len c :: az) = uv (appendT Go.Proofs.Try.prog h 39 s (.sl id off len c)) := by kernel_rfl
attribute [go_sem] app_39
theorem app_39_n (h : H) (s : CV) (ts : List TypeId) (az : List CV) : builtinT Go.Proofs.Try.prog h .append (39 :: 39 :: ts) (s :: .nils :: az) = uv (appendT Go.Proofs.Try.prog h 39 s .nils) := by kernel_rfl
attribute [go_sem] app_39_n
theorem ap_39 (h : H) (s : CV) (id off len : Nat) (c : Cap) : appendT Go.Proofs.Try.prog h 39 s (.sl id off len c) = appS h 3 24 3 s len (firstC h 3 len (.sl id off len c)) := by kernel_rfl
attribute [go_sem] ap_39
theorem ap_39_n (h : H) (s : CV) : appendT Go.Proofs.Try.prog h 39 s .nils = appS h 3 24 3 s 0 (some []) := by kernel_rfl
attribute [go_sem] ap_39_n
theorem ap_39_z (h : H) (s : CV) (a b c d : Nat) : appendT Go.Proofs.Try.prog h 39 s (.sl0 a b c d) = appS h 3 24 3 s 0 (some []) := by kernel_rfl
attribute [go_sem] ap_39_z
theorem bs_39 (h : H) (n : Nat) (parts : List (Nat × CV)) : buildSliceT Go.Proofs.Try.prog h 39 n parts = bslS h 3 (CV.cells (.agg [.int .i64 0, .int .i64 0, .int .i64 0])) n parts := by kernel_rfl
attribute [go_sem] bs_39
theorem ms_39 (h : H) (l c : Nat) (k k' : IntKind) : makeSliceT Go.Proofs.Try.prog h 39 (.int k (Int.ofNat l)) (.int k' (Int.ofNat c)) = mkS h 3 24 (zeroT Go.Proofs.Try.prog 45) l c := by kernel_rfl
attribute [go_sem] ms_39
theorem eq_39 (xo yo : Operand) (a b c : Nat) (d : Cap) : binT Go.Proofs.Try.prog .eql 39 xo yo (.sl a b c d) .nils = some (.bool false) := by kernel_rfl
attribute [go_sem] eq_39
theorem eq_39_n (xo yo : Operand) : binT Go.Proofs.Try.prog .eql 39 xo yo .nils .nils = some (.bool true) := by kernel_rfl
attribute [go_sem] eq_39_n
theorem eq_39_z (xo yo : Operand) (a b c d : Nat) : binT Go.Proofs.Try.prog .eql 39 xo yo (.sl0 a b c d) .nils = some (.bool false) := by kernel_rfl
attribute [go_sem] eq_39_z
theorem ne_39 (xo yo : Operand) (a b c : Nat) (d : Cap) : binT Go.Proofs.Try.prog .neq 39 xo yo (.sl a b c d) .nils = some (.bool true) := by kernel_rfl
attribute [go_sem] ne_39
theorem ne_39_n (xo yo : Operand) : binT Go.Proofs.Try.prog .neq 39 xo yo .nils .nils = some (.bool false) := by kernel_rfl
attribute [go_sem] ne_39_n
theorem ne_39_z (xo yo : Operand) (a b c d : Nat) : binT Go.Proofs.Try.prog .neq 39 xo yo (.sl0 a b c d) .nils = some (.bool true) := by kernel_rfl
attribute [go_sem] ne_39_z
theorem len_39_z (h : H) (a b c d : Nat) (ts : List TypeId) (az : List CV) : builtinT Go.Proofs.Try.prog h .len (39 :: ts) (.sl0 a b c d :: az) = some (.val (.int .i64 0)) := by kernel_rfl
attribute [go_sem] len_39_z
theorem app_39_z (h : H) (s : CV) (a b c d : Nat) (ts : List TypeId) (az : List CV) : builtinT Go.Proofs.Try.prog h .append (39 :: 39 :: ts) (s :: .sl0 a b c d :: az) = uv (appendT Go.Proofs.Try.prog h 39 s (.sl0 a b c d)) := by kernel_rfl
attribute [go_sem] app_39_z
theorem sz_40 : szOf Go.Proofs.Try.prog 40 = some 2 := by kernel_rfl
attribute [go_sem] sz_40
theorem ld_40 (h : H) (id off : Nat) : loadT Go.Proofs.Try.prog h 40 id off = @thn _ _ (h.blk id) ⟨fun b => (b.loadN off 2).map .agg⟩ := by kernel_rfl
attribute [go_sem] ld_40
theorem st_40 (h : H) (id off : Nat) (v : CV) : storeT Go.Proofs.Try.prog h 40 id off v = @thn _ _ (h.blk id) ⟨fun b => cond (Nat.beq v.cells.length 2 && !b.ro) ((b.storeA off v.cells).map fun b' => h.put id (.cells b')) none⟩ := by kernel_rfl
attribute [go_sem] st_40
theorem part_40 (cs : List CV) (off : Nat) : partT Go.Proofs.Try.prog 40 cs off = some (.agg ((cs.drop off).take 2)) := by kernel_rfl
attribute [go_sem] part_40
theorem ze_40 : zeroT Go.Proofs.Try.prog 40 = some (.agg [.int .u64 0, .int .u64 0]) := by kernel_rfl
attribute [go_sem] ze_40
theorem ia_40 (id off k : Nat) (kd : IntKind) : indexAddrT Go.Proofs.Try.prog 40 (.ptr id off) (.int kd (Int.ofNat k)) = cond (Nat.blt k 2) (some (.ptr id (off + k * 1))) none := by kernel_rfl
attribute [go_sem] ia_40
theorem ix_40 (cs : List CV) (k : Nat) (kd : IntKind) : indexT Go.Proofs.Try.prog 40 (.agg cs) (.int kd (Int.ofNat k)) = cond (Nat.blt k 2) (partT Go.Proofs.Try.prog 22 cs (k * 1)) none := by kernel_rfl
attribute [go_sem] ix_40
theorem len_40 (h : H) (ts : List TypeId) (az : List CV) (a : CV) : builtinT Go.Proofs.Try.prog h .len (40 :: ts) (a :: az) = some (.val (.int .i64 2)) := by kernel_rfl
attribute [go_sem] len_40
theorem bt_40 (parts : List (Nat × CV)) : buildT Go.Proofs.Try.prog 40 parts = finB (CV.cells (.agg [.int .u64 0, .int .u64 0])) (fun i => some (i * 1, 1)) parts := by kernel_rfl
attribute [go_sem] bt_40
theorem sz_41 : szOf Go.Proofs.Try.prog 41 = some 4 := by kernel_rfl
attribute [go_sem] sz_41
theorem ld_41 (h : H) (id off : Nat) : loadT Go.Proofs.Try.prog h 41 id off = @thn _ _ (h.blk id) ⟨fun b => (b.loadN off 4).map .agg⟩ := by kernel_rfl
attribute [go_sem] ld_41
theorem st_41 (h : H) (id off : Nat) (v : CV) : storeT Go.Proofs.Try.prog h 41 id off v = @thn _ _ (h.blk id) ⟨fun b => cond (Nat.beq v.cells.length 4 && !b.ro) ((b.storeA off v.cells).map fun b' => h.put id (.cells b')) none⟩ := by kernel_rfl
attribute [go_sem] st_41
theorem part_41 (cs : List CV) (off : Nat) : partT Go.Proofs.Try.prog 41 cs off = some (.agg ((cs.drop off).take 4)) := by kernel_rfl
attribute [go_sem] part_41
theorem ze_41 : zeroT Go.Proofs.Try.prog 41 = some (.agg [.int .u64 0, .int .u64 0, .int .u64 0, .int .u64 0]) := by kernel_rfl
attribute [go_sem] ze_41
theorem bt_41 (parts : List (Nat × CV)) : buildT Go.Proofs.Try.prog 41 parts = finB (CV.cells (.agg [.int .u64 0, .int .u64 0, .int .u64 0, .int .u64 0])) (nth [(0, 1), (1, 1), (2, 2)]) parts := by kernel_rfl
attribute [go_sem] bt_41
theorem fa_41_0 (id off : Nat) : fieldAddrT Go.Proofs.Try.prog 41 (.ptr id off) 0 = some (.ptr id (off)) := by kernel_rfl
attribute [go_sem] fa_41_0
theorem fd_41_0 (cs : List CV) : fieldT Go.Proofs.Try.prog 41 (.agg cs) 0 = partT Go.Proofs.Try.prog 22 cs 0 := by kernel_rfl
attribute [go_sem] fd_41_0
theorem fa_41_1 (id off : Nat) : fieldAddrT Go.Proofs.Try.prog 41 (.ptr id off) 1 = some (.ptr id (off + 1)) := by kernel_rfl
attribute [go_sem] fa_41_1
theorem fd_41_1 (cs : List CV) : fieldT Go.Proofs.Try.prog 41 (.agg cs) 1 = partT Go.Proofs.Try.prog 22 cs 1 := by kernel_rfl
attribute [go_sem] fd_41_1
theorem fa_41_2 (id off : Nat) : fieldAddrT Go.Proofs.Try.prog 41 (.ptr id off) 2 = some (.ptr id (off + 2)) := by kernel_rfl
attribute [go_sem] fa_41_2
theorem fd_41_2 (cs : List CV) : fieldT Go.Proofs.Try.prog 41 (.agg cs) 2 = partT Go.Proofs.Try.prog 40 cs 2 := by kernel_rfl
attribute [go_sem] fd_41_2
theorem sz_42 : szOf Go.Proofs.Try.prog 42 = some 4 := by kernel_rfl
attribute [go_sem] sz_42
theorem ld_42 (h : H) (id off : Nat) : loadT Go.Proofs.Try.prog h 42 id off = @thn _ _ (h.blk id) ⟨fun b => (b.loadN off 4).map .agg⟩ := by kernel_rfl
attribute [go_sem] ld_42
theorem st_42 (h : H) (id off : Nat) (v : CV) : storeT Go.Proofs.Try.prog h 42 id off v = @thn _ _ (h.blk id) ⟨fun b => cond (Nat.beq v.cells.length 4 && !b.ro) ((b.storeA off v.cells).map fun b' => h.put id (.cells b')) none⟩ := by kernel_rfl
attribute [go_sem] st_42
theorem part_42 (cs : List CV) (off : Nat) : partT Go.Proofs.Try.prog 42 cs off = some (.agg ((cs.drop off).take 4)) := by kernel_rfl
attribute [go_sem] part_42
theorem ze_42 : zeroT Go.Proofs.Try.prog 42 = some (.agg [.int .u64 0, .int .u64 0, .int .u64 0, .int .u64 0]) := by kernel_rfl
attribute [go_sem] ze_42
theorem bt_42 (parts : List (Nat × CV)) : buildT Go.Proofs.Try.prog 42 parts = finB (CV.cells (.agg [.int .u64 0, .int .u64 0, .int .u64 0, .int .u64 0])) (nth [(0, 1), (1, 1), (2, 2)]) parts := by kernel_rfl
attribute [go_sem] bt_42
theorem fa_42_0 (id off : Nat) : fieldAddrT Go.Proofs.Try.prog 42 (.ptr id off) 0 = some (.ptr id (off)) := by kernel_rfl
attribute [go_sem] fa_42_0
theorem fd_42_0 (cs : List CV) : fieldT Go.Proofs.Try.prog 42 (.agg cs) 0 = partT Go.Proofs.Try.prog 22 cs 0 := by kernel_rfl
attribute [go_sem] fd_42_0
theorem fa_42_1 (id off : Nat) : fieldAddrT Go.Proofs.Try.prog 42 (.ptr id off) 1 = some (.ptr id (off + 1)) := by kernel_rfl
attribute [go_sem] fa_42_1
theorem fd_42_1 (cs : List CV) : fieldT Go.Proofs.Try.prog 42 (.agg cs) 1 = partT Go.Proofs.Try.prog 22 cs 1 := by kernel_rfl
attribute [go_sem] fd_42_1
theorem fa_42_2 (id off : Nat) : fieldAddrT Go.Proofs.Try.prog 42 (.ptr id off) 2 = some (.ptr id (off + 2)) := by kernel_rfl
attribute [go_sem] fa_42_2
theorem fd_42_2 (cs : List CV) : fieldT Go.Proofs.Try.prog 42 (.agg cs) 2 = partT Go.Proofs.Try.prog 40 cs 2 := by kernel_rfl
attribute [go_sem] fd_42_2
theorem sz_43 : szOf Go.Proofs.Try.prog 43 = some 16 := by kernel_rfl
attribute [go_sem] sz_43
theorem ld_43 (h : H) (id off : Nat) : loadT Go.Proofs.Try.prog h 43 id off = @thn _ _ (h.blk id) ⟨fun b => (b.loadN off 16).map .agg⟩ := by kernel_rfl
attribute [go_sem] ld_43
theorem st_43 (h : H) (id off : Nat) (v : CV) : storeT Go.Proofs.Try.prog h 43 id off v = @thn _ _ (h.blk id) ⟨fun b => cond (Nat.beq v.cells.length 16 && !b.ro) ((b.storeA off v.cells).map fun b' => h.put id (.cells b')) none⟩ := by kernel_rfl
attribute [go_sem] st_43
theorem part_43 (cs : List CV) (off : Nat) : partT Go.Proofs.Try.prog 43 cs off = some (.agg ((cs.drop off).take 16)) := by kernel_rfl
attribute [go_sem] part_43
theorem ze_43 : zeroT Go.Proofs.Try.prog 43 = some (.agg [.int .u64 0, .int .u64 0, .int .u64 0, .int .u64 0, .int .u64 0, .int .u64 0, .int .u64 0, .int .u64 0, .int .u64 0, .int .u64 0, .int .u64 0, .int .u64 0, .int .u64 0, .int .u64 0, .int .u64 0, .int .u64 0]) := by kernel_rfl
attribute [go_sem] ze_43
theorem ia_43 (id off k : Nat) (kd : IntKind) : indexAddrT Go.Proofs.Try.prog 43 (.ptr id off) (.int kd (Int.ofNat k)) = cond (Nat.blt k 4) (some (.ptr id (off + k * 4))) none := by kernel_rfl
attribute [go_sem] ia_43
theorem ix_43 (cs : List CV) (k : Nat) (kd : IntKind) : indexT Go.Proofs.Try.prog 43 (.agg cs) (.int kd (Int.ofNat k)) = cond (Nat.blt k 4) (partT Go.Proofs.Try.prog 42 cs (k * 4)) none := by kernel_rfl
attribute [go_sem] ix_43
theorem len_43 (h : H) (ts : List TypeId) (az : List CV) (a : CV) : builtinT Go.Proofs.Try.prog h .len (43 :: ts) (a :: az) = some (.val (.int .i64 4)) := by kernel_rfl
attribute [go_sem] len_43
theorem bt_43 (parts : List (Nat × CV)) : buildT Go.Proofs.Try.prog 43 parts = finB (CV.cells (.agg [.int .u64 0, .int .u64 0, .int .u64 0, .int .u64 0, .int .u64 0, .int .u64 0, .int .u64 0, .int .u64 0, .int .u64 0, .int .u64 0, .int .u64 0, .int .u64 0, .int .u64 0, .int .u64 0, .int .u64 0, .int .u64 0])) (fun i => some (i * 4, 4)) parts := by kernel_rfl
attribute [go_sem] bt_43
theorem sz_44 : szOf Go.Proofs.Try.prog 44 = some 3 := by kernel_rfl
attribute [go_sem] sz_44
theorem ld_44 (h : H) (id off : Nat) : loadT Go.Proofs.Try.prog h 44 id off = @thn _ _ (h.blk id) ⟨fun b => (b.loadN off 3).map .agg⟩ := by kernel_rfl
attribute [go_sem] ld_44
theorem st_44 (h : H) (id off : Nat) (v : CV) : storeT Go.Proofs.Try.prog h 44 id off v = @thn _ _ (h.blk id) ⟨fun b => cond (Nat.beq v.cells.length 3 && !b.ro) ((b.storeA off v.cells).map fun b' => h.put id (.cells b')) none⟩ := by kernel_rfl
attribute [go_sem] st_44
theorem part_44 (cs : List CV) (off : Nat) : partT Go.Proofs.Try.prog 44 cs off = some (.agg ((cs.drop off).take 3)) := by kernel_rfl
attribute [go_sem] part_44
theorem ze_44 : zeroT Go.Proofs.Try.prog 44 = some (.agg [.int .i64 0, .int .i64 0, .int .i64 0]) := by kernel_rfl
attribute [go_sem] ze_44
theorem bt_44 (parts : List (Nat × CV)) : buildT Go.Proofs.Try.prog 44 parts = finB (CV.cells (.agg [.int .i64 0, .int .i64 0, .int .i64 0])) (nth [(0, 1), (1, 1), (2, 1)]) parts := by kernel_rfl
attribute [go_sem] bt_44
theorem fa_44_0 (id off : Nat) : fieldAddrT Go.Proofs.Try.prog 44 (.ptr id off) 0 = some (.ptr id (off)) := by kernel_rfl
attribute [go_sem] fa_44_0
theorem fd_44_0 (cs : List CV) : fieldT Go.Proofs.Try.prog 44 (.agg cs) 0 = partT Go.Proofs.Try.prog 3 cs 0 := by kernel_rfl
attribute [go_sem] fd_44_0
theorem fa_44_1 (id off : Nat) : fieldAddrT Go.Proofs.Try.prog 44 (.ptr id off) 1 = some (.ptr id (off + 1)) := by kernel_rfl
attribute [go_sem] fa_44_1
theorem fd_44_1 (cs : List CV) : fieldT Go.Proofs.Try.prog 44 (.agg cs) 1 = partT Go.Proofs.Try.prog 3 cs 1 := by kernel_rfl
attribute [go_sem] fd_44_1
theorem fa_44_2 (id off : Nat) : fieldAddrT Go.Proofs.Try.prog 44 (.ptr id off) 2 = some (.ptr id (off + 2)) := by kernel_rfl
attribute [go_sem] fa_44_2
theorem fd_44_2 (cs : List CV) : fieldT Go.Proofs.Try.prog 44 (.agg cs) 2 = partT Go.Proofs.Try.prog 3 cs 2 := by kernel_rfl
attribute [go_sem] fd_44_2
theorem sz_45 : szOf Go.Proofs.Try.prog 45 = some 3 := by kernel_rfl
attribute [go_sem] sz_45
theorem ld_45 (h : H) (id off : Nat) : loadT Go.Proofs.Try.prog h 45 id off = @thn _ _ (h.blk id) ⟨fun b => (b.loadN off 3).map .agg⟩ := by kernel_rfl
attribute [go_sem] ld_45
theorem st_45 (h : H) (id off : Nat) (v : CV) : storeT Go.Proofs.Try.prog h 45 id off v = @thn _ _ (h.blk id) ⟨fun b => cond (Nat.beq v.cells.length 3 && !b.ro) ((b.storeA off v.cells).map fun b' => h.put id (.cells b')) none⟩ := by kernel_rfl
attribute [go_sem] st_45
theorem part_45 (cs : List CV) (off : Nat) : partT Go.Proofs.Try.prog 45 cs off = some (.agg ((cs.drop off).take 3)) := by kernel_rfl
attribute [go_sem] part_45
theorem ze_45 : zeroT Go.Proofs.Try.prog 45 = some (.agg [.int .i64 0, .int .i64 0, .int .i64 0]) := by kernel_rfl
attribute [go_sem] ze_45
theorem bt_45 (parts : List (Nat × CV)) : buildT Go.Proofs.Try.prog 45 parts = finB (CV.cells (.agg [.int .i64 0, .int .i64 0, .int .i64 0])) (nth [(0, 1), (1, 1), (2, 1)]) parts := by kernel_rfl
attribute [go_sem] bt_45
theorem fa_45_0 (id off : Nat) : fieldAddrT Go.Proofs.Try.prog 45 (.ptr id off) 0 = some (.ptr id (off)) := by kernel_rfl
attribute [go_sem] fa_45_0
theorem fd_45_0 (cs : List CV) : fieldT Go.Proofs.Try.prog 45 (.agg cs) 0 = partT Go.Proofs.Try.prog 3 cs 0 := by kernel_rfl
attribute [go_sem] fd_45_0
theorem fa_45_1 (id off : Nat) : fieldAddrT Go.Proofs.Try.prog 45 (.ptr id off) 1 = some (.ptr id (off + 1)) := by kernel_rfl
attribute [go_sem] fa_45_1
theorem fd_45_1 (cs : List CV) : fieldT Go.Proofs.Try.prog 45 (.agg cs) 1 = partT Go.Proofs.Try.prog 3 cs 1 := by kernel_rfl
attribute [go_sem] fd_45_1
theorem fa_45_2 (id off : Nat) : fieldAddrT Go.Proofs.Try.prog 45 (.ptr id off) 2 = some (.ptr id (off + 2)) := by kernel_rfl
attribute [go_sem] fa_45_2
theorem fd_45_2 (cs : List CV) : fieldT Go.Proofs.Try.prog 45 (.agg cs) 2 = partT Go.Proofs.Try.prog 3 cs 2 := by kernel_rfl
attribute [go_sem] fd_45_2
theorem sz_46 : szOf Go.Proofs.Try.prog 46 = some 1 := by kernel_rfl
attribute [go_sem] sz_46
theorem ld_46 (h : H) (id off : Nat) : loadT Go.Proofs.Try.prog h 46 id off = @thn _ _ (h.blk id) ⟨fun b => b.get off⟩ := by kernel_rfl
attribute [go_sem] ld_46
theorem st_46 (h : H) (id off : Nat) (v : CV) : storeT Go.Proofs.Try.prog h 46 id off v = @thn _ _ (h.blk id) ⟨fun b => cond (Nat.beq v.cells.length 1 && !b.ro) ((b.storeA off v.cells).map fun b' => h.put id (.cells b')) none⟩ := by kernel_rfl
attribute [go_sem] st_46
theorem part_46 (cs : List CV) (off : Nat) : partT Go.Proofs.Try.prog 46 cs off = nth cs off := by kernel_rfl
attribute [go_sem] part_46
theorem ze_46 : zeroT Go.Proofs.Try.prog 46 = some (.nilf) := by kernel_rfl
attribute [go_sem] ze_46
theorem eq_46 (xo yo : Operand) (f : Fn) (a b : List CV) : binT Go.Proofs.Try.prog .eql 46 xo yo (.fn f a b) .nilf = some (.bool false) := by kernel_rfl
attribute [go_sem] eq_46
theorem eq_46_n (xo yo : Operand) : binT Go.Proofs.Try.prog .eql 46 xo yo .nilf .nilf = some (.bool true) := by kernel_rfl
attribute [go_sem] eq_46_n
theorem ne_46 (xo yo : Operand) (f : Fn) (a b : List CV) : binT Go.Proofs.Try.prog .neq 46 xo yo (.fn f a b) .nilf = some (.bool true) := by kernel_rfl
attribute [go_sem] ne_46
theorem ne_46_n (xo yo : Operand) : binT Go.Proofs.Try.prog .neq 46 xo yo .nilf .nilf = some (.bool false) := by kernel_rfl
attribute [go_sem] ne_46_n
theorem sz_47 : szOf Go.Proofs.Try.prog 47 = some 1 := by kernel_rfl
attribute [go_sem] sz_47
theorem ld_47 (h : H) (id off : Nat) : loadT Go.Proofs.Try.prog h 47 id off = @thn _ _ (h.blk id) ⟨fun b => b.get off⟩ := by kernel_rfl
attribute [go_sem] ld_47
theorem st_47 (h : H) (id off : Nat) (v : CV) : storeT Go.Proofs.Try.prog h 47 id off v = @thn _ _ (h.blk id) ⟨fun b => cond (Nat.beq v.cells.length 1 && !b.ro) ((b.storeA off v.cells).map fun b' => h.put id (.cells b')) none⟩ := by kernel_rfl
attribute [go_sem] st_47
theorem part_47 (cs : List CV) (off : Nat) : partT Go.Proofs.Try.prog 47 cs off = nth cs off := by kernel_rfl
attribute [go_sem] part_47
theorem sz_48 : szOf Go.Proofs.Try.prog 48 = some 1 := by kernel_rfl
attribute [go_sem] sz_48
theorem ld_48 (h : H) (id off : Nat) : loadT Go.Proofs.Try.prog h 48 id off = @thn _ _ (h.blk id) ⟨fun b => b.get off⟩ := by kernel_rfl
attribute [go_sem] ld_48
theorem st_48 (h : H) (id off : Nat) (v : CV) : storeT Go.Proofs.Try.prog h 48 id off v = @thn _ _ (h.blk id) ⟨fun b => cond (Nat.beq v.cells.length 1 && !b.ro) ((b.storeA off v.cells).map fun b' => h.put id (.cells b')) none⟩ := by kernel_rfl
attribute [go_sem] st_48
theorem part_48 (cs : List CV) (off : Nat) : partT Go.Proofs.Try.prog 48 cs off = nth cs off := by kernel_rfl
attribute [go_sem] part_48
theorem ze_48 : zeroT Go.Proofs.Try.prog 48 = some (.nilf) := by kernel_rfl
attribute [go_sem] ze_48
theorem eq_48 (xo yo : Operand) (f : Fn) (a b : List CV) : binT Go.Proofs.Try.prog .eql 48 xo yo (.fn f a b) .nilf = some (.bool false) := by kernel_rfl
attribute [go_sem] eq_48
theorem eq_48_n (xo yo : Operand) : binT Go.Proofs.Try.prog .eql 48 xo yo .nilf .nilf = some (.bool true) := by kernel_rfl
attribute [go_sem] eq_48_n
theorem ne_48 (xo yo : Operand) (f : Fn) (a b : List CV) : binT Go.Proofs.Try.prog .neq 48 xo yo (.fn f a b) .nilf = some (.bool true) := by kernel_rfl
attribute [go_sem] ne_48
theorem ne_48_n (xo yo : Operand) : binT Go.Proofs.Try.prog .neq 48 xo yo .nilf .nilf = some (.bool false) := by kernel_rfl
attribute [go_sem] ne_48_n
theorem sz_49 : szOf Go.Proofs.Try.prog 49 = some 2 := by kernel_rfl
attribute [go_sem] sz_49
theorem ld_49 (h : H) (id off : Nat) : loadT Go.Proofs.Try.prog h 49 id off = @thn _ _ (h.blk id) ⟨fun b => (b.loadN off 2).map .agg⟩ := by kernel_rfl
attribute [go_sem] ld_49
theorem st_49 (h : H) (id off : Nat) (v : CV) : storeT Go.Proofs.Try.prog h 49 id off v = @thn _ _ (h.blk id) ⟨fun b => cond (Nat.beq v.cells.length 2 && !b.ro) ((b.storeA off v.cells).map fun b' => h.put id (.cells b')) none⟩ := by kernel_rfl
attribute [go_sem] st_49
theorem part_49 (cs : List CV) (off : Nat) : partT Go.Proofs.Try.prog 49 cs off = some (.agg ((cs.drop off).take 2)) := by kernel_rfl
attribute [go_sem] part_49
theorem ze_49 : zeroT Go.Proofs.Try.prog 49 = some (.agg [.int .u64 0, .int .u64 0]) := by kernel_rfl
attribute [go_sem] ze_49
theorem bt_49 (parts : List (Nat × CV)) : buildT Go.Proofs.Try.prog 49 parts = finB (CV.cells (.agg [.int .u64 0, .int .u64 0])) (nth [(0, 1), (1, 1)]) parts := by kernel_rfl
attribute [go_sem] bt_49
theorem fa_49_0 (id off : Nat) : fieldAddrT Go.Proofs.Try.prog 49 (.ptr id off) 0 = some (.ptr id (off)) := by kernel_rfl
attribute [go_sem] fa_49_0
theorem fd_49_0 (cs : List CV) : fieldT Go.Proofs.Try.prog 49 (.agg cs) 0 = partT Go.Proofs.Try.prog 22 cs 0 := by kernel_rfl
attribute [go_sem] fd_49_0
theorem fa_49_1 (id off : Nat) : fieldAddrT Go.Proofs.Try.prog 49 (.ptr id off) 1 = some (.ptr id (off + 1)) := by kernel_rfl
attribute [go_sem] fa_49_1
theorem fd_49_1 (cs : List CV) : fieldT Go.Proofs.Try.prog 49 (.agg cs) 1 = partT Go.Proofs.Try.prog 22 cs 1 := by kernel_rfl
attribute [go_sem] fd_49_1
theorem sz_50 : szOf Go.Proofs.Try.prog 50 = some 2 := by kernel_rfl
attribute [go_sem] sz_50
theorem ld_50 (h : H) (id off : Nat) : loadT Go.Proofs.Try.prog h 50 id off = @thn _ _ (h.blk id) ⟨fun b => (b.loadN off 2).map .agg⟩ := by kernel_rfl
attribute [go_sem] ld_50
theorem st_50 (h : H) (id off : Nat) (v : CV) : storeT Go.Proofs.Try.prog h 50 id off v = @thn _ _ (h.blk id) ⟨fun b => cond (Nat.beq v.cells.length 2 && !b.ro) ((b.storeA off v.cells).map fun b' => h.put id (.cells b')) none⟩ := by kernel_rfl
attribute [go_sem] st_50
theorem part_50 (cs : List CV) (off : Nat) : partT Go.Proofs.Try.prog 50 cs off = some (.agg ((cs.drop off).take 2)) := by kernel_rfl
attribute [go_sem] part_50
theorem ze_50 : zeroT Go.Proofs.Try.prog 50 = some (.agg [.int .u64 0, .int .u64 0]) := by kernel_rfl
attribute [go_sem] ze_50
theorem bt_50 (parts : List (Nat × CV)) : buildT Go.Proofs.Try.prog 50 parts = finB (CV.cells (.agg [.int .u64 0, .int .u64 0])) (nth [(0, 1), (1, 1)]) parts := by kernel_rfl
attribute [go_sem] bt_50
theorem fa_50_0 (id off : Nat) : fieldAddrT Go.Proofs.Try.prog 50 (.ptr id off) 0 = some (.ptr id (off)) := by kernel_rfl
attribute [go_sem] fa_50_0
theorem fd_50_0 (cs : List CV) : fieldT Go.Proofs.Try.prog 50 (.agg cs) 0 = partT Go.Proofs.Try.prog 22 cs 0 := by kernel_rfl
attribute [go_sem] fd_50_0
theorem fa_50_1 (id off : Nat) : fieldAddrT Go.Proofs.Try.prog 50 (.ptr id off) 1 = some (.ptr id (off + 1)) := by kernel_rfl
attribute [go_sem] fa_50_1
theorem fd_50_1 (cs : List CV) : fieldT Go.Proofs.Try.prog 50 (.agg cs) 1 = partT Go.Proofs.Try.prog 22 cs 1 := by kernel_rfl
attribute [go_sem] fd_50_1
theorem sz_51 : szOf Go.Proofs.Try.prog 51 = some 1 := by kernel_rfl
attribute [go_sem] sz_51
theorem ld_51 (h : H) (id off : Nat) : loadT Go.Proofs.Try.prog h 51 id off = @thn _ _ (h.blk id) ⟨fun b => b.get off⟩ := by kernel_rfl
attribute [go_sem] ld_51
theorem st_51 (h : H) (id off : Nat) (v : CV) : storeT Go.Proofs.Try.prog h 51 id off v = @thn _ _ (h.blk id) ⟨fun b => cond (Nat.beq v.cells.length 1 && !b.ro) ((b.storeA off v.cells).map fun b' => h.put id (.cells b')) none⟩ := by kernel_rfl
attribute [go_sem] st_51
theorem part_51 (cs : List CV) (off : Nat) : partT Go.Proofs.Try.prog 51 cs off = nth cs off := by kernel_rfl
attribute [go_sem] part_51
theorem ze_51 : zeroT Go.Proofs.Try.prog 51 = some (.nilf) := by kernel_rfl
attribute [go_sem] ze_51
theorem eq_51 (xo yo : Operand) (f : Fn) (a b : List CV) : binT Go.Proofs.Try.prog .eql 51 xo yo (.fn f a b) .nilf = some (.bool false) := by kernel_rfl
attribute [go_sem] eq_51
theorem eq_51_n (xo yo : Operand) : binT Go.Proofs.Try.prog .eql 51 xo yo .nilf .nilf = some (.bool true) := by kernel_rfl
attribute [go_sem] eq_51_n
theorem ne_51 (xo yo : Operand) (f : Fn) (a b : List CV) : binT Go.Proofs.Try.prog .neq 51 xo yo (.fn f a b) .nilf = some (.bool true) := by kernel_rfl
attribute [go_sem] ne_51
theorem ne_51_n (xo yo : Operand) : binT Go.Proofs.Try.prog .neq 51 xo yo .nilf .nilf = some (.bool false) := by kernel_rfl
attribute [go_sem] ne_51_n
theorem sz_52 : szOf Go.Proofs.Try.prog 52 = some 1 := by kernel_rfl
attribute [go_sem] sz_52
theorem ld_52 (h : H) (id off : Nat) : loadT Go.Proofs.Try.prog h 52 id off = @thn _ _ (h.blk id) ⟨fun b => b.get off⟩ := by kernel_rfl
attribute [go_sem] ld_52
theorem st_52 (h : H) (id off : Nat) (v : CV) : storeT Go.Proofs.Try.prog h 52 id off v = @thn _ _ (h.blk id) ⟨fun b => cond (Nat.beq v.cells.length 1 && !b.ro) ((b.storeA off v.cells).map fun b' => h.put id (.cells b')) none⟩ := by kernel_rfl
attribute [go_sem] st_52
theorem part_52 (cs : List CV) (off : Nat) : partT Go.Proofs.Try.prog 52 cs off = nth cs off := by kernel_rfl
attribute [go_sem] part_52
theorem ze_52 : zeroT Go.Proofs.Try.prog 52 = some (.int .i64 0) := by kernel_rfl
attribute [go_sem] ze_52
theorem sz_53 : szOf Go.Proofs.Try.prog 53 = some 1 := by kernel_rfl
attribute [go_sem] sz_53
theorem ld_53 (h : H) (id off : Nat) : loadT Go.Proofs.Try.prog h 53 id off = @thn _ _ (h.blk id) ⟨fun b => b.get off⟩ := by kernel_rfl
attribute [go_sem] ld_53
theorem st_53 (h : H) (id off : Nat) (v : CV) : storeT Go.Proofs.Try.prog h 53 id off v = @thn _ _ (h.blk id) ⟨fun b => cond (Nat.beq v.cells.length 1 && !b.ro) ((b.storeA off v.cells).map fun b' => h.put id (.cells b')) none⟩ := by kernel_rfl
attribute [go_sem] st_53
theorem part_53 (cs : List CV) (off : Nat) : partT Go.Proofs.Try.prog 53 cs off = nth cs off := by kernel_rfl
attribute [go_sem] part_53
theorem ze_53 : zeroT Go.Proofs.Try.prog 53 = some (.nilf) := by kernel_rfl
attribute [go_sem] ze_53
theorem eq_53 (xo yo : Operand) (f : Fn) (a b : List CV) : binT Go.Proofs.Try.prog .eql 53 xo yo (.fn f a b) .nilf = some (.bool false) := by kernel_rfl
attribute [go_sem] eq_53
theorem eq_53_n (xo yo : Operand) : binT Go.Proofs.Try.prog .eql 53 xo yo .nilf .nilf = some (.bool true) := by kernel_rfl
attribute [go_sem] eq_53_n
theorem ne_53 (xo yo : Operand) (f : Fn) (a b : List CV) : binT Go.Proofs.Try.prog .neq 53 xo yo (.fn f a b) .nilf = some (.bool true) := by kernel_rfl
attribute [go_sem] ne_53
theorem ne_53_n (xo yo : Operand) : binT Go.Proofs.Try.prog .neq 53 xo yo .nilf .nilf = some (.bool false) := by kernel_rfl
attribute [go_sem] ne_53_n
theorem sz_54 : szOf Go.Proofs.Try.prog 54 = some 1 := by kernel_rfl
attribute [go_sem] sz_54
theorem ld_54 (h : H) (id off : Nat) : loadT Go.Proofs.Try.prog h 54 id off = @thn _ _ (h.blk id) ⟨fun b => b.get off⟩ := by kernel_rfl
attribute [go_sem] ld_54
theorem st_54 (h : H) (id off : Nat) (v : CV) : storeT Go.Proofs.Try.prog h 54 id off v = @thn _ _ (h.blk id) ⟨fun b => cond (Nat.beq v.cells.length 1 && !b.ro) ((b.storeA off v.cells).map fun b' => h.put id (.cells b')) none⟩ := by kernel_rfl
attribute [go_sem] st_54
theorem part_54 (cs : List CV) (off : Nat) : partT Go.Proofs.Try.prog 54 cs off = nth cs off := by kernel_rfl
attribute [go_sem] part_54
theorem ze_54 : zeroT Go.Proofs.Try.prog 54 = some (.nilf) := by kernel_rfl
attribute [go_sem] ze_54
theorem eq_54 (xo yo : Operand) (f : Fn) (a b : List CV) : binT Go.Proofs.Try.prog .eql 54 xo yo (.fn f a b) .nilf = some (.bool false) := by kernel_rfl
attribute [go_sem] eq_54
theorem eq_54_n (xo yo : Operand) : binT Go.Proofs.Try.prog .eql 54 xo yo .nilf .nilf = some (.bool true) := by kernel_rfl
attribute [go_sem] eq_54_n
theorem ne_54 (xo yo : Operand) (f : Fn) (a b : List CV) : binT Go.Proofs.Try.prog .neq 54 xo yo (.fn f a b) .nilf = some (.bool true) := by kernel_rfl
attribute [go_sem] ne_54
theorem ne_54_n (xo yo : Operand) : binT Go.Proofs.Try.prog .neq 54 xo yo .nilf .nilf = some (.bool false) := by kernel_rfl
attribute [go_sem] ne_54_n
theorem sz_55 : szOf Go.Proofs.Try.prog 55 = some 1 := by kernel_rfl
attribute [go_sem] sz_55
theorem ld_55 (h : H) (id off : Nat) : loadT Go.Proofs.Try.prog h 55 id off = @thn _ _ (h.blk id) ⟨fun b => b.get off⟩ := by kernel_rfl
attribute [go_sem] ld_55
theorem st_55 (h : H) (id off : Nat) (v : CV) : storeT Go.Proofs.Try.prog h 55 id off v = @thn _ _ (h.blk id) ⟨fun b => cond (Nat.beq v.cells.length 1 && !b.ro) ((b.storeA off v.cells).map fun b' => h.put id (.cells b')) none⟩ := by kernel_rfl
attribute [go_sem] st_55
theorem part_55 (cs : List CV) (off : Nat) : partT Go.Proofs.Try.prog 55 cs off = nth cs off := by kernel_rfl
attribute [go_sem] part_55
theorem ze_55 : zeroT Go.Proofs.Try.prog 55 = some (.nils) := by kernel_rfl
attribute [go_sem] ze_55
theorem ia_55 (id off len k : Nat) (c : Cap) (kd : IntKind) : indexAddrT Go.Proofs.Try.prog 55 (.sl id off len c) (.int kd (Int.ofNat k)) = cond (Nat.blt k len) (some (.ptr id (off + k * 4))) none := by kernel_rfl
attribute [go_sem] ia_55
theorem len_55 (h : H) (id off len : Nat) (c : Cap) (ts : List TypeId) (az : List CV) : builtinT Go.Proofs.Try.prog h .len (55 :: ts) (.sl id off len c :: az) = some (.val (.int .i64 (Int.ofNat len))) := by kernel_rfl
attribute [go_sem] len_55
theorem len_55_n (h : H) (ts : List TypeId) (az : List CV) : builtinT Go.Proofs.Try.prog h .len (55 :: ts) (.nils :: az) = some (.val (.int .i64 0)) := by kernel_rfl
attribute [go_sem] len_55_n
theorem app_55 (h : H) (s : CV) (id off len : Nat) (c : Cap) (ts : List TypeId) (az : List CV) : builtinT Go.Proofs.Try.prog h .append (55 :: 55 :: ts) (s :: .sl id off len c :: az) = uv (appendT Go.Proofs.Try.prog h 55 s (.sl id off len c)) := by kernel_rfl
attribute [go_sem] app_55
theorem app_55_n (h : H) (s : CV) (ts : List TypeId) (az : List CV) : builtinT Go.Proofs.Try.prog h .append (55 :: 55 :: ts) (s :: .nils :: az) = uv (appendT Go.Proofs.Try.prog h 55 s .nils) := by kernel_rfl
attribute [go_sem] app_55_n
theorem ap_55 (h : H) (s : CV) (id off len : Nat) (c : Cap) : appendT Go.Proofs.Try.prog h 55 s (.sl id off len c) = appS h 4 32 4 s len (firstC h 4 len (.sl id off len c)) := by kernel_rfl
attribute [go_sem] ap_55
theorem ap_55_n (h : H) (s : CV) : appendT Go.Proofs.Try.prog h 55 s .nils = appS h 4 32 4 s 0 (some []) := by kernel_rfl
attribute [go_sem] ap_55_n
theorem ap_55_z (h : H) (s : CV) (a b c d : Nat) : appendT Go.Proofs.Try.prog h 55 s (.sl0 a b c d) = appS h 4 32 4 s 0 (some []) := by kernel_rfl
attribute [go_sem] ap_55_z
theorem bs_55 (h : H) (n : Nat) (parts : List (Nat × CV)) : buildSliceT Go.Proofs.Try.prog h 55 n parts = bslS h 4 (CV.cells (.agg [.int .i64 0, .int .u64 0, .int .i64 0, .bool false])) n parts := by kernel_rfl
attribute [go_sem] bs_55
theorem ms_55 (h : H) (l c : Nat) (k k' : IntKind) : makeSliceT Go.Proofs.Try.prog h 55 (.int k (Int.ofNat l)) (.int k' (Int.ofNat c)) = mkS h 4 32 (zeroT Go.Proofs.Try.prog 63) l c := by kernel_rfl
attribute [go_sem] ms_55
theorem eq_55 (xo yo : Operand) (a b c : Nat) (d : Cap) : binT Go.Proofs.Try.prog .eql 55 xo yo (.sl a b c d) .nils = some (.bool false) := by kernel_rfl
attribute [go_sem] eq_55
theorem eq_55_n (xo yo : Operand) : binT Go.Proofs.Try.prog .eql 55 xo yo .nils .nils = some (.bool true) := by kernel_rfl
attribute [go_sem] eq_55_n
theorem eq_55_z (xo yo : Operand) (a b c d : Nat) : binT Go.Proofs.Try.prog .eql 55 xo yo (.sl0 a b c d) .nils = some (.bool false) := by kernel_rfl
attribute [go_sem] eq_55_z
theorem ne_55 (xo yo : Operand) (a b c : Nat) (d : Cap) : binT Go.Proofs.Try.prog .neq 55 xo yo (.sl a b c d) .nils = some (.bool true) := by kernel_rfl
attribute [go_sem] ne_55
theorem ne_55_n (xo yo : Operand) : binT Go.Proofs.Try.prog .neq 55 xo yo .nils .nils = some (.bool false) := by kernel_rfl
attribute [go_sem] ne_55_n
theorem ne_55_z (xo yo : Operand) (a b c d : Nat) : binT Go.Proofs.Try.prog .neq 55 xo yo (.sl0 a b c d) .nils = some (.bool true) := by kernel_rfl
attribute [go_sem] ne_55_z
theorem len_55_z (h : H) (a b c d : Nat) (ts : List TypeId) (az : List CV) : builtinT Go.Proofs.Try.prog h .len (55 :: ts) (.sl0 a b c d :: az) = some (.val (.int .i64 0)) := by kernel_rfl
attribute [go_sem] len_55_z
theorem app_55_z (h : H) (s : CV) (a b c d : Nat) (ts : List TypeId) (az : List CV) : builtinT Go.Proofs.Try.prog h .append (55 :: 55 :: ts) (s :: .sl0 a b c d :: az) = uv (appendT Go.Proofs.Try.prog h 55 s (.sl0 a b c d)) := by kernel_rfl
attribute [go_sem] app_55_z
theorem sz_56 : szOf Go.Proofs.Try.prog 56 = some 1 := by kernel_rfl
attribute [go_sem] sz_56
theorem ld_56 (h : H) (id off : Nat) : loadT Go.Proofs.Try.prog h 56 id off = @thn _ _ (h.blk id) ⟨fun b => b.get off⟩ := by kernel_rfl
attribute [go_sem] ld_56
theorem st_56 (h : H) (id off : Nat) (v : CV) : storeT Go.Proofs.Try.prog h 56 id off v = @thn _ _ (h.blk id) ⟨fun b => cond (Nat.beq v.cells.length 1 && !b.ro) ((b.storeA off v.cells).map fun b' => h.put id (.cells b')) none⟩ := by kernel_rfl
attribute [go_sem] st_56
theorem part_56 (cs : List CV) (off : Nat) : partT Go.Proofs.Try.prog 56 cs off = nth cs off := by kernel_rfl
attribute [go_sem] part_56
theorem ze_56 : zeroT Go.Proofs.Try.prog 56 = some (.nilp) := by kernel_rfl
attribute [go_sem] ze_56
theorem eq_56 (xo yo : Operand) (a b : Nat) : binT Go.Proofs.Try.prog .eql 56 xo yo (.ptr a b) .nilp = some (.bool false) := by kernel_rfl
attribute [go_sem] eq_56
theorem eq_56_n (xo yo : Operand) : binT Go.Proofs.Try.prog .eql 56 xo yo .nilp .nilp = some (.bool true) := by kernel_rfl
attribute [go_sem] eq_56_n
theorem ne_56 (xo yo : Operand) (a b : Nat) : binT Go.Proofs.Try.prog .neq 56 xo yo (.ptr a b) .nilp = some (.bool true) := by kernel_rfl
attribute [go_sem] ne_56
theorem ne_56_n (xo yo : Operand) : binT Go.Proofs.Try.prog .neq 56 xo yo .nilp .nilp = some (.bool false) := by kernel_rfl
attribute [go_sem] ne_56_n
theorem sz_57 : szOf Go.Proofs.Try.prog 57 = some 1 := by kernel_rfl
attribute [go_sem] sz_57
theorem ld_57 (h : H) (id off : Nat) : loadT Go.Proofs.Try.prog h 57 id off = @thn _ _ (h.blk id) ⟨fun b => b.get off⟩ := by kernel_rfl
attribute [go_sem] ld_57
theorem st_57 (h : H) (id off : Nat) (v : CV) : storeT Go.Proofs.Try.prog h 57 id off v = @thn _ _ (h.blk id) ⟨fun b => cond (Nat.beq v.cells.length 1 && !b.ro) ((b.storeA off v.cells).map fun b' => h.put id (.cells b')) none⟩ := by kernel_rfl
attribute [go_sem] st_57
theorem part_57 (cs : List CV) (off : Nat) : partT Go.Proofs.Try.prog 57 cs off = nth cs off := by kernel_rfl
attribute [go_sem] part_57
theorem ze_57 : zeroT Go.Proofs.Try.prog 57 = some (.nilf) := by kernel_rfl
attribute [go_sem] ze_57
theorem eq_57 (xo yo : Operand) (f : Fn) (a b : List CV) : binT Go.Proofs.Try.prog .eql 57 xo yo (.fn f a b) .nilf = some (.bool false) := by kernel_rfl
attribute [go_sem] eq_57
theorem eq_57_n (xo yo : Operand) : binT Go.Proofs.Try.prog .eql 57 xo yo .nilf .nilf = some (.bool true) := by kernel_rfl
attribute [go_sem] eq_57_n
theorem ne_57 (xo yo : Operand) (f : Fn) (a b : List CV) : binT Go.Proofs.Try.prog .neq 57 xo yo (.fn f a b) .nilf = some (.bool true) := by kernel_rfl
attribute [go_sem] ne_57
theorem ne_57_n (xo yo : Operand) : binT Go.Proofs.Try.prog .neq 57 xo yo .nilf .nilf = some (.bool false) := by kernel_rfl
attribute [go_sem] ne_57_n
theorem sz_58 : szOf Go.Proofs.Try.prog 58 = some 1 := by kernel_rfl
attribute [go_sem] sz_58
theorem ld_58 (h : H) (id off : Nat) : loadT Go.Proofs.Try.prog h 58 id off = @thn _ _ (h.blk id) ⟨fun b => b.get off⟩ := by kernel_rfl
attribute [go_sem] ld_58
theorem st_58 (h : H) (id off : Nat) (v : CV) : storeT Go.Proofs.Try.prog h 58 id off v = @thn _ _ (h.blk id) ⟨fun b => cond (Nat.beq v.cells.length 1 && !b.ro) ((b.storeA off v.cells).map fun b' => h.put id (.cells b')) none⟩ := by kernel_rfl
attribute [go_sem] st_58
theorem part_58 (cs : List CV) (off : Nat) : partT Go.Proofs.Try.prog 58 cs off = nth cs off := by kernel_rfl
attribute [go_sem] part_58
theorem ze_58 : zeroT Go.Proofs.Try.prog 58 = some (.nils) := by kernel_rfl
attribute [go_sem] ze_58
theorem ia_58 (id off len k : Nat) (c : Cap) (kd : IntKind) : indexAddrT Go.Proofs.Try.prog 58 (.sl id off len c) (.int kd (Int.ofNat k)) = cond (Nat.blt k len) (some (.ptr id (off + k * 4))) none := by kernel_rfl
attribute [go_sem] ia_58
theorem len_58 (h : H) (id off len : Nat) (c : Cap) (ts : List TypeId) (az : List CV) : builtinT Go.Proofs.Try.prog h .len (58 :: ts) (.sl id off len c :: az) = some (.val (.int .i64 (Int.ofNat len))) := by kernel_rfl
attribute [go_sem] len_58
theorem len_58_n (h : H) (ts : List TypeId) (az : List CV) : builtinT Go.Proofs.Try.prog h .len (58 :: ts) (.nils :: az) = some (.val (.int .i64 0)) := by kernel_rfl
attribute [go_sem] len_58_n
theorem app_58 (h : H) (s : CV) (id off len : Nat) (c : Cap) (ts : List TypeId) (az : List CV) : builtinT Go.Proofs.Try.prog h .append (58 :: 58 :: ts) (s :: .sl id off len c :: az) = uv (appendT Go.Proofs.Try.prog h 58 s (.sl id off len c)) := by kernel_rfl
attribute [go_sem] app_58
theorem app_58_n (h : H) (s : CV) (ts : List TypeId) (az : List CV) : builtinT Go.Proofs.Try.prog h .append (58 :: 58 :: ts) (s :: .nils :: az) = uv (appendT Go.Proofs.Try.prog h 58 s .nils) := by kernel_rfl
attribute [go_sem] app_58_n
theorem ap_58 (h : H) (s : CV) (id off len : Nat) (c : Cap) : appendT Go.Proofs.Try.prog h 58 s (.sl id off len c) = appS h 4 24 4 s len (firstC h 4 len (.sl id off len c)) := by kernel_rfl
attribute [go_sem] ap_58
theorem ap_58_n (h : H) (s : CV) : appendT Go.Proofs.Try.prog h 58 s .nils = appS h 4 24 4 s 0 (some []) := by kernel_rfl
attribute [go_sem] ap_58_n
theorem ap_58_z (h : H) (s : CV) (a b c d : Nat) : appendT Go.Proofs.Try.prog h 58 s (.sl0 a b c d) = appS h 4 24 4 s 0 (some []) := by kernel_rfl
attribute [go_sem] ap_58_z
theorem bs_58 (h : H) (n : Nat) (parts : List (Nat × CV)) : buildSliceT Go.Proofs.Try.prog h 58 n parts = bslS h 4 (CV.cells (.agg [.int .u64 0, .int .i64 0, .bool false, .bool false])) n parts := by kernel_rfl
attribute [go_sem] bs_58
theorem ms_58 (h : H) (l c : Nat) (k k' : IntKind) : makeSliceT Go.Proofs.Try.prog h 58 (.int k (Int.ofNat l)) (.int k' (Int.ofNat c)) = mkS h 4 24 (zeroT Go.Proofs.Try.prog 112) l c := by kernel_rfl
attribute [go_sem] ms_58
theorem eq_58 (xo yo : Operand) (a b c : Nat) (d : Cap) : binT Go.Proofs.Try.prog .eql 58 xo yo (.sl a b c d) .nils = some (.bool false) := by kernel_rfl
attribute [go_sem] eq_58
theorem eq_58_n (xo yo : Operand) : binT Go.Proofs.Try.prog .eql 58 xo yo .nils .nils = some (.bool true) := by kernel_rfl
attribute [go_sem] eq_58_n
theorem eq_58_z (xo yo : Operand) (a b c d : Nat) : binT Go.Proofs.Try.prog .eql 58 xo yo (.sl0 a b c d) .nils = some (.bool false) := by kernel_rfl
attribute [go_sem] eq_58_z
theorem ne_58 (xo yo : Operand) (a b c : Nat) (d : Cap) : binT Go.Proofs.Try.prog .neq 58 xo yo (.sl a b c d) .nils = some (.bool true) := by kernel_rfl
attribute [go_sem] ne_58
theorem ne_58_n (xo yo : Operand) : binT Go.Proofs.Try.prog .neq 58 xo yo .nils .nils = some (.bool false) := by kernel_rfl
attribute [go_sem] ne_58_n
theorem ne_58_z (xo yo : Operand) (a b c d : Nat) : binT Go.Proofs.Try.prog .neq 58 xo yo (.sl0 a b c d) .nils = some (.bool true) := by kernel_rfl
attribute [go_sem] ne_58_z
theorem len_58_z (h : H) (a b c d : Nat) (ts : List TypeId) (az : List CV) : builtinT Go.Proofs.Try.prog h .len (58 :: ts) (.sl0 a b c d :: az) = some (.val (.int .i64 0)) := by kernel_rfl
attribute [go_sem] len_58_z
theorem app_58_z (h : H) (s : CV) (a b c d : Nat) (ts : List TypeId) (az : List CV) : builtinT Go.Proofs.Try.prog h .append (58 :: 58 :: ts) (s :: .sl0 a b c d :: az) = uv (appendT Go.Proofs.Try.prog h 58 s (.sl0 a b c d)) := by kernel_rfl
attribute [go_sem] app_58_z
theorem sz_59 : szOf Go.Proofs.Try.prog 59 = some 1 := by kernel_rfl
attribute [go_sem] sz_59
theorem ld_59 (h : H) (id off : Nat) : loadT Go.Proofs.Try.prog h 59 id off = @thn _ _ (h.blk id) ⟨fun b => b.get off⟩ := by kernel_rfl
attribute [go_sem] ld_59
theorem st_59 (h : H) (id off : Nat) (v : CV) : storeT Go.Proofs.Try.prog h 59 id off v = @thn _ _ (h.blk id) ⟨fun b => cond (Nat.beq v.cells.length 1 && !b.ro) ((b.storeA off v.cells).map fun b' => h.put id (.cells b')) none⟩ := by kernel_rfl
attribute [go_sem] st_59
theorem part_59 (cs : List CV) (off : Nat) : partT Go.Proofs.Try.prog 59 cs off = nth cs off := by kernel_rfl
attribute [go_sem] part_59
theorem ze_59 : zeroT Go.Proofs.Try.prog 59 = some (.nils) := by kernel_rfl
attribute [go_sem] ze_59
theorem ia_59 (id off len k : Nat) (c : Cap) (kd : IntKind) : indexAddrT Go.Proofs.Try.prog 59 (.sl id off len c) (.int kd (Int.ofNat k)) = cond (Nat.blt k len) (some (.ptr id (off + k * 4))) none := by kernel_rfl
attribute [go_sem] ia_59
theorem len_59 (h : H) (id off len : Nat) (c : Cap) (ts : List TypeId) (az : List CV) : builtinT Go.Proofs.Try.prog h .len (59 :: ts) (.sl id off len c :: az) = some (.val (.int .i64 (Int.ofNat len))) := by kernel_rfl
attribute [go_sem] len_59
theorem len_59_n (h : H) (ts : List TypeId) (az : List CV) : builtinT Go.Proofs.Try.prog h .len (59 :: ts) (.nils :: az) = some (.val (.int .i64 0)) := by kernel_rfl
attribute [go_sem] len_59_n
theorem app_59 (h : H) (s : CV) (id off len : Nat) (c : Cap) (ts : List TypeId) (az : List CV) : builtinT Go.Proofs.Try.prog h .append (59 :: 59 :: ts) (s :: .sl id off len c :: az) = uv (appendT Go.Proofs.Try.prog h 59 s (.sl id off len c)) := by kernel_rfl
attribute [go_sem] app_59
theorem app_59_n (h : H) (s : CV) (ts : List TypeId) (az : List CV) : builtinT Go.Proofs.Try.prog h .append (59 :: 59 :: ts) (s :: .nils :: az) = uv (appendT Go.Proofs.Try.prog h 59 s .nils) := by kernel_rfl
attribute [go_sem] app_59_n
theorem ap_59 (h : H) (s : CV) (id off len : Nat) (c : Cap) : appendT Go.Proofs.Try.prog h 59 s (.sl id off len c) = appS h 4 24 4 s len (firstC h 4 len (.sl id off len c)) := by kernel_rfl
attribute [go_sem] ap_59
theorem ap_59_n (h : H) (s : CV) : appendT Go.Proofs.Try.prog h 59 s .nils = appS h 4 24 4 s 0 (some []) := by kernel_rfl
attribute [go_sem] ap_59_n
theorem ap_59_z (h : H) (s : CV) (a b c d : Nat) : appendT Go.Proofs.Try.prog h 59 s (.sl0 a b c d) = appS h 4 24 4 s 0 (some []) := by kernel_rfl
attribute [go_sem] ap_59_z
theorem bs_59 (h : H) (n : Nat) (parts : List (Nat × CV)) : buildSliceT Go.Proofs.Try.prog h 59 n parts = bslS h 4 (CV.cells (.agg [.int .u64 0, .int .i64 0, .bool false, .bool false])) n parts := by kernel_rfl
attribute [go_sem] bs_59
theorem ms_59 (h : H) (l c : Nat) (k k' : IntKind) : makeSliceT Go.Proofs.Try.prog h 59 (.int k (Int.ofNat l)) (.int k' (Int.ofNat c)) = mkS h 4 24 (zeroT Go.Proofs.Try.prog 112) l c := by kernel_rfl
attribute [go_sem] ms_59
theorem eq_59 (xo yo : Operand) (a b c : Nat) (d : Cap) : binT Go.Proofs.Try.prog .eql 59 xo yo (.sl a b c d) .nils = some (.bool false) := by kernel_rfl
attribute [go_sem] eq_59
theorem eq_59_n (xo yo : Operand) : binT Go.Proofs.Try.prog .eql 59 xo yo .nils .nils = some (.bool true) := by kernel_rfl
attribute [go_sem] eq_59_n
theorem eq_59_z (xo yo : Operand) (a b c d : Nat) : binT Go.Proofs.Try.prog .eql 59 xo yo (.sl0 a b c d) .nils = some (.bool false) := by kernel_rfl
attribute [go_sem] eq_59_z
theorem ne_59 (xo yo : Operand) (a b c : Nat) (d : Cap) : binT Go.Proofs.Try.prog .neq 59 xo yo (.sl a b c d) .nils = some (.bool true) := by kernel_rfl
attribute [go_sem] ne_59
theorem ne_59_n (xo yo : Operand) : binT Go.Proofs.Try.prog .neq 59 xo yo .nils .nils = some (.bool false) := by kernel_rfl
attribute [go_sem] ne_59_n
theorem ne_59_z (xo yo : Operand) (a b c d : Nat) : binT Go.Proofs.Try.prog .neq 59 xo yo (.sl0 a b c d) .nils = some (.bool true) := by kernel_rfl
attribute [go_sem] ne_59_z
theorem len_59_z (h : H) (a b c d : Nat) (ts : List TypeId) (az : List CV) : builtinT Go.Proofs.Try.prog h .len (59 :: ts) (.sl0 a b c d :: az) = some (.val (.int .i64 0)) := by kernel_rfl
attribute [go_sem] len_59_z
theorem app_59_z (h : H) (s : CV) (a b c d : Nat) (ts : List TypeId) (az : List CV) : builtinT Go.Proofs.Try.prog h .append (59 :: 59 :: ts) (s :: .sl0 a b c d :: az) = uv (appendT Go.Proofs.Try.prog h 59 s (.sl0 a b c d)) := by kernel_rfl
attribute [go_sem] app_59_z
theorem sz_60 : szOf Go.Proofs.Try.prog 60 = some 1 := by kernel_rfl
attribute [go_sem] sz_60
theorem ld_60 (h : H) (id off : Nat) : loadT Go.Proofs.Try.prog h 60 id off = @thn _ _ (h.blk id) ⟨fun b => b.get off⟩ := by kernel_rfl
attribute [go_sem] ld_60
theorem st_60 (h : H) (id off : Nat) (v : CV) : storeT Go.Proofs.Try.prog h 60 id off v = @thn _ _ (h.blk id) ⟨fun b => cond (Nat.beq v.cells.length 1 && !b.ro) ((b.storeA off v.cells).map fun b' => h.put id (.cells b')) none⟩ := by kernel_rfl
attribute [go_sem] st_60
theorem part_60 (cs : List CV) (off : Nat) : partT Go.Proofs.Try.prog 60 cs off = nth cs off := by kernel_rfl
attribute [go_sem] part_60
theorem sz_61 : szOf Go.Proofs.Try.prog 61 = some 1 := by kernel_rfl
attribute [go_sem] sz_61
theorem ld_61 (h : H) (id off : Nat) : loadT Go.Proofs.Try.prog h 61 id off = @thn _ _ (h.blk id) ⟨fun b => b.get off⟩ := by kernel_rfl
attribute [go_sem] ld_61
theorem st_61 (h : H) (id off : Nat) (v : CV) : storeT Go.Proofs.Try.prog h 61 id off v = @thn _ _ (h.blk id) ⟨fun b => cond (Nat.beq v.cells.length 1 && !b.ro) ((b.storeA off v.cells).map fun b' => h.put id (.cells b')) none⟩ := by kernel_rfl
attribute [go_sem] st_61
theorem part_61 (cs : List CV) (off : Nat) : partT Go.Proofs.Try.prog 61 cs off = nth cs off := by kernel_rfl
attribute [go_sem] part_61
theorem ze_61 : zeroT Go.Proofs.Try.prog 61 = some (.nilf) := by kernel_rfl
attribute [go_sem] ze_61
theorem eq_61 (xo yo : Operand) (f : Fn) (a b : List CV) : binT Go.Proofs.Try.prog .eql 61 xo yo (.fn f a b) .nilf = some (.bool false) := by kernel_rfl
attribute [go_sem] eq_61
theorem eq_61_n (xo yo : Operand) : binT Go.Proofs.Try.prog .eql 61 xo yo .nilf .nilf = some (.bool true) := by kernel_rfl
attribute [go_sem] eq_61_n
theorem ne_61 (xo yo : Operand) (f : Fn) (a b : List CV) : binT Go.Proofs.Try.prog .neq 61 xo yo (.fn f a b) .nilf = some (.bool true) := by kernel_rfl
attribute [go_sem] ne_61
theorem ne_61_n (xo yo : Operand) : binT Go.Proofs.Try.prog .neq 61 xo yo .nilf .nilf = some (.bool false) := by kernel_rfl
attribute [go_sem] ne_61_n
theorem sz_62 : szOf Go.Proofs.Try.prog 62 = some 4 := by kernel_rfl
attribute [go_sem] sz_62
theorem ld_62 (h : H) (id off : Nat) : loadT Go.Proofs.Try.prog h 62 id off = @thn _ _ (h.blk id) ⟨fun b => (b.loadN off 4).map .agg⟩ := by kernel_rfl
attribute [go_sem] ld_62
theorem st_62 (h : H) (id off : Nat) (v : CV) : storeT Go.Proofs.Try.prog h 62 id off v = @thn _ _ (h.blk id) ⟨fun b => cond (Nat.beq v.cells.length 4 && !b.ro) ((b.storeA off v.cells).map fun b' => h.put id (.cells b')) none⟩ := by kernel_rfl
attribute [go_sem] st_62
theorem part_62 (cs : List CV) (off : Nat) : partT Go.Proofs.Try.prog 62 cs off = some (.agg ((cs.drop off).take 4)) := by kernel_rfl
attribute [go_sem] part_62
theorem ze_62 : zeroT Go.Proofs.Try.prog 62 = some (.agg [.int .i64 0, .int .u64 0, .int .i64 0, .bool false]) := by kernel_rfl
attribute [go_sem] ze_62
theorem bt_62 (parts : List (Nat × CV)) : buildT Go.Proofs.Try.prog 62 parts = finB (CV.cells (.agg [.int .i64 0, .int .u64 0, .int .i64 0, .bool false])) (nth [(0, 1), (1, 1), (2, 1), (3, 1)]) parts := by kernel_rfl
attribute [go_sem] bt_62
theorem fa_62_0 (id off : Nat) : fieldAddrT Go.Proofs.Try.prog 62 (.ptr id off) 0 = some (.ptr id (off)) := by kernel_rfl
attribute [go_sem] fa_62_0
theorem fd_62_0 (cs : List CV) : fieldT Go.Proofs.Try.prog 62 (.agg cs) 0 = partT Go.Proofs.Try.prog 3 cs 0 := by kernel_rfl
attribute [go_sem] fd_62_0
theorem fa_62_1 (id off : Nat) : fieldAddrT Go.Proofs.Try.prog 62 (.ptr id off) 1 = some (.ptr id (off + 1)) := by kernel_rfl
attribute [go_sem] fa_62_1
theorem fd_62_1 (cs : List CV) : fieldT Go.Proofs.Try.prog 62 (.agg cs) 1 = partT Go.Proofs.Try.prog 22 cs 1 := by kernel_rfl
attribute [go_sem] fd_62_1
theorem fa_62_2 (id off : Nat) : fieldAddrT Go.Proofs.Try.prog 62 (.ptr id off) 2 = some (.ptr id (off + 2)) := by kernel_rfl
attribute [go_sem] fa_62_2
theorem fd_62_2 (cs : List CV) : fieldT Go.Proofs.Try.prog 62 (.agg cs) 2 = partT Go.Proofs.Try.prog 3 cs 2 := by kernel_rfl
attribute [go_sem] fd_62_2
theorem fa_62_3 (id off : Nat) : fieldAddrT Go.Proofs.Try.prog 62 (.ptr id off) 3 = some (.ptr id (off + 3)) := by kernel_rfl
attribute [go_sem] fa_62_3
theorem fd_62_3 (cs : List CV) : fieldT Go.Proofs.Try.prog 62 (.agg cs) 3 = partT Go.Proofs.Try.prog 4 cs 3 := by kernel_rfl
attribute [go_sem] fd_62_3
theorem sz_63 : szOf Go.Proofs.Try.prog 63 = some 4 := by kernel_rfl
attribute [go_sem] sz_63
theorem ld_63 (h : H) (id off : Nat) : loadT Go.Proofs.Try.prog h 63 id off = @thn _ _ (h.blk id) ⟨fun b => (b.loadN off 4).map .agg⟩ := by kernel_rfl
attribute [go_sem] ld_63
theorem st_63 (h : H) (id off : Nat) (v : CV) : storeT Go.Proofs.Try.prog h 63 id off v = @thn _ _ (h.blk id) ⟨fun b => cond (Nat.beq v.cells.length 4 && !b.ro) ((b.storeA off v.cells).map fun b' => h.put id (.cells b')) none⟩ := by kernel_rfl
attribute [go_sem] st_63
theorem part_63 (cs : List CV) (off : Nat) : partT Go.Proofs.Try.prog 63 cs off = some (.agg ((cs.drop off).take 4)) := by kernel_rfl
attribute [go_sem] part_63
theorem ze_63 : zeroT Go.Proofs.Try.prog 63 = some (.agg [.int .i64 0, .int .u64 0, .int .i64 0, .bool false]) := by kernel_rfl
attribute [go_sem] ze_63
theorem bt_63 (parts : List (Nat × CV)) : buildT Go.Proofs.Try.prog 63 parts = finB (CV.cells (.agg [.int .i64 0, .int .u64 0, .int .i64 0, .bool false])) (nth [(0, 1), (1, 1), (2, 1), (3, 1)]) parts := by kernel_rfl
attribute [go_sem] bt_63
theorem fa_63_0 (id off : Nat) : fieldAddrT Go.Proofs.Try.prog 63 (.ptr id off) 0 = some (.ptr id (off)) := by kernel_rfl
attribute [go_sem] fa_63_0
theorem fd_63_0 (cs : List CV) : fieldT Go.Proofs.Try.prog 63 (.agg cs) 0 = partT Go.Proofs.Try.prog 3 cs 0 := by kernel_rfl
attribute [go_sem] fd_63_0
theorem fa_63_1 (id off : Nat) : fieldAddrT Go.Proofs.Try.prog 63 (.ptr id off) 1 = some (.ptr id (off + 1)) := by kernel_rfl
attribute [go_sem] fa_63_1
theorem fd_63_1 (cs : List CV) : fieldT Go.Proofs.Try.prog 63 (.agg cs) 1 = partT Go.Proofs.Try.prog 22 cs 1 := by kernel_rfl
attribute [go_sem] fd_63_1
theorem fa_63_2 (id off : Nat) : fieldAddrT Go.Proofs.Try.prog 63 (.ptr id off) 2 = some (.ptr id (off + 2)) := by kernel_rfl
attribute [go_sem] fa_63_2
theorem fd_63_2 (cs : List CV) : fieldT Go.Proofs.Try.prog 63 (.agg cs) 2 = partT Go.Proofs.Try.prog 3 cs 2 := by kernel_rfl
attribute [go_sem] fd_63_2
theorem fa_63_3 (id off : Nat) : fieldAddrT Go.Proofs.Try.prog 63 (.ptr id off) 3 = some (.ptr id (off + 3)) := by kernel_rfl
attribute [go_sem] fa_63_3
theorem fd_63_3 (cs : List CV) : fieldT Go.Proofs.Try.prog 63 (.agg cs) 3 = partT Go.Proofs.Try.prog 4 cs 3 := by kernel_rfl
attribute [go_sem] fd_63_3
theorem sz_64 : szOf Go.Proofs.Try.prog 64 = some 1 := by kernel_rfl
attribute [go_sem] sz_64
theorem ld_64 (h : H) (id off : Nat) : loadT Go.Proofs.Try.prog h 64 id off = @thn _ _ (h.blk id) ⟨fun b => b.get off⟩ := by kernel_rfl
attribute [go_sem] ld_64
theorem st_64 (h : H) (id off : Nat) (v : CV) : storeT Go.Proofs.Try.prog h 64 id off v = @thn _ _ (h.blk id) ⟨fun b => cond (Nat.beq v.cells.length 1 && !b.ro) ((b.storeA off v.cells).map fun b' => h.put id (.cells b')) none⟩ := by kernel_rfl
attribute [go_sem] st_64
theorem part_64 (cs : List CV) (off : Nat) : partT Go.Proofs.Try.prog 64 cs off = nth cs off := by kernel_rfl
attribute [go_sem] part_64
theorem ze_64 : zeroT Go.Proofs.Try.prog 64 = some (.nilf) := by kernel_rfl
attribute [go_sem] ze_64
theorem eq_64 (xo yo : Operand) (f : Fn) (a b : List CV) : binT Go.Proofs.Try.prog .eql 64 xo yo (.fn f a b) .nilf = some (.bool false) := by kernel_rfl
attribute [go_sem] eq_64
theorem eq_64_n (xo yo : Operand) : binT Go.Proofs.Try.prog .eql 64 xo yo .nilf .nilf = some (.bool true) := by kernel_rfl
attribute [go_sem] eq_64_n
theorem ne_64 (xo yo : Operand) (f : Fn) (a b : List CV) : binT Go.Proofs.Try.prog .neq 64 xo yo (.fn f a b) .nilf = some (.bool true) := by kernel_rfl
attribute [go_sem] ne_64
theorem ne_64_n (xo yo : Operand) : binT Go.Proofs.Try.prog .neq 64 xo yo .nilf .nilf = some (.bool false) := by kernel_rfl
attribute [go_sem] ne_64_n
theorem sz_65 : szOf Go.Proofs.Try.prog 65 = some 1 := by kernel_rfl
attribute [go_sem] sz_65
theorem ld_65 (h : H) (id off : Nat) : loadT Go.Proofs.Try.prog h 65 id off = @thn _ _ (h.blk id) ⟨fun b => b.get off⟩ := by kernel_rfl
attribute [go_sem] ld_65
theorem st_65 (h : H) (id off : Nat) (v : CV) : storeT Go.Proofs.Try.prog h 65 id off v = @thn _ _ (h.blk id) ⟨fun b => cond (Nat.beq v.cells.length 1 && !b.ro) ((b.storeA off v.cells).map fun b' => h.put id (.cells b')) none⟩ := by kernel_rfl
attribute [go_sem] st_65
theorem part_65 (cs : List CV) (off : Nat) : partT Go.Proofs.Try.prog 65 cs off = nth cs off := by kernel_rfl
attribute [go_sem] part_65
theorem ze_65 : zeroT Go.Proofs.Try.prog 65 = some (.nilf) := by kernel_rfl
attribute [go_sem] ze_65
theorem eq_65 (xo yo : Operand) (f : Fn) (a b : List CV) : binT Go.Proofs.Try.prog .eql 65 xo yo (.fn f a b) .nilf = some (.bool false) := by kernel_rfl
attribute [go_sem] eq_65
theorem eq_65_n (xo yo : Operand) : binT Go.Proofs.Try.prog .eql 65 xo yo .nilf .nilf = some (.bool true) := by kernel_rfl
attribute [go_sem] eq_65_n
theorem ne_65 (xo yo : Operand) (f : Fn) (a b : List CV) : binT Go.Proofs.Try.prog .neq 65 xo yo (.fn f a b) .nilf = some (.bool true) := by kernel_rfl
attribute [go_sem] ne_65
theorem ne_65_n (xo yo : Operand) : binT Go.Proofs.Try.prog .neq 65 xo yo .nilf .nilf = some (.bool false) := by kernel_rfl
attribute [go_sem] ne_65_n
theorem sz_66 : szOf Go.Proofs.Try.prog 66 = some 1 := by kernel_rfl
attribute [go_sem] sz_66
theorem ld_66 (h : H) (id off : Nat) : loadT Go.Proofs.Try.prog h 66 id off = @thn _ _ (h.blk id) ⟨fun b => b.get off⟩ := by kernel_rfl
attribute [go_sem] ld_66
theorem st_66 (h : H) (id off : Nat) (v : CV) : storeT Go.Proofs.Try.prog h 66 id off v = @thn _ _ (h.blk id) ⟨fun b => cond (Nat.beq v.cells.length 1 && !b.ro) ((b.storeA off v.cells).map fun b' => h.put id (.cells b')) none⟩ := by kernel_rfl
attribute [go_sem] st_66
theorem part_66 (cs : List CV) (off : Nat) : partT Go.Proofs.Try.prog 66 cs off = nth cs off := by kernel_rfl
attribute [go_sem] part_66
theorem ze_66 : zeroT Go.Proofs.Try.prog 66 = some (.nils) := by kernel_rfl
attribute [go_sem] ze_66
theorem ia_66 (id off len k : Nat) (c : Cap) (kd : IntKind) : indexAddrT Go.Proofs.Try.prog 66 (.sl id off len c) (.int kd (Int.ofNat k)) = cond (Nat.blt k len) (some (.ptr id (off + k * 4))) none := by kernel_rfl
attribute [go_sem] ia_66
theorem len_66 (h : H) (id off len : Nat) (c : Cap) (ts : List TypeId) (az : List CV) : builtinT Go.Proofs.Try.prog h .len (66 :: ts) (.sl id off len c :: az) = some (.val (.int .i64 (Int.ofNat len))) := by kernel_rfl
attribute [go_sem] len_66
theorem len_66_n (h : H) (ts : List TypeId) (az : List CV) : builtinT Go.Proofs.Try.prog h .len (66 :: ts) (.nils :: az) = some (.val (.int .i64 0)) := by kernel_rfl
attribute [go_sem] len_66_n
theorem app_66 (h : H) (s : CV) (id off len : Nat) (c : Cap) (ts : List TypeId) (az : List CV) : builtinT Go.Proofs.Try.prog h .append (66 :: 66 :: ts) (s :: .sl id off len c :: az) = uv (appendT Go.Proofs.Try.prog h 66 s (.sl id off len c)) := by kernel_rfl
attribute [go_sem] app_66
theorem app_66_n (h : H) (s : CV) (ts : List TypeId) (az : List CV) : builtinT Go.Proofs.Try.prog h .append (66 :: 66 :: ts) (s :: .nils :: az) = uv (appendT Go.Proofs.Try.prog h 66 s .nils) := by kernel_rfl
attribute [go_sem] app_66_n
theorem ap_66 (h : H) (s : CV) (id off len : Nat) (c : Cap) : appendT Go.Proofs.Try.prog h 66 s (.sl id off len c) = appS h 4 24 4 s len (firstC h 4 len (.sl id off len c)) := by kernel_rfl
attribute [go_sem] ap_66
theorem ap_66_n (h : H) (s : CV) : appendT Go.Proofs.Try.prog h 66 s .nils = appS h 4 24 4 s 0 (some []) := by kernel_rfl
attribute [go_sem] ap_66_n
theorem ap_66_z (h : H) (s : CV) (a b c d : Nat) : appendT Go.Proofs.Try.prog h 66 s (.sl0 a b c d) = appS h 4 24 4 s 0 (some []) := by kernel_rfl
attribute [go_sem] ap_66_z
theorem bs_66 (h : H) (n : Nat) (parts : List (Nat × CV)) : buildSliceT Go.Proofs.Try.prog h 66 n parts = bslS h 4 (CV.cells (.agg [.int .u64 0, .int .i64 0, .bool false, .bool false])) n parts := by kernel_rfl
attribute [go_sem] bs_66
theorem ms_66 (h : H) (l c : Nat) (k k' : IntKind) : makeSliceT Go.Proofs.Try.prog h 66 (.int k (Int.ofNat l)) (.int k' (Int.ofNat c)) = mkS h 4 24 (zeroT Go.Proofs.Try.prog 115) l c := by kernel_rfl
attribute [go_sem] ms_66
theorem eq_66 (xo yo : Operand) (a b c : Nat) (d : Cap) : binT Go.Proofs.Try.prog .eql 66 xo yo (.sl a b c d) .nils = some (.bool false) := by kernel_rfl
attribute [go_sem] eq_66
theorem eq_66_n (xo yo : Operand) : binT Go.Proofs.Try.prog .eql 66 xo yo .nils .nils = some (.bool true) := by kernel_rfl
attribute [go_sem] eq_66_n
theorem eq_66_z (xo yo : Operand) (a b c d : Nat) : binT Go.Proofs.Try.prog .eql 66 xo yo (.sl0 a b c d) .nils = some (.bool false) := by kernel_rfl
attribute [go_sem] eq_66_z
theorem ne_66 (xo yo : Operand) (a b c : Nat) (d : Cap) : binT Go.Proofs.Try.prog .neq 66 xo yo (.sl a b c d) .nils = some (.bool true) := by kernel_rfl
attribute [go_sem] ne_66
theorem ne_66_n (xo yo : Operand) : binT Go.Proofs.Try.prog .neq 66 xo yo .nils .nils = some (.bool false) := by kernel_rfl
attribute [go_sem] ne_66_n
theorem ne_66_z (xo yo : Operand) (a b c d : Nat) : binT Go.Proofs.Try.prog .neq 66 xo yo (.sl0 a b c d) .nils = some (.bool true) := by kernel_rfl
attribute [go_sem] ne_66_z
theorem len_66_z (h : H) (a b c d : Nat) (ts : List TypeId) (az : List CV) : builtinT Go.Proofs.Try.prog h .len (66 :: ts) (.sl0 a b c d :: az) = some (.val (.int .i64 0)) := by kernel_rfl
attribute [go_sem] len_66_z
theorem app_66_z (h : H) (s : CV) (a b c d : Nat) (ts : List TypeId) (az : List CV) : builtinT Go.Proofs.Try.prog h .append (66 :: 66 :: ts) (s :: .sl0 a b c d :: az) = uv (appendT Go.Proofs.Try.prog h 66 s (.sl0 a b c d)) := by kernel_rfl
attribute [go_sem] app_66_z
theorem sz_67 : szOf Go.Proofs.Try.prog 67 = some 2 := by kernel_rfl
attribute [go_sem] sz_67
theorem ld_67 (h : H) (id off : Nat) : loadT Go.Proofs.Try.prog h 67 id off = @thn _ _ (h.blk id) ⟨fun b => (b.loadN off 2).map .agg⟩ := by kernel_rfl
attribute [go_sem] ld_67
theorem st_67 (h : H) (id off : Nat) (v : CV) : storeT Go.Proofs.Try.prog h 67 id off v = @thn _ _ (h.blk id) ⟨fun b => cond (Nat.beq v.cells.length 2 && !b.ro) ((b.storeA off v.cells).map fun b' => h.put id (.cells b')) none⟩ := by kernel_rfl
attribute [go_sem] st_67
theorem part_67 (cs : List CV) (off : Nat) : partT Go.Proofs.Try.prog 67 cs off = some (.agg ((cs.drop off).take 2)) := by kernel_rfl
attribute [go_sem] part_67
theorem ze_67 : zeroT Go.Proofs.Try.prog 67 = some (.agg [.bool false, .nils]) := by kernel_rfl
attribute [go_sem] ze_67
theorem bt_67 (parts : List (Nat × CV)) : buildT Go.Proofs.Try.prog 67 parts = finB (CV.cells (.agg [.bool false, .nils])) (nth [(0, 1), (1, 1)]) parts := by kernel_rfl
attribute [go_sem] bt_67
theorem fa_67_0 (id off : Nat) : fieldAddrT Go.Proofs.Try.prog 67 (.ptr id off) 0 = some (.ptr id (off)) := by kernel_rfl
attribute [go_sem] fa_67_0
theorem fd_67_0 (cs : List CV) : fieldT Go.Proofs.Try.prog 67 (.agg cs) 0 = partT Go.Proofs.Try.prog 4 cs 0 := by kernel_rfl
attribute [go_sem] fd_67_0
theorem fa_67_1 (id off : Nat) : fieldAddrT Go.Proofs.Try.prog 67 (.ptr id off) 1 = some (.ptr id (off + 1)) := by kernel_rfl
attribute [go_sem] fa_67_1
theorem fd_67_1 (cs : List CV) : fieldT Go.Proofs.Try.prog 67 (.agg cs) 1 = partT Go.Proofs.Try.prog 66 cs 1 := by kernel_rfl
attribute [go_sem] fd_67_1
theorem sz_68 : szOf Go.Proofs.Try.prog 68 = some 2 := by kernel_rfl
attribute [go_sem] sz_68
theorem ld_68 (h : H) (id off : Nat) : loadT Go.Proofs.Try.prog h 68 id off = @thn _ _ (h.blk id) ⟨fun b => (b.loadN off 2).map .agg⟩ := by kernel_rfl
attribute [go_sem] ld_68
theorem st_68 (h : H) (id off : Nat) (v : CV) : storeT Go.Proofs.Try.prog h 68 id off v = @thn _ _ (h.blk id) ⟨fun b => cond (Nat.beq v.cells.length 2 && !b.ro) ((b.storeA off v.cells).map fun b' => h.put id (.cells b')) none⟩ := by kernel_rfl
attribute [go_sem] st_68
theorem part_68 (cs : List CV) (off : Nat) : partT Go.Proofs.Try.prog 68 cs off = some (.agg ((cs.drop off).take 2)) := by kernel_rfl
attribute [go_sem] part_68
theorem ze_68 : zeroT Go.Proofs.Try.prog 68 = some (.agg [.bool false, .nils]) := by kernel_rfl
attribute [go_sem] ze_68
theorem bt_68 (parts : List (Nat × CV)) : buildT Go.Proofs.Try.prog 68 parts = finB (CV.cells (.agg [.bool false, .nils])) (nth [(0, 1), (1, 1)]) parts := by kernel_rfl
attribute [go_sem] bt_68
theorem fa_68_0 (id off : Nat) : fieldAddrT Go.Proofs.Try.prog 68 (.ptr id off) 0 = some (.ptr id (off)) := by kernel_rfl
attribute [go_sem] fa_68_0
theorem fd_68_0 (cs : List CV) : fieldT Go.Proofs.Try.prog 68 (.agg cs) 0 = partT Go.Proofs.Try.prog 4 cs 0 := by kernel_rfl
attribute [go_sem] fd_68_0
theorem fa_68_1 (id off : Nat) : fieldAddrT Go.Proofs.Try.prog 68 (.ptr id off) 1 = some (.ptr id (off + 1)) := by kernel_rfl
attribute [go_sem] fa_68_1
theorem fd_68_1 (cs : List CV) : fieldT Go.Proofs.Try.prog 68 (.agg cs) 1 = partT Go.Proofs.Try.prog 66 cs 1 := by kernel_rfl
attribute [go_sem] fd_68_1
theorem sz_69 : szOf Go.Proofs.Try.prog 69 = some 1 := by kernel_rfl
attribute [go_sem] sz_69
theorem ld_69 (h : H) (id off : Nat) : loadT Go.Proofs.Try.prog h 69 id off = @thn _ _ (h.blk id) ⟨fun b => b.get off⟩ := by kernel_rfl
attribute [go_sem] ld_69
theorem st_69 (h : H) (id off : Nat) (v : CV) : storeT Go.Proofs.Try.prog h 69 id off v = @thn _ _ (h.blk id) ⟨fun b => cond (Nat.beq v.cells.length 1 && !b.ro) ((b.storeA off v.cells).map fun b' => h.put id (.cells b')) none⟩ := by kernel_rfl
attribute [go_sem] st_69
theorem part_69 (cs : List CV) (off : Nat) : partT Go.Proofs.Try.prog 69 cs off = nth cs off := by kernel_rfl
attribute [go_sem] part_69
theorem ze_69 : zeroT Go.Proofs.Try.prog 69 = some (.nils) := by kernel_rfl
attribute [go_sem] ze_69
theorem ia_69 (id off len k : Nat) (c : Cap) (kd : IntKind) : indexAddrT Go.Proofs.Try.prog 69 (.sl id off len c) (.int kd (Int.ofNat k)) = cond (Nat.blt k len) (some (.ptr id (off + k * 1))) none := by kernel_rfl
attribute [go_sem] ia_69
theorem len_69 (h : H) (id off len : Nat) (c : Cap) (ts : List TypeId) (az : List CV) : builtinT Go.Proofs.Try.prog h .len (69 :: ts) (.sl id off len c :: az) = some (.val (.int .i64 (Int.ofNat len))) := by kernel_rfl
attribute [go_sem] len_69
theorem len_69_n (h : H) (ts : List TypeId) (az : List CV) : builtinT Go.Proofs.Try.prog h .len (69 :: ts) (.nils :: az) = some (.val (.int .i64 0)) := by kernel_rfl
attribute [go_sem] len_69_n
theorem app_69 (h : H) (s : CV) (id off len : Nat) (c : Cap) (ts : List TypeId) (az : List CV) : builtinT Go.Proofs.Try.prog h .append (69 :: 69 :: ts) (s :: .sl id off len c :: az) = uv (appendT Go.Proofs.Try.prog h 69 s (.sl id off len c)) := by kernel_rfl
attribute [go_sem] app_69
theorem app_69_n (h : H) (s : CV) (ts : List TypeId) (az : List CV) : builtinT Go.Proofs.Try.prog h .append (69 :: 69 :: ts) (s :: .nils :: az) = uv (appendT Go.Proofs.Try.prog h 69 s .nils) := by kernel_rfl
attribute [go_sem] app_69_n
theorem ap_69 (h : H) (s : CV) (id off len : Nat) (c : Cap) : appendT Go.Proofs.Try.prog h 69 s (.sl id off len c) = appS h 1 8 1 s len (firstC h 1 len (.sl id off len c)) := by kernel_rfl
attribute [go_sem] ap_69
theorem ap_69_n (h : H) (s : CV) : appendT Go.Proofs.Try.prog h 69 s .nils = appS h 1 8 1 s 0 (some []) := by kernel_rfl
attribute [go_sem] ap_69_n
theorem ap_69_z (h : H) (s : CV) (a b c d : Nat) : appendT Go.Proofs.Try.prog h 69 s (.sl0 a b c d) = appS h 1 8 1 s 0 (some []) := by kernel_rfl
attribute [go_sem] ap_69_z
theorem bs_69 (h : H) (n : Nat) (parts : List (Nat × CV)) : buildSliceT Go.Proofs.Try.prog h 69 n parts = bslS h 1 (CV.cells (.nilp)) n parts := by kernel_rfl
attribute [go_sem] bs_69
theorem ms_69 (h : H) (l c : Nat) (k k' : IntKind) : makeSliceT Go.Proofs.Try.prog h 69 (.int k (Int.ofNat l)) (.int k' (Int.ofNat c)) = mkS h 1 8 (zeroT Go.Proofs.Try.prog 56) l c := by kernel_rfl
attribute [go_sem] ms_69
theorem eq_69 (xo yo : Operand) (a b c : Nat) (d : Cap) : binT Go.Proofs.Try.prog .eql 69 xo yo (.sl a b c d) .nils = some (.bool false) := by kernel_rfl
attribute [go_sem] eq_69
theorem eq_69_n (xo yo : Operand) : binT Go.Proofs.Try.prog .eql 69 xo yo .nils .nils = some (.bool true) := by kernel_rfl
attribute [go_sem] eq_69_n
theorem eq_69_z (xo yo : Operand) (a b c d : Nat) : binT Go.Proofs.Try.prog .eql 69 xo yo (.sl0 a b c d) .nils = some (.bool false) := by kernel_rfl
attribute [go_sem] eq_69_z
theorem ne_69 (xo yo : Operand) (a b c : Nat) (d : Cap) : binT Go.Proofs.Try.prog .neq 69 xo yo (.sl a b c d) .nils = some (.bool true) := by kernel_rfl
attribute [go_sem] ne_69
theorem ne_69_n (xo yo : Operand) : binT Go.Proofs.Try.prog .neq 69 xo yo .nils .nils = some (.bool false) := by kernel_rfl
attribute [go_sem] ne_69_n
theorem ne_69_z (xo yo : Operand) (a b c d : Nat) : binT Go.Proofs.Try.prog .neq 69 xo yo (.sl0 a b c d) .nils = some (.bool true) := by kernel_rfl
attribute [go_sem] ne_69_z
theorem len_69_z (h : H) (a b c d : Nat) (ts : List TypeId) (az : List CV) : builtinT Go.Proofs.Try.prog h .len (69 :: ts) (.sl0 a b c d :: az) = some (.val (.int .i64 0)) := by kernel_rfl
attribute [go_sem] len_69_z
theorem app_69_z (h : H) (s : CV) (a b c d : Nat) (ts : List TypeId) (az : List CV) : builtinT Go.Proofs.Try.prog h .append (69 :: 69 :: ts) (s :: .sl0 a b c d :: az) = uv (appendT Go.Proofs.Try.prog h 69 s (.sl0 a b c d)) := by kernel_rfl
attribute [go_sem] app_69_z
theorem sz_70 : szOf Go.Proofs.Try.prog 70 = some 1 := by kernel_rfl
attribute [go_sem] sz_70
theorem ld_70 (h : H) (id off : Nat) : loadT Go.Proofs.Try.prog h 70 id off = @thn _ _ (h.blk id) ⟨fun b => b.get off⟩ := by kernel_rfl
attribute [go_sem] ld_70
theorem st_70 (h : H) (id off : Nat) (v : CV) : storeT Go.Proofs.Try.prog h 70 id off v = @thn _ _ (h.blk id) ⟨fun b => cond (Nat.beq v.cells.length 1 && !b.ro) ((b.storeA off v.cells).map fun b' => h.put id (.cells b')) none⟩ := by kernel_rfl
attribute [go_sem] st_70
theorem part_70 (cs : List CV) (off : Nat) : partT Go.Proofs.Try.prog 70 cs off = nth cs off := by kernel_rfl
attribute [go_sem] part_70
theorem sz_71 : szOf Go.Proofs.Try.prog 71 = some 1 := by kernel_rfl
attribute [go_sem] sz_71
theorem ld_71 (h : H) (id off : Nat) : loadT Go.Proofs.Try.prog h 71 id off = @thn _ _ (h.blk id) ⟨fun b => b.get off⟩ := by kernel_rfl
attribute [go_sem] ld_71
theorem st_71 (h : H) (id off : Nat) (v : CV) : storeT Go.Proofs.Try.prog h 71 id off v = @thn _ _ (h.blk id) ⟨fun b => cond (Nat.beq v.cells.length 1 && !b.ro) ((b.storeA off v.cells).map fun b' => h.put id (.cells b')) none⟩ := by kernel_rfl
attribute [go_sem] st_71
theorem part_71 (cs : List CV) (off : Nat) : partT Go.Proofs.Try.prog 71 cs off = nth cs off := by kernel_rfl
attribute [go_sem] part_71
theorem ze_71 : zeroT Go.Proofs.Try.prog 71 = some (.nilf) := by kernel_rfl
attribute [go_sem] ze_71
theorem eq_71 (xo yo : Operand) (f : Fn) (a b : List CV) : binT Go.Proofs.Try.prog .eql 71 xo yo (.fn f a b) .nilf = some (.bool false) := by kernel_rfl
attribute [go_sem] eq_71
theorem eq_71_n (xo yo : Operand) : binT Go.Proofs.Try.prog .eql 71 xo yo .nilf .nilf = some (.bool true) := by kernel_rfl
attribute [go_sem] eq_71_n
theorem ne_71 (xo yo : Operand) (f : Fn) (a b : List CV) : binT Go.Proofs.Try.prog .neq 71 xo yo (.fn f a b) .nilf = some (.bool true) := by kernel_rfl
attribute [go_sem] ne_71
theorem ne_71_n (xo yo : Operand) : binT Go.Proofs.Try.prog .neq 71 xo yo .nilf .nilf = some (.bool false) := by kernel_rfl
attribute [go_sem] ne_71_n
theorem sz_72 : szOf Go.Proofs.Try.prog 72 = some 1 := by kernel_rfl
attribute [go_sem] sz_72
theorem ld_72 (h : H) (id off : Nat) : loadT Go.Proofs.Try.prog h 72 id off = @thn _ _ (h.blk id) ⟨fun b => b.get off⟩ := by kernel_rfl
attribute [go_sem] ld_72
theorem st_72 (h : H) (id off : Nat) (v : CV) : storeT Go.Proofs.Try.prog h 72 id off v = @thn _ _ (h.blk id) ⟨fun b => cond (Nat.beq v.cells.length 1 && !b.ro) ((b.storeA off v.cells).map fun b' => h.put id (.cells b')) none⟩ := by kernel_rfl
attribute [go_sem] st_72
theorem part_72 (cs : List CV) (off : Nat) : partT Go.Proofs.Try.prog 72 cs off = nth cs off := by kernel_rfl
attribute [go_sem] part_72
theorem sz_73 : szOf Go.Proofs.Try.prog 73 = some 1 := by kernel_rfl
attribute [go_sem] sz_73
theorem ld_73 (h : H) (id off : Nat) : loadT Go.Proofs.Try.prog h 73 id off = @thn _ _ (h.blk id) ⟨fun b => b.get off⟩ := by kernel_rfl
attribute [go_sem] ld_73
theorem st_73 (h : H) (id off : Nat) (v : CV) : storeT Go.Proofs.Try.prog h 73 id off v = @thn _ _ (h.blk id) ⟨fun b => cond (Nat.beq v.cells.length 1 && !b.ro) ((b.storeA off v.cells).map fun b' => h.put id (.cells b')) none⟩ := by kernel_rfl
attribute [go_sem] st_73
theorem part_73 (cs : List CV) (off : Nat) : partT Go.Proofs.Try.prog 73 cs off = nth cs off := by kernel_rfl
attribute [go_sem] part_73
theorem ze_73 : zeroT Go.Proofs.Try.prog 73 = some (.nilf) := by kernel_rfl
attribute [go_sem] ze_73
theorem eq_73 (xo yo : Operand) (f : Fn) (a b : List CV) : binT Go.Proofs.Try.prog .eql 73 xo yo (.fn f a b) .nilf = some (.bool false) := by kernel_rfl
attribute [go_sem] eq_73
theorem eq_73_n (xo yo : Operand) : binT Go.Proofs.Try.prog .eql 73 xo yo .nilf .nilf = some (.bool true) := by kernel_rfl
attribute [go_sem] eq_73_n
theorem ne_73 (xo yo : Operand) (f : Fn) (a b : List CV) : binT Go.Proofs.Try.prog .neq 73 xo yo (.fn f a b) .nilf = some (.bool true) := by kernel_rfl
attribute [go_sem] ne_73
theorem ne_73_n (xo yo : Operand) : binT Go.Proofs.Try.prog .neq 73 xo yo .nilf .nilf = some (.bool false) := by kernel_rfl
attribute [go_sem] ne_73_n
theorem sz_74 : szOf Go.Proofs.Try.prog 74 = some 1 := by kernel_rfl
attribute [go_sem] sz_74
theorem ld_74 (h : H) (id off : Nat) : loadT Go.Proofs.Try.prog h 74 id off = @thn _ _ (h.blk id) ⟨fun b => b.get off⟩ := by kernel_rfl
attribute [go_sem] ld_74
theorem st_74 (h : H) (id off : Nat) (v : CV) : storeT Go.Proofs.Try.prog h 74 id off v = @thn _ _ (h.blk id) ⟨fun b => cond (Nat.beq v.cells.length 1 && !b.ro) ((b.storeA off v.cells).map fun b' => h.put id (.cells b')) none⟩ := by kernel_rfl
attribute [go_sem] st_74
theorem part_74 (cs : List CV) (off : Nat) : partT Go.Proofs.Try.prog 74 cs off = nth cs off := by kernel_rfl
attribute [go_sem] part_74
theorem ze_74 : zeroT Go.Proofs.Try.prog 74 = some (.nilf) := by kernel_rfl
attribute [go_sem] ze_74
theorem eq_74 (xo yo : Operand) (f : Fn) (a b : List CV) : binT Go.Proofs.Try.prog .eql 74 xo yo (.fn f a b) .nilf = some (.bool false) := by kernel_rfl
attribute [go_sem] eq_74
theorem eq_74_n (xo yo : Operand) : binT Go.Proofs.Try.prog .eql 74 xo yo .nilf .nilf = some (.bool true) := by kernel_rfl
attribute [go_sem] eq_74_n
theorem ne_74 (xo yo : Operand) (f : Fn) (a b : List CV) : binT Go.Proofs.Try.prog .neq 74 xo yo (.fn f a b) .nilf = some (.bool true) := by kernel_rfl
attribute [go_sem] ne_74
theorem ne_74_n (xo yo : Operand) : binT Go.Proofs.Try.prog .neq 74 xo yo .nilf .nilf = some (.bool false) := by kernel_rfl
attribute [go_sem] ne_74_n
theorem sz_75 : szOf Go.Proofs.Try.prog 75 = some 1 := by kernel_rfl
attribute [go_sem] sz_75
theorem ld_75 (h : H) (id off : Nat) : loadT Go.Proofs.Try.prog h 75 id off = @thn _ _ (h.blk id) ⟨fun b => b.get off⟩ := by kernel_rfl
attribute [go_sem] ld_75
theorem st_75 (h : H) (id off : Nat) (v : CV) : storeT Go.Proofs.Try.prog h 75 id off v = @thn _ _ (h.blk id) ⟨fun b => cond (Nat.beq v.cells.length 1 && !b.ro) ((b.storeA off v.cells).map fun b' => h.put id (.cells b')) none⟩ := by kernel_rfl
attribute [go_sem] st_75
theorem part_75 (cs : List CV) (off : Nat) : partT Go.Proofs.Try.prog 75 cs off = nth cs off := by kernel_rfl
attribute [go_sem] part_75
theorem ze_75 : zeroT Go.Proofs.Try.prog 75 = some (.nilf) := by kernel_rfl
attribute [go_sem] ze_75
theorem eq_75 (xo yo : Operand) (f : Fn) (a b : List CV) : binT Go.Proofs.Try.prog .eql 75 xo yo (.fn f a b) .nilf = some (.bool false) := by kernel_rfl
attribute [go_sem] eq_75
theorem eq_75_n (xo yo : Operand) : binT Go.Proofs.Try.prog .eql 75 xo yo .nilf .nilf = some (.bool true) := by kernel_rfl
attribute [go_sem] eq_75_n
theorem ne_75 (xo yo : Operand) (f : Fn) (a b : List CV) : binT Go.Proofs.Try.prog .neq 75 xo yo (.fn f a b) .nilf = some (.bool true) := by kernel_rfl
attribute [go_sem] ne_75
theorem ne_75_n (xo yo : Operand) : binT Go.Proofs.Try.prog .neq 75 xo yo .nilf .nilf = some (.bool false) := by kernel_rfl
attribute [go_sem] ne_75_n
theorem sz_76 : szOf Go.Proofs.Try.prog 76 = some 1 := by kernel_rfl
attribute [go_sem] sz_76
theorem ld_76 (h : H) (id off : Nat) : loadT Go.Proofs.Try.prog h 76 id off = @thn _ _ (h.blk id) ⟨fun b => b.get off⟩ := by kernel_rfl
attribute [go_sem] ld_76
theorem st_76 (h : H) (id off : Nat) (v : CV) : storeT Go.Proofs.Try.prog h 76 id off v = @thn _ _ (h.blk id) ⟨fun b => cond (Nat.beq v.cells.length 1 && !b.ro) ((b.storeA off v.cells).map fun b' => h.put id (.cells b')) none⟩ := by kernel_rfl
attribute [go_sem] st_76
theorem part_76 (cs : List CV) (off : Nat) : partT Go.Proofs.Try.prog 76 cs off = nth cs off := by kernel_rfl
attribute [go_sem] part_76
theorem ze_76 : zeroT Go.Proofs.Try.prog 76 = some (.nilf) := by kernel_rfl
attribute [go_sem] ze_76
theorem eq_76 (xo yo : Operand) (f : Fn) (a b : List CV) : binT Go.Proofs.Try.prog .eql 76 xo yo (.fn f a b) .nilf = some (.bool false) := by kernel_rfl
attribute [go_sem] eq_76
theorem eq_76_n (xo yo : Operand) : binT Go.Proofs.Try.prog .eql 76 xo yo .nilf .nilf = some (.bool true) := by kernel_rfl
attribute [go_sem] eq_76_n
theorem ne_76 (xo yo : Operand) (f : Fn) (a b : List CV) : binT Go.Proofs.Try.prog .neq 76 xo yo (.fn f a b) .nilf = some (.bool true) := by kernel_rfl
attribute [go_sem] ne_76
theorem ne_76_n (xo yo : Operand) : binT Go.Proofs.Try.prog .neq 76 xo yo .nilf .nilf = some (.bool false) := by kernel_rfl
attribute [go_sem] ne_76_n
theorem sz_77 : szOf Go.Proofs.Try.prog 77 = some 1 := by kernel_rfl
attribute [go_sem] sz_77
theorem ld_77 (h : H) (id off : Nat) : loadT Go.Proofs.Try.prog h 77 id off = @thn _ _ (h.blk id) ⟨fun b => b.get off⟩ := by kernel_rfl
attribute [go_sem] ld_77
theorem st_77 (h : H) (id off : Nat) (v : CV) : storeT Go.Proofs.Try.prog h 77 id off v = @thn _ _ (h.blk id) ⟨fun b => cond (Nat.beq v.cells.length 1 && !b.ro) ((b.storeA off v.cells).map fun b' => h.put id (.cells b')) none⟩ := by kernel_rfl
attribute [go_sem] st_77
theorem part_77 (cs : List CV) (off : Nat) : partT Go.Proofs.Try.prog 77 cs off = nth cs off := by kernel_rfl
attribute [go_sem] part_77
theorem ze_77 : zeroT Go.Proofs.Try.prog 77 = some (.nils) := by kernel_rfl
attribute [go_sem] ze_77
theorem ia_77 (id off len k : Nat) (c : Cap) (kd : IntKind) : indexAddrT Go.Proofs.Try.prog 77 (.sl id off len c) (.int kd (Int.ofNat k)) = cond (Nat.blt k len) (some (.ptr id (off + k * 260))) none := by kernel_rfl
attribute [go_sem] ia_77
theorem len_77 (h : H) (id off len : Nat) (c : Cap) (ts : List TypeId) (az : List CV) : builtinT Go.Proofs.Try.prog h .len (77 :: ts) (.sl id off len c :: az) = some (.val (.int .i64 (Int.ofNat len))) := by kernel_rfl
attribute [go_sem] len_77
theorem len_77_n (h : H) (ts : List TypeId) (az : List CV) : builtinT Go.Proofs.Try.prog h .len (77 :: ts) (.nils :: az) = some (.val (.int .i64 0)) := by kernel_rfl
attribute [go_sem] len_77_n
theorem app_77 (h : H) (s : CV) (id off len : Nat) (c : Cap) (ts : List TypeId) (az : List CV) : builtinT Go.Proofs.Try.prog h .append (77 :: 77 :: ts) (s :: .sl id off len c :: az) = uv (appendT Go.Proofs.Try.prog h 77 s (.sl id off len c)) := by kernel_rfl
attribute [go_sem] app_77
theorem app_77_n (h : H) (s : CV) (ts : List TypeId) (az : List CV) : builtinT Go.Proofs.Try.prog h .append (77 :: 77 :: ts) (s :: .nils :: az) = uv (appendT Go.Proofs.Try.prog h 77 s .nils) := by kernel_rfl
attribute [go_sem] app_77_n
theorem ap_77 (h : H) (s : CV) (id off len : Nat) (c : Cap) : appendT Go.Proofs.Try.prog h 77 s (.sl id off len c) = appS h 260 288 260 s len (firstC h 260 len (.sl id off len c)) := by kernel_rfl
attribute [go_sem] ap_77
theorem ap_77_n (h : H) (s : CV) : appendT Go.Proofs.Try.prog h 77 s .nils = appS h 260 288 260 s 0 (some []) := by kernel_rfl
attribute [go_sem] ap_77_n
theorem ap_77_z (h : H) (s : CV) (a b c d : Nat) : appendT Go.Proofs.Try.prog h 77 s (.sl0 a b c d) = appS h 260 288 260 s 0 (some []) := by kernel_rfl
attribute [go_sem] ap_77_z
theorem ms_77 (h : H) (l c : Nat) (k k' : IntKind) : makeSliceT Go.Proofs.Try.prog h 77 (.int k (Int.ofNat l)) (.int k' (Int.ofNat c)) = mkS h 260 288 (zeroT Go.Proofs.Try.prog 85) l c := by kernel_rfl
attribute [go_sem] ms_77
theorem eq_77 (xo yo : Operand) (a b c : Nat) (d : Cap) : binT Go.Proofs.Try.prog .eql 77 xo yo (.sl a b c d) .nils = some (.bool false) := by kernel_rfl
attribute [go_sem] eq_77
theorem eq_77_n (xo yo : Operand) : binT Go.Proofs.Try.prog .eql 77 xo yo .nils .nils = some (.bool true) := by kernel_rfl
attribute [go_sem] eq_77_n
theorem eq_77_z (xo yo : Operand) (a b c d : Nat) : binT Go.Proofs.Try.prog .eql 77 xo yo (.sl0 a b c d) .nils = some (.bool false) := by kernel_rfl
attribute [go_sem] eq_77_z
theorem ne_77 (xo yo : Operand) (a b c : Nat) (d : Cap) : binT Go.Proofs.Try.prog .neq 77 xo yo (.sl a b c d) .nils = some (.bool true) := by kernel_rfl
attribute [go_sem] ne_77
theorem ne_77_n (xo yo : Operand) : binT Go.Proofs.Try.prog .neq 77 xo yo .nils .nils = some (.bool false) := by kernel_rfl
attribute [go_sem] ne_77_n
theorem ne_77_z (xo yo : Operand) (a b c d : Nat) : binT Go.Proofs.Try.prog .neq 77 xo yo (.sl0 a b c d) .nils = some (.bool true) := by kernel_rfl
attribute [go_sem] ne_77_z
theorem len_77_z (h : H) (a b c d : Nat) (ts : List TypeId) (az : List CV) : builtinT Go.Proofs.Try.prog h .len (77 :: ts) (.sl0 a b c d :: az) = some (.val (.int .i64 0)) := by kernel_rfl
attribute [go_sem] len_77_z
theorem app_77_z (h : H) (s : CV) (a b c d : Nat) (ts : List TypeId) (az : List CV) : builtinT Go.Proofs.Try.prog h .append (77 :: 77 :: ts) (s :: .sl0 a b c d :: az) = uv (appendT Go.Proofs.Try.prog h 77 s (.sl0 a b c d)) := by kernel_rfl
attribute [go_sem] app_77_z
theorem sz_78 : szOf Go.Proofs.Try.prog 78 = some 3 := by kernel_rfl
attribute [go_sem] sz_78
theorem ld_78 (h : H) (id off : Nat) : loadT Go.Proofs.Try.prog h 78 id off = @thn _ _ (h.blk id) ⟨fun b => (b.loadN off 3).map .agg⟩ := by kernel_rfl
attribute [go_sem] ld_78
theorem st_78 (h : H) (id off : Nat) (v : CV) : storeT Go.Proofs.Try.prog h 78 id off v = @thn _ _ (h.blk id) ⟨fun b => cond (Nat.beq v.cells.length 3 && !b.ro) ((b.storeA off v.cells).map fun b' => h.put id (.cells b')) none⟩ := by kernel_rfl
attribute [go_sem] st_78
theorem part_78 (cs : List CV) (off : Nat) : partT Go.Proofs.Try.prog 78 cs off = some (.agg ((cs.drop off).take 3)) := by kernel_rfl
attribute [go_sem] part_78
theorem ze_78 : zeroT Go.Proofs.Try.prog 78 = some (.agg [.int .i64 0, .int .u64 0, .nils]) := by kernel_rfl
attribute [go_sem] ze_78
theorem bt_78 (parts : List (Nat × CV)) : buildT Go.Proofs.Try.prog 78 parts = finB (CV.cells (.agg [.int .i64 0, .int .u64 0, .nils])) (nth [(0, 1), (1, 1), (2, 1)]) parts := by kernel_rfl
attribute [go_sem] bt_78
theorem fa_78_0 (id off : Nat) : fieldAddrT Go.Proofs.Try.prog 78 (.ptr id off) 0 = some (.ptr id (off)) := by kernel_rfl
attribute [go_sem] fa_78_0
theorem fd_78_0 (cs : List CV) : fieldT Go.Proofs.Try.prog 78 (.agg cs) 0 = partT Go.Proofs.Try.prog 3 cs 0 := by kernel_rfl
attribute [go_sem] fd_78_0
theorem fa_78_1 (id off : Nat) : fieldAddrT Go.Proofs.Try.prog 78 (.ptr id off) 1 = some (.ptr id (off + 1)) := by kernel_rfl
attribute [go_sem] fa_78_1
theorem fd_78_1 (cs : List CV) : fieldT Go.Proofs.Try.prog 78 (.agg cs) 1 = partT Go.Proofs.Try.prog 22 cs 1 := by kernel_rfl
attribute [go_sem] fd_78_1
theorem fa_78_2 (id off : Nat) : fieldAddrT Go.Proofs.Try.prog 78 (.ptr id off) 2 = some (.ptr id (off + 2)) := by kernel_rfl
attribute [go_sem] fa_78_2
theorem fd_78_2 (cs : List CV) : fieldT Go.Proofs.Try.prog 78 (.agg cs) 2 = partT Go.Proofs.Try.prog 77 cs 2 := by kernel_rfl
attribute [go_sem] fd_78_2
theorem sz_79 : szOf Go.Proofs.Try.prog 79 = some 3 := by kernel_rfl
attribute [go_sem] sz_79
theorem ld_79 (h : H) (id off : Nat) : loadT Go.Proofs.Try.prog h 79 id off = @thn _ _ (h.blk id) ⟨fun b => (b.loadN off 3).map .agg⟩ := by kernel_rfl
attribute [go_sem] ld_79
theorem st_79 (h : H) (id off : Nat) (v : CV) : storeT Go.Proofs.Try.prog h 79 id off v = @thn _ _ (h.blk id) ⟨fun b => cond (Nat.beq v.cells.length 3 && !b.ro) ((b.storeA off v.cells).map fun b' => h.put id (.cells b')) none⟩ := by kernel_rfl
attribute [go_sem] st_79
theorem part_79 (cs : List CV) (off : Nat) : partT Go.Proofs.Try.prog 79 cs off = some (.agg ((cs.drop off).take 3)) := by kernel_rfl
attribute [go_sem] part_79
theorem ze_79 : zeroT Go.Proofs.Try.prog 79 = some (.agg [.int .i64 0, .int .u64 0, .nils]) := by kernel_rfl
attribute [go_sem] ze_79
theorem bt_79 (parts : List (Nat × CV)) : buildT Go.Proofs.Try.prog 79 parts = finB (CV.cells (.agg [.int .i64 0, .int .u64 0, .nils])) (nth [(0, 1), (1, 1), (2, 1)]) parts := by kernel_rfl
attribute [go_sem] bt_79
theorem fa_79_0 (id off : Nat) : fieldAddrT Go.Proofs.Try.prog 79 (.ptr id off) 0 = some (.ptr id (off)) := by kernel_rfl
attribute [go_sem] fa_79_0
theorem fd_79_0 (cs : List CV) : fieldT Go.Proofs.Try.prog 79 (.agg cs) 0 = partT Go.Proofs.Try.prog 3 cs 0 := by kernel_rfl
attribute [go_sem] fd_79_0
theorem fa_79_1 (id off : Nat) : fieldAddrT Go.Proofs.Try.prog 79 (.ptr id off) 1 = some (.ptr id (off + 1)) := by kernel_rfl
attribute [go_sem] fa_79_1
theorem fd_79_1 (cs : List CV) : fieldT Go.Proofs.Try.prog 79 (.agg cs) 1 = partT Go.Proofs.Try.prog 22 cs 1 := by kernel_rfl
attribute [go_sem] fd_79_1
theorem fa_79_2 (id off : Nat) : fieldAddrT Go.Proofs.Try.prog 79 (.ptr id off) 2 = some (.ptr id (off + 2)) := by kernel_rfl
attribute [go_sem] fa_79_2
theorem fd_79_2 (cs : List CV) : fieldT Go.Proofs.Try.prog 79 (.agg cs) 2 = partT Go.Proofs.Try.prog 77 cs 2 := by kernel_rfl
attribute [go_sem] fd_79_2
theorem sz_80 : szOf Go.Proofs.Try.prog 80 = some 1 := by kernel_rfl
attribute [go_sem] sz_80
theorem ld_80 (h : H) (id off : Nat) : loadT Go.Proofs.Try.prog h 80 id off = @thn _ _ (h.blk id) ⟨fun b => b.get off⟩ := by kernel_rfl
attribute [go_sem] ld_80
theorem st_80 (h : H) (id off : Nat) (v : CV) : storeT Go.Proofs.Try.prog h 80 id off v = @thn _ _ (h.blk id) ⟨fun b => cond (Nat.beq v.cells.length 1 && !b.ro) ((b.storeA off v.cells).map fun b' => h.put id (.cells b')) none⟩ := by kernel_rfl
attribute [go_sem] st_80
theorem part_80 (cs : List CV) (off : Nat) : partT Go.Proofs.Try.prog 80 cs off = nth cs off := by kernel_rfl
attribute [go_sem] part_80
theorem ze_80 : zeroT Go.Proofs.Try.prog 80 = some (.nilp) := by kernel_rfl
attribute [go_sem] ze_80
theorem eq_80 (xo yo : Operand) (a b : Nat) : binT Go.Proofs.Try.prog .eql 80 xo yo (.ptr a b) .nilp = some (.bool false) := by kernel_rfl
attribute [go_sem] eq_80
theorem eq_80_n (xo yo : Operand) : binT Go.Proofs.Try.prog .eql 80 xo yo .nilp .nilp = some (.bool true) := by kernel_rfl
attribute [go_sem] eq_80_n
theorem ne_80 (xo yo : Operand) (a b : Nat) : binT Go.Proofs.Try.prog .neq 80 xo yo (.ptr a b) .nilp = some (.bool true) := by kernel_rfl
attribute [go_sem] ne_80
theorem ne_80_n (xo yo : Operand) : binT Go.Proofs.Try.prog .neq 80 xo yo .nilp .nilp = some (.bool false) := by kernel_rfl
attribute [go_sem] ne_80_n
theorem sz_81 : szOf Go.Proofs.Try.prog 81 = some 1 := by kernel_rfl
attribute [go_sem] sz_81
theorem ld_81 (h : H) (id off : Nat) : loadT Go.Proofs.Try.prog h 81 id off = @thn _ _ (h.blk id) ⟨fun b => b.get off⟩ := by kernel_rfl
attribute [go_sem] ld_81
theorem st_81 (h : H) (id off : Nat) (v : CV) : storeT Go.Proofs.Try.prog h 81 id off v = @thn _ _ (h.blk id) ⟨fun b => cond (Nat.beq v.cells.length 1 && !b.ro) ((b.storeA off v.cells).map fun b' => h.put id (.cells b')) none⟩ := by kernel_rfl
attribute [go_sem] st_81
theorem part_81 (cs : List CV) (off : Nat) : partT Go.Proofs.Try.prog 81 cs off = nth cs off := by kernel_rfl
attribute [go_sem] part_81
theorem ze_81 : zeroT Go.Proofs.Try.prog 81 = some (.nils) := by kernel_rfl
attribute [go_sem] ze_81
theorem ia_81 (id off len k : Nat) (c : Cap) (kd : IntKind) : indexAddrT Go.Proofs.Try.prog 81 (.sl id off len c) (.int kd (Int.ofNat k)) = cond (Nat.blt k len) (some (.ptr id (off + k * 1))) none := by kernel_rfl
attribute [go_sem] ia_81
theorem len_81 (h : H) (id off len : Nat) (c : Cap) (ts : List TypeId) (az : List CV) : builtinT Go.Proofs.Try.prog h .len (81 :: ts) (.sl id off len c :: az) = some (.val (.int .i64 (Int.ofNat len))) := by kernel_rfl
attribute [go_sem] len_81
theorem len_81_n (h : H) (ts : List TypeId) (az : List CV) : builtinT Go.Proofs.Try.prog h .len (81 :: ts) (.nils :: az) = some (.val (.int .i64 0)) := by kernel_rfl
attribute [go_sem] len_81_n
theorem app_81 (h : H) (s : CV) (id off len : Nat) (c : Cap) (ts : List TypeId) (az : List CV) : builtinT Go.Proofs.Try.prog h .append (81 :: 81 :: ts) (s :: .sl id off len c :: az) = uv (appendT Go.Proofs.Try.prog h 81 s (.sl id off len c)) := by kernel_rfl
attribute [go_sem] app_81
theorem app_81_n (h : H) (s : CV) (ts : List TypeId) (az : List CV) : builtinT Go.Proofs.Try.prog h .append (81 :: 81 :: ts) (s :: .nils :: az) = uv (appendT Go.Proofs.Try.prog h 81 s .nils) := by kernel_rfl
attribute [go_sem] app_81_n
theorem ap_81 (h : H) (s : CV) (id off len : Nat) (c : Cap) : appendT Go.Proofs.Try.prog h 81 s (.sl id off len c) = appS h 1 8 1 s len (firstC h 1 len (.sl id off len c)) := by kernel_rfl
attribute [go_sem] ap_81
theorem ap_81_n (h : H) (s : CV) : appendT Go.Proofs.Try.prog h 81 s .nils = appS h 1 8 1 s 0 (some []) := by kernel_rfl
attribute [go_sem] ap_81_n
theorem ap_81_z (h : H) (s : CV) (a b c d : Nat) : appendT Go.Proofs.Try.prog h 81 s (.sl0 a b c d) = appS h 1 8 1 s 0 (some []) := by kernel_rfl
attribute [go_sem] ap_81_z
theorem bs_81 (h : H) (n : Nat) (parts : List (Nat × CV)) : buildSliceT Go.Proofs.Try.prog h 81 n parts = bslS h 1 (CV.cells (.nilp)) n parts := by kernel_rfl
attribute [go_sem] bs_81
theorem ms_81 (h : H) (l c : Nat) (k k' : IntKind) : makeSliceT Go.Proofs.Try.prog h 81 (.int k (Int.ofNat l)) (.int k' (Int.ofNat c)) = mkS h 1 8 (zeroT Go.Proofs.Try.prog 80) l c := by kernel_rfl
attribute [go_sem] ms_81
theorem eq_81 (xo yo : Operand) (a b c : Nat) (d : Cap) : binT Go.Proofs.Try.prog .eql 81 xo yo (.sl a b c d) .nils = some (.bool false) := by kernel_rfl
attribute [go_sem] eq_81
theorem eq_81_n (xo yo : Operand) : binT Go.Proofs.Try.prog .eql 81 xo yo .nils .nils = some (.bool true) := by kernel_rfl
attribute [go_sem] eq_81_n
theorem eq_81_z (xo yo : Operand) (a b c d : Nat) : binT Go.Proofs.Try.prog .eql 81 xo yo (.sl0 a b c d) .nils = some (.bool false) := by kernel_rfl
attribute [go_sem] eq_81_z
theorem ne_81 (xo yo : Operand) (a b c : Nat) (d : Cap) : binT Go.Proofs.Try.prog .neq 81 xo yo (.sl a b c d) .nils = some (.bool true) := by kernel_rfl
attribute [go_sem] ne_81
theorem ne_81_n (xo yo : Operand) : binT Go.Proofs.Try.prog .neq 81 xo yo .nils .nils = some (.bool false) := by kernel_rfl
attribute [go_sem] ne_81_n
theorem ne_81_z (xo yo : Operand) (a b c d : Nat) : binT Go.Proofs.Try.prog .neq 81 xo yo (.sl0 a b c d) .nils = some (.bool true) := by kernel_rfl
attribute [go_sem] ne_81_z
theorem len_81_z (h : H) (a b c d : Nat) (ts : List TypeId) (az : List CV) : builtinT Go.Proofs.Try.prog h .len (81 :: ts) (.sl0 a b c d :: az) = some (.val (.int .i64 0)) := by kernel_rfl
attribute [go_sem] len_81_z
theorem app_81_z (h : H) (s : CV) (a b c d : Nat) (ts : List TypeId) (az : List CV) : builtinT Go.Proofs.Try.prog h .append (81 :: 81 :: ts) (s :: .sl0 a b c d :: az) = uv (appendT Go.Proofs.Try.prog h 81 s (.sl0 a b c d)) := by kernel_rfl
attribute [go_sem] app_81_z
theorem sz_82 : szOf Go.Proofs.Try.prog 82 = some 256 := by kernel_rfl
attribute [go_sem] sz_82
theorem ld_82 (h : H) (id off : Nat) : loadT Go.Proofs.Try.prog h 82 id off = @thn _ _ (h.blk id) ⟨fun b => (b.loadN off 256).map .agg⟩ := by kernel_rfl
attribute [go_sem] ld_82
theorem st_82 (h : H) (id off : Nat) (v : CV) : storeT Go.Proofs.Try.prog h 82 id off v = @thn _ _ (h.blk id) ⟨fun b => cond (Nat.beq v.cells.length 256 && !b.ro) ((b.storeA off v.cells).map fun b' => h.put id (.cells b')) none⟩ := by kernel_rfl
attribute [go_sem] st_82
theorem part_82 (cs : List CV) (off : Nat) : partT Go.Proofs.Try.prog 82 cs off = some (.agg ((cs.drop off).take 256)) := by kernel_rfl
attribute [go_sem] part_82
theorem ia_82 (id off k : Nat) (kd : IntKind) : indexAddrT Go.Proofs.Try.prog 82 (.ptr id off) (.int kd (Int.ofNat k)) = cond (Nat.blt k 256) (some (.ptr id (off + k * 1))) none := by kernel_rfl
attribute [go_sem] ia_82
theorem ix_82 (cs : List CV) (k : Nat) (kd : IntKind) : indexT Go.Proofs.Try.prog 82 (.agg cs) (.int kd (Int.ofNat k)) = cond (Nat.blt k 256) (partT Go.Proofs.Try.prog 5 cs (k * 1)) none := by kernel_rfl
attribute [go_sem] ix_82
theorem len_82 (h : H) (ts : List TypeId) (az : List CV) (a : CV) : builtinT Go.Proofs.Try.prog h .len (82 :: ts) (a :: az) = some (.val (.int .i64 256)) := by kernel_rfl
attribute [go_sem] len_82
theorem sz_83 : szOf Go.Proofs.Try.prog 83 = some 256 := by kernel_rfl
attribute [go_sem] sz_83
theorem ld_83 (h : H) (id off : Nat) : loadT Go.Proofs.Try.prog h 83 id off = @thn _ _ (h.blk id) ⟨fun b => (b.loadN off 256).map .agg⟩ := by kernel_rfl
attribute [go_sem] ld_83
theorem st_83 (h : H) (id off : Nat) (v : CV) : storeT Go.Proofs.Try.prog h 83 id off v = @thn _ _ (h.blk id) ⟨fun b => cond (Nat.beq v.cells.length 256 && !b.ro) ((b.storeA off v.cells).map fun b' => h.put id (.cells b')) none⟩ := by kernel_rfl
attribute [go_sem] st_83
theorem part_83 (cs : List CV) (off : Nat) : partT Go.Proofs.Try.prog 83 cs off = some (.agg ((cs.drop off).take 256)) := by kernel_rfl
attribute [go_sem] part_83
theorem ia_83 (id off k : Nat) (kd : IntKind) : indexAddrT Go.Proofs.Try.prog 83 (.ptr id off) (.int kd (Int.ofNat k)) = cond (Nat.blt k 256) (some (.ptr id (off + k * 1))) none := by kernel_rfl
attribute [go_sem] ia_83
theorem ix_83 (cs : List CV) (k : Nat) (kd : IntKind) : indexT Go.Proofs.Try.prog 83 (.agg cs) (.int kd (Int.ofNat k)) = cond (Nat.blt k 256) (partT Go.Proofs.Try.prog 5 cs (k * 1)) none := by kernel_rfl
attribute [go_sem] ix_83
theorem len_83 (h : H) (ts : List TypeId) (az : List CV) (a : CV) : builtinT Go.Proofs.Try.prog h .len (83 :: ts) (a :: az) = some (.val (.int .i64 256)) := by kernel_rfl
attribute [go_sem] len_83
theorem sz_84 : szOf Go.Proofs.Try.prog 84 = some 260 := by kernel_rfl
attribute [go_sem] sz_84
theorem ld_84 (h : H) (id off : Nat) : loadT Go.Proofs.Try.prog h 84 id off = @thn _ _ (h.blk id) ⟨fun b => (b.loadN off 260).map .agg⟩ := by kernel_rfl
attribute [go_sem] ld_84
theorem st_84 (h : H) (id off : Nat) (v : CV) : storeT Go.Proofs.Try.prog h 84 id off v = @thn _ _ (h.blk id) ⟨fun b => cond (Nat.beq v.cells.length 260 && !b.ro) ((b.storeA off v.cells).map fun b' => h.put id (.cells b')) none⟩ := by kernel_rfl
attribute [go_sem] st_84
theorem part_84 (cs : List CV) (off : Nat) : partT Go.Proofs.Try.prog 84 cs off = some (.agg ((cs.drop off).take 260)) := by kernel_rfl
attribute [go_sem] part_84
theorem fa_84_0 (id off : Nat) : fieldAddrT Go.Proofs.Try.prog 84 (.ptr id off) 0 = some (.ptr id (off)) := by kernel_rfl
attribute [go_sem] fa_84_0
theorem fd_84_0 (cs : List CV) : fieldT Go.Proofs.Try.prog 84 (.agg cs) 0 = partT Go.Proofs.Try.prog 22 cs 0 := by kernel_rfl
attribute [go_sem] fd_84_0
theorem fa_84_1 (id off : Nat) : fieldAddrT Go.Proofs.Try.prog 84 (.ptr id off) 1 = some (.ptr id (off + 1)) := by kernel_rfl
attribute [go_sem] fa_84_1
theorem fd_84_1 (cs : List CV) : fieldT Go.Proofs.Try.prog 84 (.agg cs) 1 = partT Go.Proofs.Try.prog 3 cs 1 := by kernel_rfl
attribute [go_sem] fd_84_1
theorem fa_84_2 (id off : Nat) : fieldAddrT Go.Proofs.Try.prog 84 (.ptr id off) 2 = some (.ptr id (off + 2)) := by kernel_rfl
attribute [go_sem] fa_84_2
theorem fd_84_2 (cs : List CV) : fieldT Go.Proofs.Try.prog 84 (.agg cs) 2 = partT Go.Proofs.Try.prog 83 cs 2 := by kernel_rfl
attribute [go_sem] fd_84_2
theorem fa_84_3 (id off : Nat) : fieldAddrT Go.Proofs.Try.prog 84 (.ptr id off) 3 = some (.ptr id (off + 258)) := by kernel_rfl
attribute [go_sem] fa_84_3
theorem fd_84_3 (cs : List CV) : fieldT Go.Proofs.Try.prog 84 (.agg cs) 3 = partT Go.Proofs.Try.prog 22 cs 258 := by kernel_rfl
attribute [go_sem] fd_84_3
theorem fa_84_4 (id off : Nat) : fieldAddrT Go.Proofs.Try.prog 84 (.ptr id off) 4 = some (.ptr id (off + 259)) := by kernel_rfl
attribute [go_sem] fa_84_4
theorem fd_84_4 (cs : List CV) : fieldT Go.Proofs.Try.prog 84 (.agg cs) 4 = partT Go.Proofs.Try.prog 4 cs 259 := by kernel_rfl
attribute [go_sem] fd_84_4
theorem sz_85 : szOf Go.Proofs.Try.prog 85 = some 260 := by kernel_rfl
attribute [go_sem] sz_85
theorem ld_85 (h : H) (id off : Nat) : loadT Go.Proofs.Try.prog h 85 id off = @thn _ _ (h.blk id) ⟨fun b => (b.loadN off 260).map .agg⟩ := by kernel_rfl
attribute [go_sem] ld_85
theorem st_85 (h : H) (id off : Nat) (v : CV) : storeT Go.Proofs.Try.prog h 85 id off v = @thn _ _ (h.blk id) ⟨fun b => cond (Nat.beq v.cells.length 260 && !b.ro) ((b.storeA off v.cells).map fun b' => h.put id (.cells b')) none⟩ := by kernel_rfl
attribute [go_sem] st_85
theorem part_85 (cs : List CV) (off : Nat) : partT Go.Proofs.Try.prog 85 cs off = some (.agg ((cs.drop off).take 260)) := by kernel_rfl
attribute [go_sem] part_85
theorem fa_85_0 (id off : Nat) : fieldAddrT Go.Proofs.Try.prog 85 (.ptr id off) 0 = some (.ptr id (off)) := by kernel_rfl
attribute [go_sem] fa_85_0
theorem fd_85_0 (cs : List CV) : fieldT Go.Proofs.Try.prog 85 (.agg cs) 0 = partT Go.Proofs.Try.prog 22 cs 0 := by kernel_rfl
attribute [go_sem] fd_85_0
theorem fa_85_1 (id off : Nat) : fieldAddrT Go.Proofs.Try.prog 85 (.ptr id off) 1 = some (.ptr id (off + 1)) := by kernel_rfl
attribute [go_sem] fa_85_1
theorem fd_85_1 (cs : List CV) : fieldT Go.Proofs.Try.prog 85 (.agg cs) 1 = partT Go.Proofs.Try.prog 3 cs 1 := by kernel_rfl
attribute [go_sem] fd_85_1
theorem fa_85_2 (id off : Nat) : fieldAddrT Go.Proofs.Try.prog 85 (.ptr id off) 2 = some (.ptr id (off + 2)) := by kernel_rfl
attribute [go_sem] fa_85_2
theorem fd_85_2 (cs : List CV) : fieldT Go.Proofs.Try.prog 85 (.agg cs) 2 = partT Go.Proofs.Try.prog 83 cs 2 := by kernel_rfl
attribute [go_sem] fd_85_2
theorem fa_85_3 (id off : Nat) : fieldAddrT Go.Proofs.Try.prog 85 (.ptr id off) 3 = some (.ptr id (off + 258)) := by kernel_rfl
attribute [go_sem] fa_85_3
theorem fd_85_3 (cs : List CV) : fieldT Go.Proofs.Try.prog 85 (.agg cs) 3 = partT Go.Proofs.Try.prog 22 cs 258 := by kernel_rfl
attribute [go_sem] fd_85_3
theorem fa_85_4 (id off : Nat) : fieldAddrT Go.Proofs.Try.prog 85 (.ptr id off) 4 = some (.ptr id (off + 259)) := by kernel_rfl
attribute [go_sem] fa_85_4
theorem fd_85_4 (cs : List CV) : fieldT Go.Proofs.Try.prog 85 (.agg cs) 4 = partT Go.Proofs.Try.prog 4 cs 259 := by kernel_rfl
attribute [go_sem] fd_85_4
theorem sz_86 : szOf Go.Proofs.Try.prog 86 = some 1 := by kernel_rfl
attribute [go_sem] sz_86
theorem ld_86 (h : H) (id off : Nat) : loadT Go.Proofs.Try.prog h 86 id off = @thn _ _ (h.blk id) ⟨fun b => b.get off⟩ := by kernel_rfl
attribute [go_sem] ld_86
theorem st_86 (h : H) (id off : Nat) (v : CV) : storeT Go.Proofs.Try.prog h 86 id off v = @thn _ _ (h.blk id) ⟨fun b => cond (Nat.beq v.cells.length 1 && !b.ro) ((b.storeA off v.cells).map fun b' => h.put id (.cells b')) none⟩ := by kernel_rfl
attribute [go_sem] st_86
theorem part_86 (cs : List CV) (off : Nat) : partT Go.Proofs.Try.prog 86 cs off = nth cs off := by kernel_rfl
attribute [go_sem] part_86
theorem sz_87 : szOf Go.Proofs.Try.prog 87 = some 1 := by kernel_rfl
attribute [go_sem] sz_87
theorem ld_87 (h : H) (id off : Nat) : loadT Go.Proofs.Try.prog h 87 id off = @thn _ _ (h.blk id) ⟨fun b => b.get off⟩ := by kernel_rfl
attribute [go_sem] ld_87
theorem st_87 (h : H) (id off : Nat) (v : CV) : storeT Go.Proofs.Try.prog h 87 id off v = @thn _ _ (h.blk id) ⟨fun b => cond (Nat.beq v.cells.length 1 && !b.ro) ((b.storeA off v.cells).map fun b' => h.put id (.cells b')) none⟩ := by kernel_rfl
attribute [go_sem] st_87
theorem part_87 (cs : List CV) (off : Nat) : partT Go.Proofs.Try.prog 87 cs off = nth cs off := by kernel_rfl
attribute [go_sem] part_87
theorem ze_87 : zeroT Go.Proofs.Try.prog 87 = some (.nilf) := by kernel_rfl
attribute [go_sem] ze_87
theorem eq_87 (xo yo : Operand) (f : Fn) (a b : List CV) : binT Go.Proofs.Try.prog .eql 87 xo yo (.fn f a b) .nilf = some (.bool false) := by kernel_rfl
attribute [go_sem] eq_87
theorem eq_87_n (xo yo : Operand) : binT Go.Proofs.Try.prog .eql 87 xo yo .nilf .nilf = some (.bool true) := by kernel_rfl
attribute [go_sem] eq_87_n
theorem ne_87 (xo yo : Operand) (f : Fn) (a b : List CV) : binT Go.Proofs.Try.prog .neq 87 xo yo (.fn f a b) .nilf = some (.bool true) := by kernel_rfl
attribute [go_sem] ne_87
theorem ne_87_n (xo yo : Operand) : binT Go.Proofs.Try.prog .neq 87 xo yo .nilf .nilf = some (.bool false) := by kernel_rfl
attribute [go_sem] ne_87_n
theorem sz_88 : szOf Go.Proofs.Try.prog 88 = some 1 := by kernel_rfl
attribute [go_sem] sz_88
theorem ld_88 (h : H) (id off : Nat) : loadT Go.Proofs.Try.prog h 88 id off = @thn _ _ (h.blk id) ⟨fun b => b.get off⟩ := by kernel_rfl
attribute [go_sem] ld_88
theorem st_88 (h : H) (id off : Nat) (v : CV) : storeT Go.Proofs.Try.prog h 88 id off v = @thn _ _ (h.blk id) ⟨fun b => cond (Nat.beq v.cells.length 1 && !b.ro) ((b.storeA off v.cells).map fun b' => h.put id (.cells b')) none⟩ := by kernel_rfl
attribute [go_sem] st_88
theorem part_88 (cs : List CV) (off : Nat) : partT Go.Proofs.Try.prog 88 cs off = nth cs off := by kernel_rfl
attribute [go_sem] part_88
theorem sz_89 : szOf Go.Proofs.Try.prog 89 = some 1 := by kernel_rfl
attribute [go_sem] sz_89
theorem ld_89 (h : H) (id off : Nat) : loadT Go.Proofs.Try.prog h 89 id off = @thn _ _ (h.blk id) ⟨fun b => b.get off⟩ := by kernel_rfl
attribute [go_sem] ld_89
theorem st_89 (h : H) (id off : Nat) (v : CV) : storeT Go.Proofs.Try.prog h 89 id off v = @thn _ _ (h.blk id) ⟨fun b => cond (Nat.beq v.cells.length 1 && !b.ro) ((b.storeA off v.cells).map fun b' => h.put id (.cells b')) none⟩ := by kernel_rfl
attribute [go_sem] st_89
theorem part_89 (cs : List CV) (off : Nat) : partT Go.Proofs.Try.prog 89 cs off = nth cs off := by kernel_rfl
attribute [go_sem] part_89
theorem ze_89 : zeroT Go.Proofs.Try.prog 89 = some (.nilf) := by kernel_rfl
attribute [go_sem] ze_89
theorem eq_89 (xo yo : Operand) (f : Fn) (a b : List CV) : binT Go.Proofs.Try.prog .eql 89 xo yo (.fn f a b) .nilf = some (.bool false) := by kernel_rfl
attribute [go_sem] eq_89
theorem eq_89_n (xo yo : Operand) : binT Go.Proofs.Try.prog .eql 89 xo yo .nilf .nilf = some (.bool true) := by kernel_rfl
attribute [go_sem] eq_89_n
theorem ne_89 (xo yo : Operand) (f : Fn) (a b : List CV) : binT Go.Proofs.Try.prog .neq 89 xo yo (.fn f a b) .nilf = some (.bool true) := by kernel_rfl
attribute [go_sem] ne_89
theorem ne_89_n (xo yo : Operand) : binT Go.Proofs.Try.prog .neq 89 xo yo .nilf .nilf = some (.bool false) := by kernel_rfl
attribute [go_sem] ne_89_n
theorem sz_90 : szOf Go.Proofs.Try.prog 90 = some 1 := by kernel_rfl
attribute [go_sem] sz_90
theorem ld_90 (h : H) (id off : Nat) : loadT Go.Proofs.Try.prog h 90 id off = @thn _ _ (h.blk id) ⟨fun b => b.get off⟩ := by kernel_rfl
attribute [go_sem] ld_90
theorem st_90 (h : H) (id off : Nat) (v : CV) : storeT Go.Proofs.Try.prog h 90 id off v = @thn _ _ (h.blk id) ⟨fun b => cond (Nat.beq v.cells.length 1 && !b.ro) ((b.storeA off v.cells).map fun b' => h.put id (.cells b')) none⟩ := by kernel_rfl
attribute [go_sem] st_90
theorem part_90 (cs : List CV) (off : Nat) : partT Go.Proofs.Try.prog 90 cs off = nth cs off := by kernel_rfl
attribute [go_sem] part_90
theorem ze_90 : zeroT Go.Proofs.Try.prog 90 = some (.nilf) := by kernel_rfl
attribute [go_sem] ze_90
theorem eq_90 (xo yo : Operand) (f : Fn) (a b : List CV) : binT Go.Proofs.Try.prog .eql 90 xo yo (.fn f a b) .nilf = some (.bool false) := by kernel_rfl
attribute [go_sem] eq_90
theorem eq_90_n (xo yo : Operand) : binT Go.Proofs.Try.prog .eql 90 xo yo .nilf .nilf = some (.bool true) := by kernel_rfl
attribute [go_sem] eq_90_n
theorem ne_90 (xo yo : Operand) (f : Fn) (a b : List CV) : binT Go.Proofs.Try.prog .neq 90 xo yo (.fn f a b) .nilf = some (.bool true) := by kernel_rfl
attribute [go_sem] ne_90
theorem ne_90_n (xo yo : Operand) : binT Go.Proofs.Try.prog .neq 90 xo yo .nilf .nilf = some (.bool false) := by kernel_rfl
attribute [go_sem] ne_90_n
theorem sz_91 : szOf Go.Proofs.Try.prog 91 = some 1 := by kernel_rfl
attribute [go_sem] sz_91
theorem ld_91 (h : H) (id off : Nat) : loadT Go.Proofs.Try.prog h 91 id off = @thn _ _ (h.blk id) ⟨fun b => b.get off⟩ := by kernel_rfl
attribute [go_sem] ld_91
theorem st_91 (h : H) (id off : Nat) (v : CV) : storeT Go.Proofs.Try.prog h 91 id off v = @thn _ _ (h.blk id) ⟨fun b => cond (Nat.beq v.cells.length 1 && !b.ro) ((b.storeA off v.cells).map fun b' => h.put id (.cells b')) none⟩ := by kernel_rfl
attribute [go_sem] st_91
theorem part_91 (cs : List CV) (off : Nat) : partT Go.Proofs.Try.prog 91 cs off = nth cs off := by kernel_rfl
attribute [go_sem] part_91
theorem ze_91 : zeroT Go.Proofs.Try.prog 91 = some (.nilf) := by kernel_rfl
attribute [go_sem] ze_91
theorem eq_91 (xo yo : Operand) (f : Fn) (a b : List CV) : binT Go.Proofs.Try.prog .eql 91 xo yo (.fn f a b) .nilf = some (.bool false) := by kernel_rfl
attribute [go_sem] eq_91
theorem eq_91_n (xo yo : Operand) : binT Go.Proofs.Try.prog .eql 91 xo yo .nilf .nilf = some (.bool true) := by kernel_rfl
attribute [go_sem] eq_91_n
theorem ne_91 (xo yo : Operand) (f : Fn) (a b : List CV) : binT Go.Proofs.Try.prog .neq 91 xo yo (.fn f a b) .nilf = some (.bool true) := by kernel_rfl
attribute [go_sem] ne_91
theorem ne_91_n (xo yo : Operand) : binT Go.Proofs.Try.prog .neq 91 xo yo .nilf .nilf = some (.bool false) := by kernel_rfl
attribute [go_sem] ne_91_n
theorem sz_92 : szOf Go.Proofs.Try.prog 92 = some 1 := by kernel_rfl
attribute [go_sem] sz_92
theorem ld_92 (h : H) (id off : Nat) : loadT Go.Proofs.Try.prog h 92 id off = @thn _ _ (h.blk id) ⟨fun b => b.get off⟩ := by kernel_rfl
attribute [go_sem] ld_92
theorem st_92 (h : H) (id off : Nat) (v : CV) : storeT Go.Proofs.Try.prog h 92 id off v = @thn _ _ (h.blk id) ⟨fun b => cond (Nat.beq v.cells.length 1 && !b.ro) ((b.storeA off v.cells).map fun b' => h.put id (.cells b')) none⟩ := by kernel_rfl
attribute [go_sem] st_92
theorem part_92 (cs : List CV) (off : Nat) : partT Go.Proofs.Try.prog 92 cs off = nth cs off := by kernel_rfl
attribute [go_sem] part_92
theorem ze_92 : zeroT Go.Proofs.Try.prog 92 = some (.nilf) := by kernel_rfl
attribute [go_sem] ze_92
theorem eq_92 (xo yo : Operand) (f : Fn) (a b : List CV) : binT Go.Proofs.Try.prog .eql 92 xo yo (.fn f a b) .nilf = some (.bool false) := by kernel_rfl
attribute [go_sem] eq_92
theorem eq_92_n (xo yo : Operand) : binT Go.Proofs.Try.prog .eql 92 xo yo .nilf .nilf = some (.bool true) := by kernel_rfl
attribute [go_sem] eq_92_n
theorem ne_92 (xo yo : Operand) (f : Fn) (a b : List CV) : binT Go.Proofs.Try.prog .neq 92 xo yo (.fn f a b) .nilf = some (.bool true) := by kernel_rfl
attribute [go_sem] ne_92
theorem ne_92_n (xo yo : Operand) : binT Go.Proofs.Try.prog .neq 92 xo yo .nilf .nilf = some (.bool false) := by kernel_rfl
attribute [go_sem] ne_92_n
theorem sz_93 : szOf Go.Proofs.Try.prog 93 = some 1 := by kernel_rfl
attribute [go_sem] sz_93
theorem ld_93 (h : H) (id off : Nat) : loadT Go.Proofs.Try.prog h 93 id off = @thn _ _ (h.blk id) ⟨fun b => b.get off⟩ := by kernel_rfl
attribute [go_sem] ld_93
theorem st_93 (h : H) (id off : Nat) (v : CV) : storeT Go.Proofs.Try.prog h 93 id off v = @thn _ _ (h.blk id) ⟨fun b => cond (Nat.beq v.cells.length 1 && !b.ro) ((b.storeA off v.cells).map fun b' => h.put id (.cells b')) none⟩ := by kernel_rfl
attribute [go_sem] st_93
theorem part_93 (cs : List CV) (off : Nat) : partT Go.Proofs.Try.prog 93 cs off = nth cs off := by kernel_rfl
attribute [go_sem] part_93
theorem ze_93 : zeroT Go.Proofs.Try.prog 93 = some (.nilf) := by kernel_rfl
attribute [go_sem] ze_93
theorem eq_93 (xo yo : Operand) (f : Fn) (a b : List CV) : binT Go.Proofs.Try.prog .eql 93 xo yo (.fn f a b) .nilf = some (.bool false) := by kernel_rfl
attribute [go_sem] eq_93
theorem eq_93_n (xo yo : Operand) : binT Go.Proofs.Try.prog .eql 93 xo yo .nilf .nilf = some (.bool true) := by kernel_rfl
attribute [go_sem] eq_93_n
theorem ne_93 (xo yo : Operand) (f : Fn) (a b : List CV) : binT Go.Proofs.Try.prog .neq 93 xo yo (.fn f a b) .nilf = some (.bool true) := by kernel_rfl
attribute [go_sem] ne_93
theorem ne_93_n (xo yo : Operand) : binT Go.Proofs.Try.prog .neq 93 xo yo .nilf .nilf = some (.bool false) := by kernel_rfl
attribute [go_sem] ne_93_n
theorem sz_94 : szOf Go.Proofs.Try.prog 94 = some 1 := by kernel_rfl
attribute [go_sem] sz_94
theorem ld_94 (h : H) (id off : Nat) : loadT Go.Proofs.Try.prog h 94 id off = @thn _ _ (h.blk id) ⟨fun b => b.get off⟩ := by kernel_rfl
attribute [go_sem] ld_94
theorem st_94 (h : H) (id off : Nat) (v : CV) : storeT Go.Proofs.Try.prog h 94 id off v = @thn _ _ (h.blk id) ⟨fun b => cond (Nat.beq v.cells.length 1 && !b.ro) ((b.storeA off v.cells).map fun b' => h.put id (.cells b')) none⟩ := by kernel_rfl
attribute [go_sem] st_94
theorem part_94 (cs : List CV) (off : Nat) : partT Go.Proofs.Try.prog 94 cs off = nth cs off := by kernel_rfl
attribute [go_sem] part_94
theorem ze_94 : zeroT Go.Proofs.Try.prog 94 = some (.nilf) := by kernel_rfl
attribute [go_sem] ze_94
theorem eq_94 (xo yo : Operand) (f : Fn) (a b : List CV) : binT Go.Proofs.Try.prog .eql 94 xo yo (.fn f a b) .nilf = some (.bool false) := by kernel_rfl
attribute [go_sem] eq_94
theorem eq_94_n (xo yo : Operand) : binT Go.Proofs.Try.prog .eql 94 xo yo .nilf .nilf = some (.bool true) := by kernel_rfl
attribute [go_sem] eq_94_n
theorem ne_94 (xo yo : Operand) (f : Fn) (a b : List CV) : binT Go.Proofs.Try.prog .neq 94 xo yo (.fn f a b) .nilf = some (.bool true) := by kernel_rfl
attribute [go_sem] ne_94
theorem ne_94_n (xo yo : Operand) : binT Go.Proofs.Try.prog .neq 94 xo yo .nilf .nilf = some (.bool false) := by kernel_rfl
attribute [go_sem] ne_94_n
theorem sz_95 : szOf Go.Proofs.Try.prog 95 = some 1 := by kernel_rfl
attribute [go_sem] sz_95
theorem ld_95 (h : H) (id off : Nat) : loadT Go.Proofs.Try.prog h 95 id off = @thn _ _ (h.blk id) ⟨fun b => b.get off⟩ := by kernel_rfl
attribute [go_sem] ld_95
theorem st_95 (h : H) (id off : Nat) (v : CV) : storeT Go.Proofs.Try.prog h 95 id off v = @thn _ _ (h.blk id) ⟨fun b => cond (Nat.beq v.cells.length 1 && !b.ro) ((b.storeA off v.cells).map fun b' => h.put id (.cells b')) none⟩ := by kernel_rfl
attribute [go_sem] st_95
theorem part_95 (cs : List CV) (off : Nat) : partT Go.Proofs.Try.prog 95 cs off = nth cs off := by kernel_rfl
attribute [go_sem] part_95
theorem ze_95 : zeroT Go.Proofs.Try.prog 95 = some (.nilf) := by kernel_rfl
attribute [go_sem] ze_95
theorem eq_95 (xo yo : Operand) (f : Fn) (a b : List CV) : binT Go.Proofs.Try.prog .eql 95 xo yo (.fn f a b) .nilf = some (.bool false) := by kernel_rfl
attribute [go_sem] eq_95
theorem eq_95_n (xo yo : Operand) : binT Go.Proofs.Try.prog .eql 95 xo yo .nilf .nilf = some (.bool true) := by kernel_rfl
attribute [go_sem] eq_95_n
theorem ne_95 (xo yo : Operand) (f : Fn) (a b : List CV) : binT Go.Proofs.Try.prog .neq 95 xo yo (.fn f a b) .nilf = some (.bool true) := by kernel_rfl
attribute [go_sem] ne_95
theorem ne_95_n (xo yo : Operand) : binT Go.Proofs.Try.prog .neq 95 xo yo .nilf .nilf = some (.bool false) := by kernel_rfl
attribute [go_sem] ne_95_n
theorem sz_96 : szOf Go.Proofs.Try.prog 96 = some 1 := by kernel_rfl
attribute [go_sem] sz_96
theorem ld_96 (h : H) (id off : Nat) : loadT Go.Proofs.Try.prog h 96 id off = @thn _ _ (h.blk id) ⟨fun b => b.get off⟩ := by kernel_rfl
attribute [go_sem] ld_96
theorem st_96 (h : H) (id off : Nat) (v : CV) : storeT Go.Proofs.Try.prog h 96 id off v = @thn _ _ (h.blk id) ⟨fun b => cond (Nat.beq v.cells.length 1 && !b.ro) ((b.storeA off v.cells).map fun b' => h.put id (.cells b')) none⟩ := by kernel_rfl
attribute [go_sem] st_96
theorem part_96 (cs : List CV) (off : Nat) : partT Go.Proofs.Try.prog 96 cs off = nth cs off := by kernel_rfl
attribute [go_sem] part_96
theorem ze_96 : zeroT Go.Proofs.Try.prog 96 = some (.nilf) := by kernel_rfl
attribute [go_sem] ze_96
theorem eq_96 (xo yo : Operand) (f : Fn) (a b : List CV) : binT Go.Proofs.Try.prog .eql 96 xo yo (.fn f a b) .nilf = some (.bool false) := by kernel_rfl
attribute [go_sem] eq_96
theorem eq_96_n (xo yo : Operand) : binT Go.Proofs.Try.prog .eql 96 xo yo .nilf .nilf = some (.bool true) := by kernel_rfl
attribute [go_sem] eq_96_n
theorem ne_96 (xo yo : Operand) (f : Fn) (a b : List CV) : binT Go.Proofs.Try.prog .neq 96 xo yo (.fn f a b) .nilf = some (.bool true) := by kernel_rfl
attribute [go_sem] ne_96
theorem ne_96_n (xo yo : Operand) : binT Go.Proofs.Try.prog .neq 96 xo yo .nilf .nilf = some (.bool false) := by kernel_rfl
attribute [go_sem] ne_96_n
theorem sz_97 : szOf Go.Proofs.Try.prog 97 = some 1 := by kernel_rfl
attribute [go_sem] sz_97
theorem ld_97 (h : H) (id off : Nat) : loadT Go.Proofs.Try.prog h 97 id off = @thn _ _ (h.blk id) ⟨fun b => b.get off⟩ := by kernel_rfl
attribute [go_sem] ld_97
theorem st_97 (h : H) (id off : Nat) (v : CV) : storeT Go.Proofs.Try.prog h 97 id off v = @thn _ _ (h.blk id) ⟨fun b => cond (Nat.beq v.cells.length 1 && !b.ro) ((b.storeA off v.cells).map fun b' => h.put id (.cells b')) none⟩ := by kernel_rfl
attribute [go_sem] st_97
theorem part_97 (cs : List CV) (off : Nat) : partT Go.Proofs.Try.prog 97 cs off = nth cs off := by kernel_rfl
attribute [go_sem] part_97
theorem ze_97 : zeroT Go.Proofs.Try.prog 97 = some (.nilf) := by kernel_rfl
attribute [go_sem] ze_97
theorem eq_97 (xo yo : Operand) (f : Fn) (a b : List CV) : binT Go.Proofs.Try.prog .eql 97 xo yo (.fn f a b) .nilf = some (.bool false) := by kernel_rfl
attribute [go_sem] eq_97
theorem eq_97_n (xo yo : Operand) : binT Go.Proofs.Try.prog .eql 97 xo yo .nilf .nilf = some (.bool true) := by kernel_rfl
attribute [go_sem] eq_97_n
theorem ne_97 (xo yo : Operand) (f : Fn) (a b : List CV) : binT Go.Proofs.Try.prog .neq 97 xo yo (.fn f a b) .nilf = some (.bool true) := by kernel_rfl
attribute [go_sem] ne_97
theorem ne_97_n (xo yo : Operand) : binT Go.Proofs.Try.prog .neq 97 xo yo .nilf .nilf = some (.bool false) := by kernel_rfl
attribute [go_sem] ne_97_n
theorem sz_98 : szOf Go.Proofs.Try.prog 98 = some 1 := by kernel_rfl
attribute [go_sem] sz_98
theorem ld_98 (h : H) (id off : Nat) : loadT Go.Proofs.Try.prog h 98 id off = @thn _ _ (h.blk id) ⟨fun b => b.get off⟩ := by kernel_rfl
attribute [go_sem] ld_98
theorem st_98 (h : H) (id off : Nat) (v : CV) : storeT Go.Proofs.Try.prog h 98 id off v = @thn _ _ (h.blk id) ⟨fun b => cond (Nat.beq v.cells.length 1 && !b.ro) ((b.storeA off v.cells).map fun b' => h.put id (.cells b')) none⟩ := by kernel_rfl
attribute [go_sem] st_98
theorem part_98 (cs : List CV) (off : Nat) : partT Go.Proofs.Try.prog 98 cs off = nth cs off := by kernel_rfl
attribute [go_sem] part_98
theorem ze_98 : zeroT Go.Proofs.Try.prog 98 = some (.nilm) := by kernel_rfl
attribute [go_sem] ze_98
theorem eq_98 (xo yo : Operand) (a : Nat) : binT Go.Proofs.Try.prog .eql 98 xo yo (.map a) .nilm = some (.bool false) := by kernel_rfl
attribute [go_sem] eq_98
theorem eq_98_n (xo yo : Operand) : binT Go.Proofs.Try.prog .eql 98 xo yo .nilm .nilm = some (.bool true) := by kernel_rfl
attribute [go_sem] eq_98_n
theorem ne_98 (xo yo : Operand) (a : Nat) : binT Go.Proofs.Try.prog .neq 98 xo yo (.map a) .nilm = some (.bool true) := by kernel_rfl
attribute [go_sem] ne_98
theorem ne_98_n (xo yo : Operand) : binT Go.Proofs.Try.prog .neq 98 xo yo .nilm .nilm = some (.bool false) := by kernel_rfl
attribute [go_sem] ne_98_n
theorem sz_99 : szOf Go.Proofs.Try.prog 99 = some 2 := by kernel_rfl
attribute [go_sem] sz_99
theorem ld_99 (h : H) (id off : Nat) : loadT Go.Proofs.Try.prog h 99 id off = @thn _ _ (h.blk id) ⟨fun b => (b.loadN off 2).map .agg⟩ := by kernel_rfl
attribute [go_sem] ld_99
theorem st_99 (h : H) (id off : Nat) (v : CV) : storeT Go.Proofs.Try.prog h 99 id off v = @thn _ _ (h.blk id) ⟨fun b => cond (Nat.beq v.cells.length 2 && !b.ro) ((b.storeA off v.cells).map fun b' => h.put id (.cells b')) none⟩ := by kernel_rfl
attribute [go_sem] st_99
theorem part_99 (cs : List CV) (off : Nat) : partT Go.Proofs.Try.prog 99 cs off = some (.agg ((cs.drop off).take 2)) := by kernel_rfl
attribute [go_sem] part_99
theorem ze_99 : zeroT Go.Proofs.Try.prog 99 = some (.agg [.nilm, .nils]) := by kernel_rfl
attribute [go_sem] ze_99
theorem bt_99 (parts : List (Nat × CV)) : buildT Go.Proofs.Try.prog 99 parts = finB (CV.cells (.agg [.nilm, .nils])) (nth [(0, 1), (1, 1)]) parts := by kernel_rfl
attribute [go_sem] bt_99
theorem fa_99_0 (id off : Nat) : fieldAddrT Go.Proofs.Try.prog 99 (.ptr id off) 0 = some (.ptr id (off)) := by kernel_rfl
attribute [go_sem] fa_99_0
theorem fd_99_0 (cs : List CV) : fieldT Go.Proofs.Try.prog 99 (.agg cs) 0 = partT Go.Proofs.Try.prog 98 cs 0 := by kernel_rfl
attribute [go_sem] fd_99_0
theorem fa_99_1 (id off : Nat) : fieldAddrT Go.Proofs.Try.prog 99 (.ptr id off) 1 = some (.ptr id (off + 1)) := by kernel_rfl
attribute [go_sem] fa_99_1
theorem fd_99_1 (cs : List CV) : fieldT Go.Proofs.Try.prog 99 (.agg cs) 1 = partT Go.Proofs.Try.prog 34 cs 1 := by kernel_rfl
attribute [go_sem] fd_99_1
theorem sz_100 : szOf Go.Proofs.Try.prog 100 = some 2 := by kernel_rfl
attribute [go_sem] sz_100
theorem ld_100 (h : H) (id off : Nat) : loadT Go.Proofs.Try.prog h 100 id off = @thn _ _ (h.blk id) ⟨fun b => (b.loadN off 2).map .agg⟩ := by kernel_rfl
attribute [go_sem] ld_100
theorem st_100 (h : H) (id off : Nat) (v : CV) : storeT Go.Proofs.Try.prog h 100 id off v = @thn _ _ (h.blk id) ⟨fun b => cond (Nat.beq v.cells.length 2 && !b.ro) ((b.storeA off v.cells).map fun b' => h.put id (.cells b')) none⟩ := by kernel_rfl
attribute [go_sem] st_100
theorem part_100 (cs : List CV) (off : Nat) : partT Go.Proofs.Try.prog 100 cs off = some (.agg ((cs.drop off).take 2)) := by kernel_rfl
attribute [go_sem] part_100
theorem ze_100 : zeroT Go.Proofs.Try.prog 100 = some (.agg [.nilm, .nils]) := by kernel_rfl
attribute [go_sem] ze_100
theorem bt_100 (parts : List (Nat × CV)) : buildT Go.Proofs.Try.prog 100 parts = finB (CV.cells (.agg [.nilm, .nils])) (nth [(0, 1), (1, 1)]) parts := by kernel_rfl
attribute [go_sem] bt_100
theorem fa_100_0 (id off : Nat) : fieldAddrT Go.Proofs.Try.prog 100 (.ptr id off) 0 = some (.ptr id (off)) := by kernel_rfl
attribute [go_sem] fa_100_0
theorem fd_100_0 (cs : List CV) : fieldT Go.Proofs.Try.prog 100 (.agg cs) 0 = partT Go.Proofs.Try.prog 98 cs 0 := by kernel_rfl
attribute [go_sem] fd_100_0
theorem fa_100_1 (id off : Nat) : fieldAddrT Go.Proofs.Try.prog 100 (.ptr id off) 1 = some (.ptr id (off + 1)) := by kernel_rfl
attribute [go_sem] fa_100_1
theorem fd_100_1 (cs : List CV) : fieldT Go.Proofs.Try.prog 100 (.agg cs) 1 = partT Go.Proofs.Try.prog 34 cs 1 := by kernel_rfl
attribute [go_sem] fd_100_1
theorem sz_101 : szOf Go.Proofs.Try.prog 101 = some 1 := by kernel_rfl
attribute [go_sem] sz_101
theorem ld_101 (h : H) (id off : Nat) : loadT Go.Proofs.Try.prog h 101 id off = @thn _ _ (h.blk id) ⟨fun b => b.get off⟩ := by kernel_rfl
attribute [go_sem] ld_101
theorem st_101 (h : H) (id off : Nat) (v : CV) : storeT Go.Proofs.Try.prog h 101 id off v = @thn _ _ (h.blk id) ⟨fun b => cond (Nat.beq v.cells.length 1 && !b.ro) ((b.storeA off v.cells).map fun b' => h.put id (.cells b')) none⟩ := by kernel_rfl
attribute [go_sem] st_101
theorem part_101 (cs : List CV) (off : Nat) : partT Go.Proofs.Try.prog 101 cs off = nth cs off := by kernel_rfl
attribute [go_sem] part_101
theorem ze_101 : zeroT Go.Proofs.Try.prog 101 = some (.nilm) := by kernel_rfl
attribute [go_sem] ze_101
theorem eq_101 (xo yo : Operand) (a : Nat) : binT Go.Proofs.Try.prog .eql 101 xo yo (.map a) .nilm = some (.bool false) := by kernel_rfl
attribute [go_sem] eq_101
theorem eq_101_n (xo yo : Operand) : binT Go.Proofs.Try.prog .eql 101 xo yo .nilm .nilm = some (.bool true) := by kernel_rfl
attribute [go_sem] eq_101_n
theorem ne_101 (xo yo : Operand) (a : Nat) : binT Go.Proofs.Try.prog .neq 101 xo yo (.map a) .nilm = some (.bool true) := by kernel_rfl
attribute [go_sem] ne_101
theorem ne_101_n (xo yo : Operand) : binT Go.Proofs.Try.prog .neq 101 xo yo .nilm .nilm = some (.bool false) := by kernel_rfl
attribute [go_sem] ne_101_n
theorem sz_102 : szOf Go.Proofs.Try.prog 102 = some 1 := by kernel_rfl
attribute [go_sem] sz_102
theorem ld_102 (h : H) (id off : Nat) : loadT Go.Proofs.Try.prog h 102 id off = @thn _ _ (h.blk id) ⟨fun b => b.get off⟩ := by kernel_rfl
attribute [go_sem] ld_102
theorem st_102 (h : H) (id off : Nat) (v : CV) : storeT Go.Proofs.Try.prog h 102 id off v = @thn _ _ (h.blk id) ⟨fun b => cond (Nat.beq v.cells.length 1 && !b.ro) ((b.storeA off v.cells).map fun b' => h.put id (.cells b')) none⟩ := by kernel_rfl
attribute [go_sem] st_102
theorem part_102 (cs : List CV) (off : Nat) : partT Go.Proofs.Try.prog 102 cs off = nth cs off := by kernel_rfl
attribute [go_sem] part_102
theorem ze_102 : zeroT Go.Proofs.Try.prog 102 = some (.nilf) := by kernel_rfl
attribute [go_sem] ze_102
theorem eq_102 (xo yo : Operand) (f : Fn) (a b : List CV) : binT Go.Proofs.Try.prog .eql 102 xo yo (.fn f a b) .nilf = some (.bool false) := by kernel_rfl
attribute [go_sem] eq_102
theorem eq_102_n (xo yo : Operand) : binT Go.Proofs.Try.prog .eql 102 xo yo .nilf .nilf = some (.bool true) := by kernel_rfl
attribute [go_sem] eq_102_n
theorem ne_102 (xo yo : Operand) (f : Fn) (a b : List CV) : binT Go.Proofs.Try.prog .neq 102 xo yo (.fn f a b) .nilf = some (.bool true) := by kernel_rfl
attribute [go_sem] ne_102
theorem ne_102_n (xo yo : Operand) : binT Go.Proofs.Try.prog .neq 102 xo yo .nilf .nilf = some (.bool false) := by kernel_rfl
attribute [go_sem] ne_102_n
theorem sz_103 : szOf Go.Proofs.Try.prog 103 = some 1 := by kernel_rfl
attribute [go_sem] sz_103
theorem ld_103 (h : H) (id off : Nat) : loadT Go.Proofs.Try.prog h 103 id off = @thn _ _ (h.blk id) ⟨fun b => b.get off⟩ := by kernel_rfl
attribute [go_sem] ld_103
theorem st_103 (h : H) (id off : Nat) (v : CV) : storeT Go.Proofs.Try.prog h 103 id off v = @thn _ _ (h.blk id) ⟨fun b => cond (Nat.beq v.cells.length 1 && !b.ro) ((b.storeA off v.cells).map fun b' => h.put id (.cells b')) none⟩ := by kernel_rfl
attribute [go_sem] st_103
theorem part_103 (cs : List CV) (off : Nat) : partT Go.Proofs.Try.prog 103 cs off = nth cs off := by kernel_rfl
attribute [go_sem] part_103
theorem ze_103 : zeroT Go.Proofs.Try.prog 103 = some (.nilf) := by kernel_rfl
attribute [go_sem] ze_103
theorem eq_103 (xo yo : Operand) (f : Fn) (a b : List CV) : binT Go.Proofs.Try.prog .eql 103 xo yo (.fn f a b) .nilf = some (.bool false) := by kernel_rfl
attribute [go_sem] eq_103
theorem eq_103_n (xo yo : Operand) : binT Go.Proofs.Try.prog .eql 103 xo yo .nilf .nilf = some (.bool true) := by kernel_rfl
attribute [go_sem] eq_103_n
theorem ne_103 (xo yo : Operand) (f : Fn) (a b : List CV) : binT Go.Proofs.Try.prog .neq 103 xo yo (.fn f a b) .nilf = some (.bool true) := by kernel_rfl
attribute [go_sem] ne_103
theorem ne_103_n (xo yo : Operand) : binT Go.Proofs.Try.prog .neq 103 xo yo .nilf .nilf = some (.bool false) := by kernel_rfl
attribute [go_sem] ne_103_n
theorem sz_104 : szOf Go.Proofs.Try.prog 104 = some 1 := by kernel_rfl
attribute [go_sem] sz_104
theorem ld_104 (h : H) (id off : Nat) : loadT Go.Proofs.Try.prog h 104 id off = @thn _ _ (h.blk id) ⟨fun b => b.get off⟩ := by kernel_rfl
attribute [go_sem] ld_104
theorem st_104 (h : H) (id off : Nat) (v : CV) : storeT Go.Proofs.Try.prog h 104 id off v = @thn _ _ (h.blk id) ⟨fun b => cond (Nat.beq v.cells.length 1 && !b.ro) ((b.storeA off v.cells).map fun b' => h.put id (.cells b')) none⟩ := by kernel_rfl
attribute [go_sem] st_104
theorem part_104 (cs : List CV) (off : Nat) : partT Go.Proofs.Try.prog 104 cs off = nth cs off := by kernel_rfl
attribute [go_sem] part_104
theorem ze_104 : zeroT Go.Proofs.Try.prog 104 = some (.nilf) := by kernel_rfl
attribute [go_sem] ze_104
theorem eq_104 (xo yo : Operand) (f : Fn) (a b : List CV) : binT Go.Proofs.Try.prog .eql 104 xo yo (.fn f a b) .nilf = some (.bool false) := by kernel_rfl
attribute [go_sem] eq_104
theorem eq_104_n (xo yo : Operand) : binT Go.Proofs.Try.prog .eql 104 xo yo .nilf .nilf = some (.bool true) := by kernel_rfl
attribute [go_sem] eq_104_n
theorem ne_104 (xo yo : Operand) (f : Fn) (a b : List CV) : binT Go.Proofs.Try.prog .neq 104 xo yo (.fn f a b) .nilf = some (.bool true) := by kernel_rfl
attribute [go_sem] ne_104
theorem ne_104_n (xo yo : Operand) : binT Go.Proofs.Try.prog .neq 104 xo yo .nilf .nilf = some (.bool false) := by kernel_rfl
attribute [go_sem] ne_104_n
theorem sz_105 : szOf Go.Proofs.Try.prog 105 = some 1 := by kernel_rfl
attribute [go_sem] sz_105
theorem ld_105 (h : H) (id off : Nat) : loadT Go.Proofs.Try.prog h 105 id off = @thn _ _ (h.blk id) ⟨fun b => b.get off⟩ := by kernel_rfl
attribute [go_sem] ld_105
theorem st_105 (h : H) (id off : Nat) (v : CV) : storeT Go.Proofs.Try.prog h 105 id off v = @thn _ _ (h.blk id) ⟨fun b => cond (Nat.beq v.cells.length 1 && !b.ro) ((b.storeA off v.cells).map fun b' => h.put id (.cells b')) none⟩ := by kernel_rfl
attribute [go_sem] st_105
theorem part_105 (cs : List CV) (off : Nat) : partT Go.Proofs.Try.prog 105 cs off = nth cs off := by kernel_rfl
attribute [go_sem] part_105
theorem sz_106 : szOf Go.Proofs.Try.prog 106 = some 1 := by kernel_rfl
attribute [go_sem] sz_106
theorem ld_106 (h : H) (id off : Nat) : loadT Go.Proofs.Try.prog h 106 id off = @thn _ _ (h.blk id) ⟨fun b => b.get off⟩ := by kernel_rfl
attribute [go_sem] ld_106
theorem st_106 (h : H) (id off : Nat) (v : CV) : storeT Go.Proofs.Try.prog h 106 id off v = @thn _ _ (h.blk id) ⟨fun b => cond (Nat.beq v.cells.length 1 && !b.ro) ((b.storeA off v.cells).map fun b' => h.put id (.cells b')) none⟩ := by kernel_rfl
attribute [go_sem] st_106
theorem part_106 (cs : List CV) (off : Nat) : partT Go.Proofs.Try.prog 106 cs off = nth cs off := by kernel_rfl
attribute [go_sem] part_106
theorem ze_106 : zeroT Go.Proofs.Try.prog 106 = some (.nilf) := by kernel_rfl
attribute [go_sem] ze_106
theorem eq_106 (xo yo : Operand) (f : Fn) (a b : List CV) : binT Go.Proofs.Try.prog .eql 106 xo yo (.fn f a b) .nilf = some (.bool false) := by kernel_rfl
attribute [go_sem] eq_106
theorem eq_106_n (xo yo : Operand) : binT Go.Proofs.Try.prog .eql 106 xo yo .nilf .nilf = some (.bool true) := by kernel_rfl
attribute [go_sem] eq_106_n
theorem ne_106 (xo yo : Operand) (f : Fn) (a b : List CV) : binT Go.Proofs.Try.prog .neq 106 xo yo (.fn f a b) .nilf = some (.bool true) := by kernel_rfl
attribute [go_sem] ne_106
theorem ne_106_n (xo yo : Operand) : binT Go.Proofs.Try.prog .neq 106 xo yo .nilf .nilf = some (.bool false) := by kernel_rfl
attribute [go_sem] ne_106_n
theorem sz_107 : szOf Go.Proofs.Try.prog 107 = some 1 := by kernel_rfl
attribute [go_sem] sz_107
theorem ld_107 (h : H) (id off : Nat) : loadT Go.Proofs.Try.prog h 107 id off = @thn _ _ (h.blk id) ⟨fun b => b.get off⟩ := by kernel_rfl
attribute [go_sem] ld_107
theorem st_107 (h : H) (id off : Nat) (v : CV) : storeT Go.Proofs.Try.prog h 107 id off v = @thn _ _ (h.blk id) ⟨fun b => cond (Nat.beq v.cells.length 1 && !b.ro) ((b.storeA off v.cells).map fun b' => h.put id (.cells b')) none⟩ := by kernel_rfl
attribute [go_sem] st_107
theorem part_107 (cs : List CV) (off : Nat) : partT Go.Proofs.Try.prog 107 cs off = nth cs off := by kernel_rfl
attribute [go_sem] part_107
theorem ze_107 : zeroT Go.Proofs.Try.prog 107 = some (.nilf) := by kernel_rfl
attribute [go_sem] ze_107
theorem eq_107 (xo yo : Operand) (f : Fn) (a b : List CV) : binT Go.Proofs.Try.prog .eql 107 xo yo (.fn f a b) .nilf = some (.bool false) := by kernel_rfl
attribute [go_sem] eq_107
theorem eq_107_n (xo yo : Operand) : binT Go.Proofs.Try.prog .eql 107 xo yo .nilf .nilf = some (.bool true) := by kernel_rfl
attribute [go_sem] eq_107_n
theorem ne_107 (xo yo : Operand) (f : Fn) (a b : List CV) : binT Go.Proofs.Try.prog .neq 107 xo yo (.fn f a b) .nilf = some (.bool true) := by kernel_rfl
attribute [go_sem] ne_107
theorem ne_107_n (xo yo : Operand) : binT Go.Proofs.Try.prog .neq 107 xo yo .nilf .nilf = some (.bool false) := by kernel_rfl
attribute [go_sem] ne_107_n
theorem sz_108 : szOf Go.Proofs.Try.prog 108 = some 1 := by kernel_rfl
attribute [go_sem] sz_108
theorem ld_108 (h : H) (id off : Nat) : loadT Go.Proofs.Try.prog h 108 id off = @thn _ _ (h.blk id) ⟨fun b => b.get off⟩ := by kernel_rfl
attribute [go_sem] ld_108
theorem st_108 (h : H) (id off : Nat) (v : CV) : storeT Go.Proofs.Try.prog h 108 id off v = @thn _ _ (h.blk id) ⟨fun b => cond (Nat.beq v.cells.length 1 && !b.ro) ((b.storeA off v.cells).map fun b' => h.put id (.cells b')) none⟩ := by kernel_rfl
attribute [go_sem] st_108
theorem part_108 (cs : List CV) (off : Nat) : partT Go.Proofs.Try.prog 108 cs off = nth cs off := by kernel_rfl
attribute [go_sem] part_108
theorem ze_108 : zeroT Go.Proofs.Try.prog 108 = some (.nilf) := by kernel_rfl
attribute [go_sem] ze_108
theorem eq_108 (xo yo : Operand) (f : Fn) (a b : List CV) : binT Go.Proofs.Try.prog .eql 108 xo yo (.fn f a b) .nilf = some (.bool false) := by kernel_rfl
attribute [go_sem] eq_108
theorem eq_108_n (xo yo : Operand) : binT Go.Proofs.Try.prog .eql 108 xo yo .nilf .nilf = some (.bool true) := by kernel_rfl
attribute [go_sem] eq_108_n
theorem ne_108 (xo yo : Operand) (f : Fn) (a b : List CV) : binT Go.Proofs.Try.prog .neq 108 xo yo (.fn f a b) .nilf = some (.bool true) := by kernel_rfl
attribute [go_sem] ne_108
theorem ne_108_n (xo yo : Operand) : binT Go.Proofs.Try.prog .neq 108 xo yo .nilf .nilf = some (.bool false) := by kernel_rfl
attribute [go_sem] ne_108_n
theorem sz_109 : szOf Go.Proofs.Try.prog 109 = some 1 := by kernel_rfl
attribute [go_sem] sz_109
theorem ld_109 (h : H) (id off : Nat) : loadT Go.Proofs.Try.prog h 109 id off = @thn _ _ (h.blk id) ⟨fun b => b.get off⟩ := by kernel_rfl
attribute [go_sem] ld_109
theorem st_109 (h : H) (id off : Nat) (v : CV) : storeT Go.Proofs.Try.prog h 109 id off v = @thn _ _ (h.blk id) ⟨fun b => cond (Nat.beq v.cells.length 1 && !b.ro) ((b.storeA off v.cells).map fun b' => h.put id (.cells b')) none⟩ := by kernel_rfl
attribute [go_sem] st_109
theorem part_109 (cs : List CV) (off : Nat) : partT Go.Proofs.Try.prog 109 cs off = nth cs off := by kernel_rfl
attribute [go_sem] part_109
theorem ze_109 : zeroT Go.Proofs.Try.prog 109 = some (.nilf) := by kernel_rfl
attribute [go_sem] ze_109
theorem eq_109 (xo yo : Operand) (f : Fn) (a b : List CV) : binT Go.Proofs.Try.prog .eql 109 xo yo (.fn f a b) .nilf = some (.bool false) := by kernel_rfl
attribute [go_sem] eq_109
theorem eq_109_n (xo yo : Operand) : binT Go.Proofs.Try.prog .eql 109 xo yo .nilf .nilf = some (.bool true) := by kernel_rfl
attribute [go_sem] eq_109_n
theorem ne_109 (xo yo : Operand) (f : Fn) (a b : List CV) : binT Go.Proofs.Try.prog .neq 109 xo yo (.fn f a b) .nilf = some (.bool true) := by kernel_rfl
attribute [go_sem] ne_109
theorem ne_109_n (xo yo : Operand) : binT Go.Proofs.Try.prog .neq 109 xo yo .nilf .nilf = some (.bool false) := by kernel_rfl
attribute [go_sem] ne_109_n
theorem sz_110 : szOf Go.Proofs.Try.prog 110 = some 1 := by kernel_rfl
attribute [go_sem] sz_110
theorem ld_110 (h : H) (id off : Nat) : loadT Go.Proofs.Try.prog h 110 id off = @thn _ _ (h.blk id) ⟨fun b => b.get off⟩ := by kernel_rfl
attribute [go_sem] ld_110
theorem st_110 (h : H) (id off : Nat) (v : CV) : storeT Go.Proofs.Try.prog h 110 id off v = @thn _ _ (h.blk id) ⟨fun b => cond (Nat.beq v.cells.length 1 && !b.ro) ((b.storeA off v.cells).map fun b' => h.put id (.cells b')) none⟩ := by kernel_rfl
attribute [go_sem] st_110
theorem part_110 (cs : List CV) (off : Nat) : partT Go.Proofs.Try.prog 110 cs off = nth cs off := by kernel_rfl
attribute [go_sem] part_110
theorem ze_110 : zeroT Go.Proofs.Try.prog 110 = some (.nilf) := by kernel_rfl
attribute [go_sem] ze_110
theorem eq_110 (xo yo : Operand) (f : Fn) (a b : List CV) : binT Go.Proofs.Try.prog .eql 110 xo yo (.fn f a b) .nilf = some (.bool false) := by kernel_rfl
attribute [go_sem] eq_110
theorem eq_110_n (xo yo : Operand) : binT Go.Proofs.Try.prog .eql 110 xo yo .nilf .nilf = some (.bool true) := by kernel_rfl
attribute [go_sem] eq_110_n
theorem ne_110 (xo yo : Operand) (f : Fn) (a b : List CV) : binT Go.Proofs.Try.prog .neq 110 xo yo (.fn f a b) .nilf = some (.bool true) := by kernel_rfl
attribute [go_sem] ne_110
theorem ne_110_n (xo yo : Operand) : binT Go.Proofs.Try.prog .neq 110 xo yo .nilf .nilf = some (.bool false) := by kernel_rfl
attribute [go_sem] ne_110_n
theorem sz_111 : szOf Go.Proofs.Try.prog 111 = some 4 := by kernel_rfl
attribute [go_sem] sz_111
theorem ld_111 (h : H) (id off : Nat) : loadT Go.Proofs.Try.prog h 111 id off = @thn _ _ (h.blk id) ⟨fun b => (b.loadN off 4).map .agg⟩ := by kernel_rfl
attribute [go_sem] ld_111
theorem st_111 (h : H) (id off : Nat) (v : CV) : storeT Go.Proofs.Try.prog h 111 id off v = @thn _ _ (h.blk id) ⟨fun b => cond (Nat.beq v.cells.length 4 && !b.ro) ((b.storeA off v.cells).map fun b' => h.put id (.cells b')) none⟩ := by kernel_rfl
attribute [go_sem] st_111
theorem part_111 (cs : List CV) (off : Nat) : partT Go.Proofs.Try.prog 111 cs off = some (.agg ((cs.drop off).take 4)) := by kernel_rfl
attribute [go_sem] part_111
theorem ze_111 : zeroT Go.Proofs.Try.prog 111 = some (.agg [.int .u64 0, .int .i64 0, .bool false, .bool false]) := by kernel_rfl
attribute [go_sem] ze_111
theorem bt_111 (parts : List (Nat × CV)) : buildT Go.Proofs.Try.prog 111 parts = finB (CV.cells (.agg [.int .u64 0, .int .i64 0, .bool false, .bool false])) (nth [(0, 1), (1, 1), (2, 1), (3, 1)]) parts := by kernel_rfl
attribute [go_sem] bt_111
theorem fa_111_0 (id off : Nat) : fieldAddrT Go.Proofs.Try.prog 111 (.ptr id off) 0 = some (.ptr id (off)) := by kernel_rfl
attribute [go_sem] fa_111_0
theorem fd_111_0 (cs : List CV) : fieldT Go.Proofs.Try.prog 111 (.agg cs) 0 = partT Go.Proofs.Try.prog 22 cs 0 := by kernel_rfl
attribute [go_sem] fd_111_0
theorem fa_111_1 (id off : Nat) : fieldAddrT Go.Proofs.Try.prog 111 (.ptr id off) 1 = some (.ptr id (off + 1)) := by kernel_rfl
attribute [go_sem] fa_111_1
theorem fd_111_1 (cs : List CV) : fieldT Go.Proofs.Try.prog 111 (.agg cs) 1 = partT Go.Proofs.Try.prog 3 cs 1 := by kernel_rfl
attribute [go_sem] fd_111_1
theorem fa_111_2 (id off : Nat) : fieldAddrT Go.Proofs.Try.prog 111 (.ptr id off) 2 = some (.ptr id (off + 2)) := by kernel_rfl
attribute [go_sem] fa_111_2
theorem fd_111_2 (cs : List CV) : fieldT Go.Proofs.Try.prog 111 (.agg cs) 2 = partT Go.Proofs.Try.prog 4 cs 2 := by kernel_rfl
attribute [go_sem] fd_111_2
theorem fa_111_3 (id off : Nat) : fieldAddrT Go.Proofs.Try.prog 111 (.ptr id off) 3 = some (.ptr id (off + 3)) := by kernel_rfl
attribute [go_sem] fa_111_3
theorem fd_111_3 (cs : List CV) : fieldT Go.Proofs.Try.prog 111 (.agg cs) 3 = partT Go.Proofs.Try.prog 4 cs 3 := by kernel_rfl
attribute [go_sem] fd_111_3
theorem sz_112 : szOf Go.Proofs.Try.prog 112 = some 4 := by kernel_rfl
attribute [go_sem] sz_112
theorem ld_112 (h : H) (id off : Nat) : loadT Go.Proofs.Try.prog h 112 id off = @thn _ _ (h.blk id) ⟨fun b => (b.loadN off 4).map .agg⟩ := by kernel_rfl
attribute [go_sem] ld_112
theorem st_112 (h : H) (id off : Nat) (v : CV) : storeT Go.Proofs.Try.prog h 112 id off v = @thn _ _ (h.blk id) ⟨fun b => cond (Nat.beq v.cells.length 4 && !b.ro) ((b.storeA off v.cells).map fun b' => h.put id (.cells b')) none⟩ := by kernel_rfl
attribute [go_sem] st_112
theorem part_112 (cs : List CV) (off : Nat) : partT Go.Proofs.Try.prog 112 cs off = some (.agg ((cs.drop off).take 4)) := by kernel_rfl
attribute [go_sem] part_112
theorem ze_112 : zeroT Go.Proofs.Try.prog 112 = some (.agg [.int .u64 0, .int .i64 0, .bool false, .bool false]) := by kernel_rfl
attribute [go_sem] ze_112
theorem bt_112 (parts : List (Nat × CV)) : buildT Go.Proofs.Try.prog 112 parts = finB (CV.cells (.agg [.int .u64 0, .int .i64 0, .bool false, .bool false])) (nth [(0, 1), (1, 1), (2, 1), (3, 1)]) parts := by kernel_rfl
attribute [go_sem] bt_112
theorem fa_112_0 (id off : Nat) : fieldAddrT Go.Proofs.Try.prog 112 (.ptr id off) 0 = some (.ptr id (off)) := by kernel_rfl
attribute [go_sem] fa_112_0
theorem fd_112_0 (cs : List CV) : fieldT Go.Proofs.Try.prog 112 (.agg cs) 0 = partT Go.Proofs.Try.prog 22 cs 0 := by kernel_rfl
attribute [go_sem] fd_112_0
theorem fa_112_1 (id off : Nat) : fieldAddrT Go.Proofs.Try.prog 112 (.ptr id off) 1 = some (.ptr id (off + 1)) := by kernel_rfl
attribute [go_sem] fa_112_1
theorem fd_112_1 (cs : List CV) : fieldT Go.Proofs.Try.prog 112 (.agg cs) 1 = partT Go.Proofs.Try.prog 3 cs 1 := by kernel_rfl
attribute [go_sem] fd_112_1
theorem fa_112_2 (id off : Nat) : fieldAddrT Go.Proofs.Try.prog 112 (.ptr id off) 2 = some (.ptr id (off + 2)) := by kernel_rfl
attribute [go_sem] fa_112_2
theorem fd_112_2 (cs : List CV) : fieldT Go.Proofs.Try.prog 112 (.agg cs) 2 = partT Go.Proofs.Try.prog 4 cs 2 := by kernel_rfl
attribute [go_sem] fd_112_2
theorem fa_112_3 (id off : Nat) : fieldAddrT Go.Proofs.Try.prog 112 (.ptr id off) 3 = some (.ptr id (off + 3)) := by kernel_rfl
attribute [go_sem] fa_112_3
theorem fd_112_3 (cs : List CV) : fieldT Go.Proofs.Try.prog 112 (.agg cs) 3 = partT Go.Proofs.Try.prog 4 cs 3 := by kernel_rfl
attribute [go_sem] fd_112_3
theorem sz_113 : szOf Go.Proofs.Try.prog 113 = some 1 := by kernel_rfl
attribute [go_sem] sz_113
theorem ld_113 (h : H) (id off : Nat) : loadT Go.Proofs.Try.prog h 113 id off = @thn _ _ (h.blk id) ⟨fun b => b.get off⟩ := by kernel_rfl
attribute [go_sem] ld_113
theorem st_113 (h : H) (id off : Nat) (v : CV) : storeT Go.Proofs.Try.prog h 113 id off v = @thn _ _ (h.blk id) ⟨fun b => cond (Nat.beq v.cells.length 1 && !b.ro) ((b.storeA off v.cells).map fun b' => h.put id (.cells b')) none⟩ := by kernel_rfl
attribute [go_sem] st_113
theorem part_113 (cs : List CV) (off : Nat) : partT Go.Proofs.Try.prog 113 cs off = nth cs off := by kernel_rfl
attribute [go_sem] part_113
theorem ze_113 : zeroT Go.Proofs.Try.prog 113 = some (.nilf) := by kernel_rfl
attribute [go_sem] ze_113
theorem eq_113 (xo yo : Operand) (f : Fn) (a b : List CV) : binT Go.Proofs.Try.prog .eql 113 xo yo (.fn f a b) .nilf = some (.bool false) := by kernel_rfl
attribute [go_sem] eq_113
theorem eq_113_n (xo yo : Operand) : binT Go.Proofs.Try.prog .eql 113 xo yo .nilf .nilf = some (.bool true) := by kernel_rfl
attribute [go_sem] eq_113_n
theorem ne_113 (xo yo : Operand) (f : Fn) (a b : List CV) : binT Go.Proofs.Try.prog .neq 113 xo yo (.fn f a b) .nilf = some (.bool true) := by kernel_rfl
attribute [go_sem] ne_113
theorem ne_113_n (xo yo : Operand) : binT Go.Proofs.Try.prog .neq 113 xo yo .nilf .nilf = some (.bool false) := by kernel_rfl
attribute [go_sem] ne_113_n
theorem sz_114 : szOf Go.Proofs.Try.prog 114 = some 4 := by kernel_rfl
attribute [go_sem] sz_114
theorem ld_114 (h : H) (id off : Nat) : loadT Go.Proofs.Try.prog h 114 id off = @thn _ _ (h.blk id) ⟨fun b => (b.loadN off 4).map .agg⟩ := by kernel_rfl
attribute [go_sem] ld_114
theorem st_114 (h : H) (id off : Nat) (v : CV) : storeT Go.Proofs.Try.prog h 114 id off v = @thn _ _ (h.blk id) ⟨fun b => cond (Nat.beq v.cells.length 4 && !b.ro) ((b.storeA off v.cells).map fun b' => h.put id (.cells b')) none⟩ := by kernel_rfl
attribute [go_sem] st_114
theorem part_114 (cs : List CV) (off : Nat) : partT Go.Proofs.Try.prog 114 cs off = some (.agg ((cs.drop off).take 4)) := by kernel_rfl
attribute [go_sem] part_114
theorem ze_114 : zeroT Go.Proofs.Try.prog 114 = some (.agg [.int .u64 0, .int .i64 0, .bool false, .bool false]) := by kernel_rfl
attribute [go_sem] ze_114
theorem bt_114 (parts : List (Nat × CV)) : buildT Go.Proofs.Try.prog 114 parts = finB (CV.cells (.agg [.int .u64 0, .int .i64 0, .bool false, .bool false])) (nth [(0, 1), (1, 1), (2, 1), (3, 1)]) parts := by kernel_rfl
attribute [go_sem] bt_114
theorem fa_114_0 (id off : Nat) : fieldAddrT Go.Proofs.Try.prog 114 (.ptr id off) 0 = some (.ptr id (off)) := by kernel_rfl
attribute [go_sem] fa_114_0
theorem fd_114_0 (cs : List CV) : fieldT Go.Proofs.Try.prog 114 (.agg cs) 0 = partT Go.Proofs.Try.prog 22 cs 0 := by kernel_rfl
attribute [go_sem] fd_114_0
theorem fa_114_1 (id off : Nat) : fieldAddrT Go.Proofs.Try.prog 114 (.ptr id off) 1 = some (.ptr id (off + 1)) := by kernel_rfl
attribute [go_sem] fa_114_1
theorem fd_114_1 (cs : List CV) : fieldT Go.Proofs.Try.prog 114 (.agg cs) 1 = partT Go.Proofs.Try.prog 3 cs 1 := by kernel_rfl
attribute [go_sem] fd_114_1
theorem fa_114_2 (id off : Nat) : fieldAddrT Go.Proofs.Try.prog 114 (.ptr id off) 2 = some (.ptr id (off + 2)) := by kernel_rfl
attribute [go_sem] fa_114_2
theorem fd_114_2 (cs : List CV) : fieldT Go.Proofs.Try.prog 114 (.agg cs) 2 = partT Go.Proofs.Try.prog 4 cs 2 := by kernel_rfl
attribute [go_sem] fd_114_2
theorem fa_114_3 (id off : Nat) : fieldAddrT Go.Proofs.Try.prog 114 (.ptr id off) 3 = some (.ptr id (off + 3)) := by kernel_rfl
attribute [go_sem] fa_114_3
theorem fd_114_3 (cs : List CV) : fieldT Go.Proofs.Try.prog 114 (.agg cs) 3 = partT Go.Proofs.Try.prog 4 cs 3 := by kernel_rfl
attribute [go_sem] fd_114_3
theorem sz_115 : szOf Go.Proofs.Try.prog 115 = some 4 := by kernel_rfl
attribute [go_sem] sz_115
theorem ld_115 (h : H) (id off : Nat) : loadT Go.Proofs.Try.prog h 115 id off = @thn _ _ (h.blk id) ⟨fun b => (b.loadN off 4).map .agg⟩ := by kernel_rfl
attribute [go_sem] ld_115
theorem st_115 (h : H) (id off : Nat) (v : CV) : storeT Go.Proofs.Try.prog h 115 id off v = @thn _ _ (h.blk id) ⟨fun b => cond (Nat.beq v.cells.length 4 && !b.ro) ((b.storeA off v.cells).map fun b' => h.put id (.cells b')) none⟩ := by kernel_rfl
attribute [go_sem] st_115
theorem part_115 (cs : List CV) (off : Nat) : partT Go.Proofs.Try.prog 115 cs off = some (.agg ((cs.drop off).take 4)) := by kernel_rfl
attribute [go_sem] part_115
theorem ze_115 : zeroT Go.Proofs.Try.prog 115 = some (.agg [.int .u64 0, .int .i64 0, .bool false, .bool false]) := by kernel_rfl
attribute [go_sem] ze_115
theorem bt_115 (parts : List (Nat × CV)) : buildT Go.Proofs.Try.prog 115 parts = finB (CV.cells (.agg [.int .u64 0, .int .i64 0, .bool false, .bool false])) (nth [(0, 1), (1, 1), (2, 1), (3, 1)]) parts := by kernel_rfl
attribute [go_sem] bt_115
theorem fa_115_0 (id off : Nat) : fieldAddrT Go.Proofs.Try.prog 115 (.ptr id off) 0 = some (.ptr id (off)) := by kernel_rfl
attribute [go_sem] fa_115_0
theorem fd_115_0 (cs : List CV) : fieldT Go.Proofs.Try.prog 115 (.agg cs) 0 = partT Go.Proofs.Try.prog 22 cs 0 := by kernel_rfl
attribute [go_sem] fd_115_0
theorem fa_115_1 (id off : Nat) : fieldAddrT Go.Proofs.Try.prog 115 (.ptr id off) 1 = some (.ptr id (off + 1)) := by kernel_rfl
attribute [go_sem] fa_115_1
theorem fd_115_1 (cs : List CV) : fieldT Go.Proofs.Try.prog 115 (.agg cs) 1 = partT Go.Proofs.Try.prog 3 cs 1 := by kernel_rfl
attribute [go_sem] fd_115_1
theorem fa_115_2 (id off : Nat) : fieldAddrT Go.Proofs.Try.prog 115 (.ptr id off) 2 = some (.ptr id (off + 2)) := by kernel_rfl
attribute [go_sem] fa_115_2
theorem fd_115_2 (cs : List CV) : fieldT Go.Proofs.Try.prog 115 (.agg cs) 2 = partT Go.Proofs.Try.prog 4 cs 2 := by kernel_rfl
attribute [go_sem] fd_115_2
theorem fa_115_3 (id off : Nat) : fieldAddrT Go.Proofs.Try.prog 115 (.ptr id off) 3 = some (.ptr id (off + 3)) := by kernel_rfl
attribute [go_sem] fa_115_3
theorem fd_115_3 (cs : List CV) : fieldT Go.Proofs.Try.prog 115 (.agg cs) 3 = partT Go.Proofs.Try.prog 4 cs 3 := by kernel_rfl
attribute [go_sem] fd_115_3
theorem sz_116 : szOf Go.Proofs.Try.prog 116 = some 1 := by kernel_rfl
attribute [go_sem] sz_116
theorem ld_116 (h : H) (id off : Nat) : loadT Go.Proofs.Try.prog h 116 id off = @thn _ _ (h.blk id) ⟨fun b => b.get off⟩ := by kernel_rfl
attribute [go_sem] ld_116
theorem st_116 (h : H) (id off : Nat) (v : CV) : storeT Go.Proofs.Try.prog h 116 id off v = @thn _ _ (h.blk id) ⟨fun b => cond (Nat.beq v.cells.length 1 && !b.ro) ((b.storeA off v.cells).map fun b' => h.put id (.cells b')) none⟩ := by kernel_rfl
attribute [go_sem] st_116
theorem part_116 (cs : List CV) (off : Nat) : partT Go.Proofs.Try.prog 116 cs off = nth cs off := by kernel_rfl
attribute [go_sem] part_116
theorem ze_116 : zeroT Go.Proofs.Try.prog 116 = some (.nilf) := by kernel_rfl
attribute [go_sem] ze_116
theorem eq_116 (xo yo : Operand) (f : Fn) (a b : List CV) : binT Go.Proofs.Try.prog .eql 116 xo yo (.fn f a b) .nilf = some (.bool false) := by kernel_rfl
attribute [go_sem] eq_116
theorem eq_116_n (xo yo : Operand) : binT Go.Proofs.Try.prog .eql 116 xo yo .nilf .nilf = some (.bool true) := by kernel_rfl
attribute [go_sem] eq_116_n
theorem ne_116 (xo yo : Operand) (f : Fn) (a b : List CV) : binT Go.Proofs.Try.prog .neq 116 xo yo (.fn f a b) .nilf = some (.bool true) := by kernel_rfl
attribute [go_sem] ne_116
theorem ne_116_n (xo yo : Operand) : binT Go.Proofs.Try.prog .neq 116 xo yo .nilf .nilf = some (.bool false) := by kernel_rfl
attribute [go_sem] ne_116_n
theorem sz_117 : szOf Go.Proofs.Try.prog 117 = some 1 := by kernel_rfl
attribute [go_sem] sz_117
theorem ld_117 (h : H) (id off : Nat) : loadT Go.Proofs.Try.prog h 117 id off = @thn _ _ (h.blk id) ⟨fun b => b.get off⟩ := by kernel_rfl
attribute [go_sem] ld_117
theorem st_117 (h : H) (id off : Nat) (v : CV) : storeT Go.Proofs.Try.prog h 117 id off v = @thn _ _ (h.blk id) ⟨fun b => cond (Nat.beq v.cells.length 1 && !b.ro) ((b.storeA off v.cells).map fun b' => h.put id (.cells b')) none⟩ := by kernel_rfl
attribute [go_sem] st_117
theorem part_117 (cs : List CV) (off : Nat) : partT Go.Proofs.Try.prog 117 cs off = nth cs off := by kernel_rfl
attribute [go_sem] part_117
theorem ze_117 : zeroT Go.Proofs.Try.prog 117 = some (.nilp) := by kernel_rfl
attribute [go_sem] ze_117
theorem eq_117 (xo yo : Operand) (a b : Nat) : binT Go.Proofs.Try.prog .eql 117 xo yo (.ptr a b) .nilp = some (.bool false) := by kernel_rfl
attribute [go_sem] eq_117
theorem eq_117_n (xo yo : Operand) : binT Go.Proofs.Try.prog .eql 117 xo yo .nilp .nilp = some (.bool true) := by kernel_rfl
attribute [go_sem] eq_117_n
theorem ne_117 (xo yo : Operand) (a b : Nat) : binT Go.Proofs.Try.prog .neq 117 xo yo (.ptr a b) .nilp = some (.bool true) := by kernel_rfl
attribute [go_sem] ne_117
theorem ne_117_n (xo yo : Operand) : binT Go.Proofs.Try.prog .neq 117 xo yo .nilp .nilp = some (.bool false) := by kernel_rfl
attribute [go_sem] ne_117_n
theorem sz_118 : szOf Go.Proofs.Try.prog 118 = some 2 := by kernel_rfl
attribute [go_sem] sz_118
theorem ld_118 (h : H) (id off : Nat) : loadT Go.Proofs.Try.prog h 118 id off = @thn _ _ (h.blk id) ⟨fun b => (b.loadN off 2).map .agg⟩ := by kernel_rfl
attribute [go_sem] ld_118
theorem st_118 (h : H) (id off : Nat) (v : CV) : storeT Go.Proofs.Try.prog h 118 id off v = @thn _ _ (h.blk id) ⟨fun b => cond (Nat.beq v.cells.length 2 && !b.ro) ((b.storeA off v.cells).map fun b' => h.put id (.cells b')) none⟩ := by kernel_rfl
attribute [go_sem] st_118
theorem part_118 (cs : List CV) (off : Nat) : partT Go.Proofs.Try.prog 118 cs off = some (.agg ((cs.drop off).take 2)) := by kernel_rfl
attribute [go_sem] part_118
theorem ze_118 : zeroT Go.Proofs.Try.prog 118 = some (.agg [.int .i64 0, .int .i64 0]) := by kernel_rfl
attribute [go_sem] ze_118
theorem bt_118 (parts : List (Nat × CV)) : buildT Go.Proofs.Try.prog 118 parts = finB (CV.cells (.agg [.int .i64 0, .int .i64 0])) (nth [(0, 1), (1, 1)]) parts := by kernel_rfl
attribute [go_sem] bt_118
theorem fa_118_0 (id off : Nat) : fieldAddrT Go.Proofs.Try.prog 118 (.ptr id off) 0 = some (.ptr id (off)) := by kernel_rfl
attribute [go_sem] fa_118_0
theorem fd_118_0 (cs : List CV) : fieldT Go.Proofs.Try.prog 118 (.agg cs) 0 = partT Go.Proofs.Try.prog 3 cs 0 := by kernel_rfl
attribute [go_sem] fd_118_0
theorem fa_118_1 (id off : Nat) : fieldAddrT Go.Proofs.Try.prog 118 (.ptr id off) 1 = some (.ptr id (off + 1)) := by kernel_rfl
attribute [go_sem] fa_118_1
theorem fd_118_1 (cs : List CV) : fieldT Go.Proofs.Try.prog 118 (.agg cs) 1 = partT Go.Proofs.Try.prog 3 cs 1 := by kernel_rfl
attribute [go_sem] fd_118_1
theorem sz_119 : szOf Go.Proofs.Try.prog 119 = some 2 := by kernel_rfl
attribute [go_sem] sz_119
theorem ld_119 (h : H) (id off : Nat) : loadT Go.Proofs.Try.prog h 119 id off = @thn _ _ (h.blk id) ⟨fun b => (b.loadN off 2).map .agg⟩ := by kernel_rfl
attribute [go_sem] ld_119
theorem st_119 (h : H) (id off : Nat) (v : CV) : storeT Go.Proofs.Try.prog h 119 id off v = @thn _ _ (h.blk id) ⟨fun b => cond (Nat.beq v.cells.length 2 && !b.ro) ((b.storeA off v.cells).map fun b' => h.put id (.cells b')) none⟩ := by kernel_rfl
attribute [go_sem] st_119
theorem part_119 (cs : List CV) (off : Nat) : partT Go.Proofs.Try.prog 119 cs off = some (.agg ((cs.drop off).take 2)) := by kernel_rfl
attribute [go_sem] part_119
theorem ze_119 : zeroT Go.Proofs.Try.prog 119 = some (.agg [.int .i64 0, .int .i64 0]) := by kernel_rfl
attribute [go_sem] ze_119
theorem bt_119 (parts : List (Nat × CV)) : buildT Go.Proofs.Try.prog 119 parts = finB (CV.cells (.agg [.int .i64 0, .int .i64 0])) (nth [(0, 1), (1, 1)]) parts := by kernel_rfl
attribute [go_sem] bt_119
theorem fa_119_0 (id off : Nat) : fieldAddrT Go.Proofs.Try.prog 119 (.ptr id off) 0 = some (.ptr id (off)) := by kernel_rfl
attribute [go_sem] fa_119_0
theorem fd_119_0 (cs : List CV) : fieldT Go.Proofs.Try.prog 119 (.agg cs) 0 = partT Go.Proofs.Try.prog 3 cs 0 := by kernel_rfl
attribute [go_sem] fd_119_0
theorem fa_119_1 (id off : Nat) : fieldAddrT Go.Proofs.Try.prog 119 (.ptr id off) 1 = some (.ptr id (off + 1)) := by kernel_rfl
attribute [go_sem] fa_119_1
theorem fd_119_1 (cs : List CV) : fieldT Go.Proofs.Try.prog 119 (.agg cs) 1 = partT Go.Proofs.Try.prog 3 cs 1 := by kernel_rfl
attribute [go_sem] fd_119_1
theorem sz_120 : szOf Go.Proofs.Try.prog 120 = some 128 := by kernel_rfl
attribute [go_sem] sz_120
theorem ld_120 (h : H) (id off : Nat) : loadT Go.Proofs.Try.prog h 120 id off = @thn _ _ (h.blk id) ⟨fun b => (b.loadN off 128).map .agg⟩ := by kernel_rfl
attribute [go_sem] ld_120
theorem st_120 (h : H) (id off : Nat) (v : CV) : storeT Go.Proofs.Try.prog h 120 id off v = @thn _ _ (h.blk id) ⟨fun b => cond (Nat.beq v.cells.length 128 && !b.ro) ((b.storeA off v.cells).map fun b' => h.put id (.cells b')) none⟩ := by kernel_rfl
attribute [go_sem] st_120
theorem part_120 (cs : List CV) (off : Nat) : partT Go.Proofs.Try.prog 120 cs off = some (.agg ((cs.drop off).take 128)) := by kernel_rfl
attribute [go_sem] part_120
theorem ia_120 (id off k : Nat) (kd : IntKind) : indexAddrT Go.Proofs.Try.prog 120 (.ptr id off) (.int kd (Int.ofNat k)) = cond (Nat.blt k 64) (some (.ptr id (off + k * 2))) none := by kernel_rfl
attribute [go_sem] ia_120
theorem ix_120 (cs : List CV) (k : Nat) (kd : IntKind) : indexT Go.Proofs.Try.prog 120 (.agg cs) (.int kd (Int.ofNat k)) = cond (Nat.blt k 64) (partT Go.Proofs.Try.prog 119 cs (k * 2)) none := by kernel_rfl
attribute [go_sem] ix_120
theorem len_120 (h : H) (ts : List TypeId) (az : List CV) (a : CV) : builtinT Go.Proofs.Try.prog h .len (120 :: ts) (a :: az) = some (.val (.int .i64 64)) := by kernel_rfl
attribute [go_sem] len_120
theorem sz_121 : szOf Go.Proofs.Try.prog 121 = some 132 := by kernel_rfl
attribute [go_sem] sz_121
theorem ld_121 (h : H) (id off : Nat) : loadT Go.Proofs.Try.prog h 121 id off = @thn _ _ (h.blk id) ⟨fun b => (b.loadN off 132).map .agg⟩ := by kernel_rfl
attribute [go_sem] ld_121
theorem st_121 (h : H) (id off : Nat) (v : CV) : storeT Go.Proofs.Try.prog h 121 id off v = @thn _ _ (h.blk id) ⟨fun b => cond (Nat.beq v.cells.length 132 && !b.ro) ((b.storeA off v.cells).map fun b' => h.put id (.cells b')) none⟩ := by kernel_rfl
attribute [go_sem] st_121
theorem part_121 (cs : List CV) (off : Nat) : partT Go.Proofs.Try.prog 121 cs off = some (.agg ((cs.drop off).take 132)) := by kernel_rfl
attribute [go_sem] part_121
theorem fa_121_0 (id off : Nat) : fieldAddrT Go.Proofs.Try.prog 121 (.ptr id off) 0 = some (.ptr id (off)) := by kernel_rfl
attribute [go_sem] fa_121_0
theorem fd_121_0 (cs : List CV) : fieldT Go.Proofs.Try.prog 121 (.agg cs) 0 = partT Go.Proofs.Try.prog 120 cs 0 := by kernel_rfl
attribute [go_sem] fd_121_0
theorem fa_121_1 (id off : Nat) : fieldAddrT Go.Proofs.Try.prog 121 (.ptr id off) 1 = some (.ptr id (off + 128)) := by kernel_rfl
attribute [go_sem] fa_121_1
theorem fd_121_1 (cs : List CV) : fieldT Go.Proofs.Try.prog 121 (.agg cs) 1 = partT Go.Proofs.Try.prog 119 cs 128 := by kernel_rfl
attribute [go_sem] fd_121_1
theorem fa_121_2 (id off : Nat) : fieldAddrT Go.Proofs.Try.prog 121 (.ptr id off) 2 = some (.ptr id (off + 130)) := by kernel_rfl
attribute [go_sem] fa_121_2
theorem fd_121_2 (cs : List CV) : fieldT Go.Proofs.Try.prog 121 (.agg cs) 2 = partT Go.Proofs.Try.prog 119 cs 130 := by kernel_rfl
attribute [go_sem] fd_121_2
theorem sz_122 : szOf Go.Proofs.Try.prog 122 = some 132 := by kernel_rfl
attribute [go_sem] sz_122
theorem ld_122 (h : H) (id off : Nat) : loadT Go.Proofs.Try.prog h 122 id off = @thn _ _ (h.blk id) ⟨fun b => (b.loadN off 132).map .agg⟩ := by kernel_rfl
attribute [go_sem] ld_122
theorem st_122 (h : H) (id off : Nat) (v : CV) : storeT Go.Proofs.Try.prog h 122 id off v = @thn _ _ (h.blk id) ⟨fun b => cond (Nat.beq v.cells.length 132 && !b.ro) ((b.storeA off v.cells).map fun b' => h.put id (.cells b')) none⟩ := by kernel_rfl
attribute [go_sem] st_122
theorem part_122 (cs : List CV) (off : Nat) : partT Go.Proofs.Try.prog 122 cs off = some (.agg ((cs.drop off).take 132)) := by kernel_rfl
attribute [go_sem] part_122
theorem fa_122_0 (id off : Nat) : fieldAddrT Go.Proofs.Try.prog 122 (.ptr id off) 0 = some (.ptr id (off)) := by kernel_rfl
attribute [go_sem] fa_122_0
theorem fd_122_0 (cs : List CV) : fieldT Go.Proofs.Try.prog 122 (.agg cs) 0 = partT Go.Proofs.Try.prog 120 cs 0 := by kernel_rfl
attribute [go_sem] fd_122_0
theorem fa_122_1 (id off : Nat) : fieldAddrT Go.Proofs.Try.prog 122 (.ptr id off) 1 = some (.ptr id (off + 128)) := by kernel_rfl
attribute [go_sem] fa_122_1
theorem fd_122_1 (cs : List CV) : fieldT Go.Proofs.Try.prog 122 (.agg cs) 1 = partT Go.Proofs.Try.prog 119 cs 128 := by kernel_rfl
attribute [go_sem] fd_122_1
theorem fa_122_2 (id off : Nat) : fieldAddrT Go.Proofs.Try.prog 122 (.ptr id off) 2 = some (.ptr id (off + 130)) := by kernel_rfl
attribute [go_sem] fa_122_2
theorem fd_122_2 (cs : List CV) : fieldT Go.Proofs.Try.prog 122 (.agg cs) 2 = partT Go.Proofs.Try.prog 119 cs 130 := by kernel_rfl
attribute [go_sem] fd_122_2
theorem sz_123 : szOf Go.Proofs.Try.prog 123 = some 1 := by kernel_rfl
attribute [go_sem] sz_123
theorem ld_123 (h : H) (id off : Nat) : loadT Go.Proofs.Try.prog h 123 id off = @thn _ _ (h.blk id) ⟨fun b => b.get off⟩ := by kernel_rfl
attribute [go_sem] ld_123
theorem st_123 (h : H) (id off : Nat) (v : CV) : storeT Go.Proofs.Try.prog h 123 id off v = @thn _ _ (h.blk id) ⟨fun b => cond (Nat.beq v.cells.length 1 && !b.ro) ((b.storeA off v.cells).map fun b' => h.put id (.cells b')) none⟩ := by kernel_rfl
attribute [go_sem] st_123
theorem part_123 (cs : List CV) (off : Nat) : partT Go.Proofs.Try.prog 123 cs off = nth cs off := by kernel_rfl
attribute [go_sem] part_123
theorem ze_123 : zeroT Go.Proofs.Try.prog 123 = some (.nilf) := by kernel_rfl
attribute [go_sem] ze_123
theorem eq_123 (xo yo : Operand) (f : Fn) (a b : List CV) : binT Go.Proofs.Try.prog .eql 123 xo yo (.fn f a b) .nilf = some (.bool false) := by kernel_rfl
attribute [go_sem] eq_123
theorem eq_123_n (xo yo : Operand) : binT Go.Proofs.Try.prog .eql 123 xo yo .nilf .nilf = some (.bool true) := by kernel_rfl
attribute [go_sem] eq_123_n
theorem ne_123 (xo yo : Operand) (f : Fn) (a b : List CV) : binT Go.Proofs.Try.prog .neq 123 xo yo (.fn f a b) .nilf = some (.bool true) := by kernel_rfl
attribute [go_sem] ne_123
theorem ne_123_n (xo yo : Operand) : binT Go.Proofs.Try.prog .neq 123 xo yo .nilf .nilf = some (.bool false) := by kernel_rfl
attribute [go_sem] ne_123_n
theorem sz_124 : szOf Go.Proofs.Try.prog 124 = some 1 := by kernel_rfl
attribute [go_sem] sz_124
theorem ld_124 (h : H) (id off : Nat) : loadT Go.Proofs.Try.prog h 124 id off = @thn _ _ (h.blk id) ⟨fun b => b.get off⟩ := by kernel_rfl
attribute [go_sem] ld_124
theorem st_124 (h : H) (id off : Nat) (v : CV) : storeT Go.Proofs.Try.prog h 124 id off v = @thn _ _ (h.blk id) ⟨fun b => cond (Nat.beq v.cells.length 1 && !b.ro) ((b.storeA off v.cells).map fun b' => h.put id (.cells b')) none⟩ := by kernel_rfl
attribute [go_sem] st_124
theorem part_124 (cs : List CV) (off : Nat) : partT Go.Proofs.Try.prog 124 cs off = nth cs off := by kernel_rfl
attribute [go_sem] part_124
theorem ze_124 : zeroT Go.Proofs.Try.prog 124 = some (.nilf) := by kernel_rfl
attribute [go_sem] ze_124
theorem eq_124 (xo yo : Operand) (f : Fn) (a b : List CV) : binT Go.Proofs.Try.prog .eql 124 xo yo (.fn f a b) .nilf = some (.bool false) := by kernel_rfl
attribute [go_sem] eq_124
theorem eq_124_n (xo yo : Operand) : binT Go.Proofs.Try.prog .eql 124 xo yo .nilf .nilf = some (.bool true) := by kernel_rfl
attribute [go_sem] eq_124_n
theorem ne_124 (xo yo : Operand) (f : Fn) (a b : List CV) : binT Go.Proofs.Try.prog .neq 124 xo yo (.fn f a b) .nilf = some (.bool true) := by kernel_rfl
attribute [go_sem] ne_124
theorem ne_124_n (xo yo : Operand) : binT Go.Proofs.Try.prog .neq 124 xo yo .nilf .nilf = some (.bool false) := by kernel_rfl
attribute [go_sem] ne_124_n
theorem sz_125 : szOf Go.Proofs.Try.prog 125 = some 1 := by kernel_rfl
attribute [go_sem] sz_125
theorem ld_125 (h : H) (id off : Nat) : loadT Go.Proofs.Try.prog h 125 id off = @thn _ _ (h.blk id) ⟨fun b => b.get off⟩ := by kernel_rfl
attribute [go_sem] ld_125
theorem st_125 (h : H) (id off : Nat) (v : CV) : storeT Go.Proofs.Try.prog h 125 id off v = @thn _ _ (h.blk id) ⟨fun b => cond (Nat.beq v.cells.length 1 && !b.ro) ((b.storeA off v.cells).map fun b' => h.put id (.cells b')) none⟩ := by kernel_rfl
attribute [go_sem] st_125
theorem part_125 (cs : List CV) (off : Nat) : partT Go.Proofs.Try.prog 125 cs off = nth cs off := by kernel_rfl
attribute [go_sem] part_125
theorem ze_125 : zeroT Go.Proofs.Try.prog 125 = some (.nilf) := by kernel_rfl
attribute [go_sem] ze_125
theorem eq_125 (xo yo : Operand) (f : Fn) (a b : List CV) : binT Go.Proofs.Try.prog .eql 125 xo yo (.fn f a b) .nilf = some (.bool false) := by kernel_rfl
attribute [go_sem] eq_125
theorem eq_125_n (xo yo : Operand) : binT Go.Proofs.Try.prog .eql 125 xo yo .nilf .nilf = some (.bool true) := by kernel_rfl
attribute [go_sem] eq_125_n
theorem ne_125 (xo yo : Operand) (f : Fn) (a b : List CV) : binT Go.Proofs.Try.prog .neq 125 xo yo (.fn f a b) .nilf = some (.bool true) := by kernel_rfl
attribute [go_sem] ne_125
theorem ne_125_n (xo yo : Operand) : binT Go.Proofs.Try.prog .neq 125 xo yo .nilf .nilf = some (.bool false) := by kernel_rfl
attribute [go_sem] ne_125_n
theorem sz_126 : szOf Go.Proofs.Try.prog 126 = some 1 := by kernel_rfl
attribute [go_sem] sz_126
theorem ld_126 (h : H) (id off : Nat) : loadT Go.Proofs.Try.prog h 126 id off = @thn _ _ (h.blk id) ⟨fun b => b.get off⟩ := by kernel_rfl
attribute [go_sem] ld_126
theorem st_126 (h : H) (id off : Nat) (v : CV) : storeT Go.Proofs.Try.prog h 126 id off v = @thn _ _ (h.blk id) ⟨fun b => cond (Nat.beq v.cells.length 1 && !b.ro) ((b.storeA off v.cells).map fun b' => h.put id (.cells b')) none⟩ := by kernel_rfl
attribute [go_sem] st_126
theorem part_126 (cs : List CV) (off : Nat) : partT Go.Proofs.Try.prog 126 cs off = nth cs off := by kernel_rfl
attribute [go_sem] part_126
theorem ze_126 : zeroT Go.Proofs.Try.prog 126 = some (.nilp) := by kernel_rfl
attribute [go_sem] ze_126
theorem eq_126 (xo yo : Operand) (a b : Nat) : binT Go.Proofs.Try.prog .eql 126 xo yo (.ptr a b) .nilp = some (.bool false) := by kernel_rfl
attribute [go_sem] eq_126
theorem eq_126_n (xo yo : Operand) : binT Go.Proofs.Try.prog .eql 126 xo yo .nilp .nilp = some (.bool true) := by kernel_rfl
attribute [go_sem] eq_126_n
theorem ne_126 (xo yo : Operand) (a b : Nat) : binT Go.Proofs.Try.prog .neq 126 xo yo (.ptr a b) .nilp = some (.bool true) := by kernel_rfl
attribute [go_sem] ne_126
theorem ne_126_n (xo yo : Operand) : binT Go.Proofs.Try.prog .neq 126 xo yo .nilp .nilp = some (.bool false) := by kernel_rfl
attribute [go_sem] ne_126_n
theorem sz_127 : szOf Go.Proofs.Try.prog 127 = some 1 := by kernel_rfl
attribute [go_sem] sz_127
theorem ld_127 (h : H) (id off : Nat) : loadT Go.Proofs.Try.prog h 127 id off = @thn _ _ (h.blk id) ⟨fun b => b.get off⟩ := by kernel_rfl
attribute [go_sem] ld_127
theorem st_127 (h : H) (id off : Nat) (v : CV) : storeT Go.Proofs.Try.prog h 127 id off v = @thn _ _ (h.blk id) ⟨fun b => cond (Nat.beq v.cells.length 1 && !b.ro) ((b.storeA off v.cells).map fun b' => h.put id (.cells b')) none⟩ := by kernel_rfl
attribute [go_sem] st_127
theorem part_127 (cs : List CV) (off : Nat) : partT Go.Proofs.Try.prog 127 cs off = nth cs off := by kernel_rfl
attribute [go_sem] part_127
theorem ze_127 : zeroT Go.Proofs.Try.prog 127 = some (.nilf) := by kernel_rfl
attribute [go_sem] ze_127
theorem eq_127 (xo yo : Operand) (f : Fn) (a b : List CV) : binT Go.Proofs.Try.prog .eql 127 xo yo (.fn f a b) .nilf = some (.bool false) := by kernel_rfl
attribute [go_sem] eq_127
theorem eq_127_n (xo yo : Operand) : binT Go.Proofs.Try.prog .eql 127 xo yo .nilf .nilf = some (.bool true) := by kernel_rfl
attribute [go_sem] eq_127_n
theorem ne_127 (xo yo : Operand) (f : Fn) (a b : List CV) : binT Go.Proofs.Try.prog .neq 127 xo yo (.fn f a b) .nilf = some (.bool true) := by kernel_rfl
attribute [go_sem] ne_127
theorem ne_127_n (xo yo : Operand) : binT Go.Proofs.Try.prog .neq 127 xo yo .nilf .nilf = some (.bool false) := by kernel_rfl
attribute [go_sem] ne_127_n
theorem sz_128 : szOf Go.Proofs.Try.prog 128 = some 1 := by kernel_rfl
attribute [go_sem] sz_128
theorem ld_128 (h : H) (id off : Nat) : loadT Go.Proofs.Try.prog h 128 id off = @thn _ _ (h.blk id) ⟨fun b => b.get off⟩ := by kernel_rfl
attribute [go_sem] ld_128
theorem st_128 (h : H) (id off : Nat) (v : CV) : storeT Go.Proofs.Try.prog h 128 id off v = @thn _ _ (h.blk id) ⟨fun b => cond (Nat.beq v.cells.length 1 && !b.ro) ((b.storeA off v.cells).map fun b' => h.put id (.cells b')) none⟩ := by kernel_rfl
attribute [go_sem] st_128
theorem part_128 (cs : List CV) (off : Nat) : partT Go.Proofs.Try.prog 128 cs off = nth cs off := by kernel_rfl
attribute [go_sem] part_128
theorem ze_128 : zeroT Go.Proofs.Try.prog 128 = some (.nilf) := by kernel_rfl
attribute [go_sem] ze_128
theorem eq_128 (xo yo : Operand) (f : Fn) (a b : List CV) : binT Go.Proofs.Try.prog .eql 128 xo yo (.fn f a b) .nilf = some (.bool false) := by kernel_rfl
attribute [go_sem] eq_128
theorem eq_128_n (xo yo : Operand) : binT Go.Proofs.Try.prog .eql 128 xo yo .nilf .nilf = some (.bool true) := by kernel_rfl
attribute [go_sem] eq_128_n
theorem ne_128 (xo yo : Operand) (f : Fn) (a b : List CV) : binT Go.Proofs.Try.prog .neq 128 xo yo (.fn f a b) .nilf = some (.bool true) := by kernel_rfl
attribute [go_sem] ne_128
theorem ne_128_n (xo yo : Operand) : binT Go.Proofs.Try.prog .neq 128 xo yo .nilf .nilf = some (.bool false) := by kernel_rfl
attribute [go_sem] ne_128_n
theorem sz_129 : szOf Go.Proofs.Try.prog 129 = some 1 := by kernel_rfl
attribute [go_sem] sz_129
theorem ld_129 (h : H) (id off : Nat) : loadT Go.Proofs.Try.prog h 129 id off = @thn _ _ (h.blk id) ⟨fun b => b.get off⟩ := by kernel_rfl
attribute [go_sem] ld_129
theorem st_129 (h : H) (id off : Nat) (v : CV) : storeT Go.Proofs.Try.prog h 129 id off v = @thn _ _ (h.blk id) ⟨fun b => cond (Nat.beq v.cells.length 1 && !b.ro) ((b.storeA off v.cells).map fun b' => h.put id (.cells b')) none⟩ := by kernel_rfl
attribute [go_sem] st_129
theorem part_129 (cs : List CV) (off : Nat) : partT Go.Proofs.Try.prog 129 cs off = nth cs off := by kernel_rfl
attribute [go_sem] part_129
theorem ze_129 : zeroT Go.Proofs.Try.prog 129 = some (.nilf) := by kernel_rfl
attribute [go_sem] ze_129
theorem eq_129 (xo yo : Operand) (f : Fn) (a b : List CV) : binT Go.Proofs.Try.prog .eql 129 xo yo (.fn f a b) .nilf = some (.bool false) := by kernel_rfl
attribute [go_sem] eq_129
theorem eq_129_n (xo yo : Operand) : binT Go.Proofs.Try.prog .eql 129 xo yo .nilf .nilf = some (.bool true) := by kernel_rfl
attribute [go_sem] eq_129_n
theorem ne_129 (xo yo : Operand) (f : Fn) (a b : List CV) : binT Go.Proofs.Try.prog .neq 129 xo yo (.fn f a b) .nilf = some (.bool true) := by kernel_rfl
attribute [go_sem] ne_129
theorem ne_129_n (xo yo : Operand) : binT Go.Proofs.Try.prog .neq 129 xo yo .nilf .nilf = some (.bool false) := by kernel_rfl
attribute [go_sem] ne_129_n
theorem sz_130 : szOf Go.Proofs.Try.prog 130 = some 1 := by kernel_rfl
attribute [go_sem] sz_130
theorem ld_130 (h : H) (id off : Nat) : loadT Go.Proofs.Try.prog h 130 id off = @thn _ _ (h.blk id) ⟨fun b => b.get off⟩ := by kernel_rfl
attribute [go_sem] ld_130
theorem st_130 (h : H) (id off : Nat) (v : CV) : storeT Go.Proofs.Try.prog h 130 id off v = @thn _ _ (h.blk id) ⟨fun b => cond (Nat.beq v.cells.length 1 && !b.ro) ((b.storeA off v.cells).map fun b' => h.put id (.cells b')) none⟩ := by kernel_rfl
attribute [go_sem] st_130
theorem part_130 (cs : List CV) (off : Nat) : partT Go.Proofs.Try.prog 130 cs off = nth cs off := by kernel_rfl
attribute [go_sem] part_130
theorem ze_130 : zeroT Go.Proofs.Try.prog 130 = some (.nilf) := by kernel_rfl
attribute [go_sem] ze_130
theorem eq_130 (xo yo : Operand) (f : Fn) (a b : List CV) : binT Go.Proofs.Try.prog .eql 130 xo yo (.fn f a b) .nilf = some (.bool false) := by kernel_rfl
attribute [go_sem] eq_130
theorem eq_130_n (xo yo : Operand) : binT Go.Proofs.Try.prog .eql 130 xo yo .nilf .nilf = some (.bool true) := by kernel_rfl
attribute [go_sem] eq_130_n
theorem ne_130 (xo yo : Operand) (f : Fn) (a b : List CV) : binT Go.Proofs.Try.prog .neq 130 xo yo (.fn f a b) .nilf = some (.bool true) := by kernel_rfl
attribute [go_sem] ne_130
theorem ne_130_n (xo yo : Operand) : binT Go.Proofs.Try.prog .neq 130 xo yo .nilf .nilf = some (.bool false) := by kernel_rfl
attribute [go_sem] ne_130_n
theorem sz_131 : szOf Go.Proofs.Try.prog 131 = some 1 := by kernel_rfl
attribute [go_sem] sz_131
theorem ld_131 (h : H) (id off : Nat) : loadT Go.Proofs.Try.prog h 131 id off = @thn _ _ (h.blk id) ⟨fun b => b.get off⟩ := by kernel_rfl
attribute [go_sem] ld_131
theorem st_131 (h : H) (id off : Nat) (v : CV) : storeT Go.Proofs.Try.prog h 131 id off v = @thn _ _ (h.blk id) ⟨fun b => cond (Nat.beq v.cells.length 1 && !b.ro) ((b.storeA off v.cells).map fun b' => h.put id (.cells b')) none⟩ := by kernel_rfl
attribute [go_sem] st_131
theorem part_131 (cs : List CV) (off : Nat) : partT Go.Proofs.Try.prog 131 cs off = nth cs off := by kernel_rfl
attribute [go_sem] part_131
theorem ze_131 : zeroT Go.Proofs.Try.prog 131 = some (.nilf) := by kernel_rfl
attribute [go_sem] ze_131
theorem eq_131 (xo yo : Operand) (f : Fn) (a b : List CV) : binT Go.Proofs.Try.prog .eql 131 xo yo (.fn f a b) .nilf = some (.bool false) := by kernel_rfl
attribute [go_sem] eq_131
theorem eq_131_n (xo yo : Operand) : binT Go.Proofs.Try.prog .eql 131 xo yo .nilf .nilf = some (.bool true) := by kernel_rfl
attribute [go_sem] eq_131_n
theorem ne_131 (xo yo : Operand) (f : Fn) (a b : List CV) : binT Go.Proofs.Try.prog .neq 131 xo yo (.fn f a b) .nilf = some (.bool true) := by kernel_rfl
attribute [go_sem] ne_131
theorem ne_131_n (xo yo : Operand) : binT Go.Proofs.Try.prog .neq 131 xo yo .nilf .nilf = some (.bool false) := by kernel_rfl
attribute [go_sem] ne_131_n
theorem sz_132 : szOf Go.Proofs.Try.prog 132 = some 1 := by kernel_rfl
attribute [go_sem] sz_132
theorem ld_132 (h : H) (id off : Nat) : loadT Go.Proofs.Try.prog h 132 id off = @thn _ _ (h.blk id) ⟨fun b => b.get off⟩ := by kernel_rfl
attribute [go_sem] ld_132
theorem st_132 (h : H) (id off : Nat) (v : CV) : storeT Go.Proofs.Try.prog h 132 id off v = @thn _ _ (h.blk id) ⟨fun b => cond (Nat.beq v.cells.length 1 && !b.ro) ((b.storeA off v.cells).map fun b' => h.put id (.cells b')) none⟩ := by kernel_rfl
attribute [go_sem] st_132
theorem part_132 (cs : List CV) (off : Nat) : partT Go.Proofs.Try.prog 132 cs off = nth cs off := by kernel_rfl
attribute [go_sem] part_132
theorem ze_132 : zeroT Go.Proofs.Try.prog 132 = some (.nilf) := by kernel_rfl
attribute [go_sem] ze_132
theorem eq_132 (xo yo : Operand) (f : Fn) (a b : List CV) : binT Go.Proofs.Try.prog .eql 132 xo yo (.fn f a b) .nilf = some (.bool false) := by kernel_rfl
attribute [go_sem] eq_132
theorem eq_132_n (xo yo : Operand) : binT Go.Proofs.Try.prog .eql 132 xo yo .nilf .nilf = some (.bool true) := by kernel_rfl
attribute [go_sem] eq_132_n
theorem ne_132 (xo yo : Operand) (f : Fn) (a b : List CV) : binT Go.Proofs.Try.prog .neq 132 xo yo (.fn f a b) .nilf = some (.bool true) := by kernel_rfl
attribute [go_sem] ne_132
theorem ne_132_n (xo yo : Operand) : binT Go.Proofs.Try.prog .neq 132 xo yo .nilf .nilf = some (.bool false) := by kernel_rfl
attribute [go_sem] ne_132_n
theorem sz_133 : szOf Go.Proofs.Try.prog 133 = some 1 := by kernel_rfl
attribute [go_sem] sz_133
theorem ld_133 (h : H) (id off : Nat) : loadT Go.Proofs.Try.prog h 133 id off = @thn _ _ (h.blk id) ⟨fun b => b.get off⟩ := by kernel_rfl
attribute [go_sem] ld_133
theorem st_133 (h : H) (id off : Nat) (v : CV) : storeT Go.Proofs.Try.prog h 133 id off v = @thn _ _ (h.blk id) ⟨fun b => cond (Nat.beq v.cells.length 1 && !b.ro) ((b.storeA off v.cells).map fun b' => h.put id (.cells b')) none⟩ := by kernel_rfl
attribute [go_sem] st_133
theorem part_133 (cs : List CV) (off : Nat) : partT Go.Proofs.Try.prog 133 cs off = nth cs off := by kernel_rfl
attribute [go_sem] part_133
theorem sz_134 : szOf Go.Proofs.Try.prog 134 = some 1 := by kernel_rfl
attribute [go_sem] sz_134
theorem ld_134 (h : H) (id off : Nat) : loadT Go.Proofs.Try.prog h 134 id off = @thn _ _ (h.blk id) ⟨fun b => b.get off⟩ := by kernel_rfl
attribute [go_sem] ld_134
theorem st_134 (h : H) (id off : Nat) (v : CV) : storeT Go.Proofs.Try.prog h 134 id off v = @thn _ _ (h.blk id) ⟨fun b => cond (Nat.beq v.cells.length 1 && !b.ro) ((b.storeA off v.cells).map fun b' => h.put id (.cells b')) none⟩ := by kernel_rfl
attribute [go_sem] st_134
theorem part_134 (cs : List CV) (off : Nat) : partT Go.Proofs.Try.prog 134 cs off = nth cs off := by kernel_rfl
attribute [go_sem] part_134
theorem ze_134 : zeroT Go.Proofs.Try.prog 134 = some (.nilf) := by kernel_rfl
attribute [go_sem] ze_134
theorem eq_134 (xo yo : Operand) (f : Fn) (a b : List CV) : binT Go.Proofs.Try.prog .eql 134 xo yo (.fn f a b) .nilf = some (.bool false) := by kernel_rfl
attribute [go_sem] eq_134
theorem eq_134_n (xo yo : Operand) : binT Go.Proofs.Try.prog .eql 134 xo yo .nilf .nilf = some (.bool true) := by kernel_rfl
attribute [go_sem] eq_134_n
theorem ne_134 (xo yo : Operand) (f : Fn) (a b : List CV) : binT Go.Proofs.Try.prog .neq 134 xo yo (.fn f a b) .nilf = some (.bool true) := by kernel_rfl
attribute [go_sem] ne_134
theorem ne_134_n (xo yo : Operand) : binT Go.Proofs.Try.prog .neq 134 xo yo .nilf .nilf = some (.bool false) := by kernel_rfl
attribute [go_sem] ne_134_n
theorem sz_135 : szOf Go.Proofs.Try.prog 135 = some 1 := by kernel_rfl
attribute [go_sem] sz_135
theorem ld_135 (h : H) (id off : Nat) : loadT Go.Proofs.Try.prog h 135 id off = @thn _ _ (h.blk id) ⟨fun b => b.get off⟩ := by kernel_rfl
attribute [go_sem] ld_135
theorem st_135 (h : H) (id off : Nat) (v : CV) : storeT Go.Proofs.Try.prog h 135 id off v = @thn _ _ (h.blk id) ⟨fun b => cond (Nat.beq v.cells.length 1 && !b.ro) ((b.storeA off v.cells).map fun b' => h.put id (.cells b')) none⟩ := by kernel_rfl
attribute [go_sem] st_135
theorem part_135 (cs : List CV) (off : Nat) : partT Go.Proofs.Try.prog 135 cs off = nth cs off := by kernel_rfl
attribute [go_sem] part_135
theorem ze_135 : zeroT Go.Proofs.Try.prog 135 = some (.nilf) := by kernel_rfl
attribute [go_sem] ze_135
theorem eq_135 (xo yo : Operand) (f : Fn) (a b : List CV) : binT Go.Proofs.Try.prog .eql 135 xo yo (.fn f a b) .nilf = some (.bool false) := by kernel_rfl
attribute [go_sem] eq_135
theorem eq_135_n (xo yo : Operand) : binT Go.Proofs.Try.prog .eql 135 xo yo .nilf .nilf = some (.bool true) := by kernel_rfl
attribute [go_sem] eq_135_n
theorem ne_135 (xo yo : Operand) (f : Fn) (a b : List CV) : binT Go.Proofs.Try.prog .neq 135 xo yo (.fn f a b) .nilf = some (.bool true) := by kernel_rfl
attribute [go_sem] ne_135
theorem ne_135_n (xo yo : Operand) : binT Go.Proofs.Try.prog .neq 135 xo yo .nilf .nilf = some (.bool false) := by kernel_rfl
attribute [go_sem] ne_135_n
theorem sz_136 : szOf Go.Proofs.Try.prog 136 = some 3 := by kernel_rfl
attribute [go_sem] sz_136
theorem ld_136 (h : H) (id off : Nat) : loadT Go.Proofs.Try.prog h 136 id off = @thn _ _ (h.blk id) ⟨fun b => (b.loadN off 3).map .agg⟩ := by kernel_rfl
attribute [go_sem] ld_136
theorem st_136 (h : H) (id off : Nat) (v : CV) : storeT Go.Proofs.Try.prog h 136 id off v = @thn _ _ (h.blk id) ⟨fun b => cond (Nat.beq v.cells.length 3 && !b.ro) ((b.storeA off v.cells).map fun b' => h.put id (.cells b')) none⟩ := by kernel_rfl
attribute [go_sem] st_136
theorem part_136 (cs : List CV) (off : Nat) : partT Go.Proofs.Try.prog 136 cs off = some (.agg ((cs.drop off).take 3)) := by kernel_rfl
attribute [go_sem] part_136
theorem ze_136 : zeroT Go.Proofs.Try.prog 136 = some (.agg [.int .u64 0, .int .u64 0, .int .u64 0]) := by kernel_rfl
attribute [go_sem] ze_136
theorem ia_136 (id off k : Nat) (kd : IntKind) : indexAddrT Go.Proofs.Try.prog 136 (.ptr id off) (.int kd (Int.ofNat k)) = cond (Nat.blt k 3) (some (.ptr id (off + k * 1))) none := by kernel_rfl
attribute [go_sem] ia_136
theorem ix_136 (cs : List CV) (k : Nat) (kd : IntKind) : indexT Go.Proofs.Try.prog 136 (.agg cs) (.int kd (Int.ofNat k)) = cond (Nat.blt k 3) (partT Go.Proofs.Try.prog 22 cs (k * 1)) none := by kernel_rfl
attribute [go_sem] ix_136
theorem len_136 (h : H) (ts : List TypeId) (az : List CV) (a : CV) : builtinT Go.Proofs.Try.prog h .len (136 :: ts) (a :: az) = some (.val (.int .i64 3)) := by kernel_rfl
attribute [go_sem] len_136
theorem bt_136 (parts : List (Nat × CV)) : buildT Go.Proofs.Try.prog 136 parts = finB (CV.cells (.agg [.int .u64 0, .int .u64 0, .int .u64 0])) (fun i => some (i * 1, 1)) parts := by kernel_rfl
attribute [go_sem] bt_136
theorem sz_137 : szOf Go.Proofs.Try.prog 137 = some 1 := by kernel_rfl
attribute [go_sem] sz_137
theorem ld_137 (h : H) (id off : Nat) : loadT Go.Proofs.Try.prog h 137 id off = @thn _ _ (h.blk id) ⟨fun b => b.get off⟩ := by kernel_rfl
attribute [go_sem] ld_137
theorem st_137 (h : H) (id off : Nat) (v : CV) : storeT Go.Proofs.Try.prog h 137 id off v = @thn _ _ (h.blk id) ⟨fun b => cond (Nat.beq v.cells.length 1 && !b.ro) ((b.storeA off v.cells).map fun b' => h.put id (.cells b')) none⟩ := by kernel_rfl
attribute [go_sem] st_137
theorem part_137 (cs : List CV) (off : Nat) : partT Go.Proofs.Try.prog 137 cs off = nth cs off := by kernel_rfl
attribute [go_sem] part_137
theorem ze_137 : zeroT Go.Proofs.Try.prog 137 = some (.nilf) := by kernel_rfl
attribute [go_sem] ze_137
theorem eq_137 (xo yo : Operand) (f : Fn) (a b : List CV) : binT Go.Proofs.Try.prog .eql 137 xo yo (.fn f a b) .nilf = some (.bool false) := by kernel_rfl
attribute [go_sem] eq_137
theorem eq_137_n (xo yo : Operand) : binT Go.Proofs.Try.prog .eql 137 xo yo .nilf .nilf = some (.bool true) := by kernel_rfl
attribute [go_sem] eq_137_n
theorem ne_137 (xo yo : Operand) (f : Fn) (a b : List CV) : binT Go.Proofs.Try.prog .neq 137 xo yo (.fn f a b) .nilf = some (.bool true) := by kernel_rfl
attribute [go_sem] ne_137
theorem ne_137_n (xo yo : Operand) : binT Go.Proofs.Try.prog .neq 137 xo yo .nilf .nilf = some (.bool false) := by kernel_rfl
attribute [go_sem] ne_137_n
theorem sz_138 : szOf Go.Proofs.Try.prog 138 = some 1 := by kernel_rfl
attribute [go_sem] sz_138
theorem ld_138 (h : H) (id off : Nat) : loadT Go.Proofs.Try.prog h 138 id off = @thn _ _ (h.blk id) ⟨fun b => b.get off⟩ := by kernel_rfl
attribute [go_sem] ld_138
theorem st_138 (h : H) (id off : Nat) (v : CV) : storeT Go.Proofs.Try.prog h 138 id off v = @thn _ _ (h.blk id) ⟨fun b => cond (Nat.beq v.cells.length 1 && !b.ro) ((b.storeA off v.cells).map fun b' => h.put id (.cells b')) none⟩ := by kernel_rfl
attribute [go_sem] st_138
theorem part_138 (cs : List CV) (off : Nat) : partT Go.Proofs.Try.prog 138 cs off = nth cs off := by kernel_rfl
attribute [go_sem] part_138
theorem ze_138 : zeroT Go.Proofs.Try.prog 138 = some (.nilf) := by kernel_rfl
attribute [go_sem] ze_138
theorem eq_138 (xo yo : Operand) (f : Fn) (a b : List CV) : binT Go.Proofs.Try.prog .eql 138 xo yo (.fn f a b) .nilf = some (.bool false) := by kernel_rfl
attribute [go_sem] eq_138
theorem eq_138_n (xo yo : Operand) : binT Go.Proofs.Try.prog .eql 138 xo yo .nilf .nilf = some (.bool true) := by kernel_rfl
attribute [go_sem] eq_138_n
theorem ne_138 (xo yo : Operand) (f : Fn) (a b : List CV) : binT Go.Proofs.Try.prog .neq 138 xo yo (.fn f a b) .nilf = some (.bool true) := by kernel_rfl
attribute [go_sem] ne_138
theorem ne_138_n (xo yo : Operand) : binT Go.Proofs.Try.prog .neq 138 xo yo .nilf .nilf = some (.bool false) := by kernel_rfl
attribute [go_sem] ne_138_n
theorem sz_139 : szOf Go.Proofs.Try.prog 139 = some 1 := by kernel_rfl
attribute [go_sem] sz_139
theorem ld_139 (h : H) (id off : Nat) : loadT Go.Proofs.Try.prog h 139 id off = @thn _ _ (h.blk id) ⟨fun b => b.get off⟩ := by kernel_rfl
attribute [go_sem] ld_139
theorem st_139 (h : H) (id off : Nat) (v : CV) : storeT Go.Proofs.Try.prog h 139 id off v = @thn _ _ (h.blk id) ⟨fun b => cond (Nat.beq v.cells.length 1 && !b.ro) ((b.storeA off v.cells).map fun b' => h.put id (.cells b')) none⟩ := by kernel_rfl
attribute [go_sem] st_139
theorem part_139 (cs : List CV) (off : Nat) : partT Go.Proofs.Try.prog 139 cs off = nth cs off := by kernel_rfl
attribute [go_sem] part_139
theorem ze_139 : zeroT Go.Proofs.Try.prog 139 = some (.nilf) := by kernel_rfl
attribute [go_sem] ze_139
theorem eq_139 (xo yo : Operand) (f : Fn) (a b : List CV) : binT Go.Proofs.Try.prog .eql 139 xo yo (.fn f a b) .nilf = some (.bool false) := by kernel_rfl
attribute [go_sem] eq_139
theorem eq_139_n (xo yo : Operand) : binT Go.Proofs.Try.prog .eql 139 xo yo .nilf .nilf = some (.bool true) := by kernel_rfl
attribute [go_sem] eq_139_n
theorem ne_139 (xo yo : Operand) (f : Fn) (a b : List CV) : binT Go.Proofs.Try.prog .neq 139 xo yo (.fn f a b) .nilf = some (.bool true) := by kernel_rfl
attribute [go_sem] ne_139
theorem ne_139_n (xo yo : Operand) : binT Go.Proofs.Try.prog .neq 139 xo yo .nilf .nilf = some (.bool false) := by kernel_rfl
attribute [go_sem] ne_139_n
theorem sz_140 : szOf Go.Proofs.Try.prog 140 = some 1 := by kernel_rfl
attribute [go_sem] sz_140
theorem ld_140 (h : H) (id off : Nat) : loadT Go.Proofs.Try.prog h 140 id off = @thn _ _ (h.blk id) ⟨fun b => b.get off⟩ := by kernel_rfl
attribute [go_sem] ld_140
theorem st_140 (h : H) (id off : Nat) (v : CV) : storeT Go.Proofs.Try.prog h 140 id off v = @thn _ _ (h.blk id) ⟨fun b => cond (Nat.beq v.cells.length 1 && !b.ro) ((b.storeA off v.cells).map fun b' => h.put id (.cells b')) none⟩ := by kernel_rfl
attribute [go_sem] st_140
theorem part_140 (cs : List CV) (off : Nat) : partT Go.Proofs.Try.prog 140 cs off = nth cs off := by kernel_rfl
attribute [go_sem] part_140
theorem ze_140 : zeroT Go.Proofs.Try.prog 140 = some (.nilf) := by kernel_rfl
attribute [go_sem] ze_140
theorem eq_140 (xo yo : Operand) (f : Fn) (a b : List CV) : binT Go.Proofs.Try.prog .eql 140 xo yo (.fn f a b) .nilf = some (.bool false) := by kernel_rfl
attribute [go_sem] eq_140
theorem eq_140_n (xo yo : Operand) : binT Go.Proofs.Try.prog .eql 140 xo yo .nilf .nilf = some (.bool true) := by kernel_rfl
attribute [go_sem] eq_140_n
theorem ne_140 (xo yo : Operand) (f : Fn) (a b : List CV) : binT Go.Proofs.Try.prog .neq 140 xo yo (.fn f a b) .nilf = some (.bool true) := by kernel_rfl
attribute [go_sem] ne_140
theorem ne_140_n (xo yo : Operand) : binT Go.Proofs.Try.prog .neq 140 xo yo .nilf .nilf = some (.bool false) := by kernel_rfl
attribute [go_sem] ne_140_n
theorem sz_141 : szOf Go.Proofs.Try.prog 141 = some 1 := by kernel_rfl
attribute [go_sem] sz_141
theorem ld_141 (h : H) (id off : Nat) : loadT Go.Proofs.Try.prog h 141 id off = @thn _ _ (h.blk id) ⟨fun b => b.get off⟩ := by kernel_rfl
attribute [go_sem] ld_141
theorem st_141 (h : H) (id off : Nat) (v : CV) : storeT Go.Proofs.Try.prog h 141 id off v = @thn _ _ (h.blk id) ⟨fun b => cond (Nat.beq v.cells.length 1 && !b.ro) ((b.storeA off v.cells).map fun b' => h.put id (.cells b')) none⟩ := by kernel_rfl
attribute [go_sem] st_141
theorem part_141 (cs : List CV) (off : Nat) : partT Go.Proofs.Try.prog 141 cs off = nth cs off := by kernel_rfl
attribute [go_sem] part_141
theorem ze_141 : zeroT Go.Proofs.Try.prog 141 = some (.nilf) := by kernel_rfl
attribute [go_sem] ze_141
theorem eq_141 (xo yo : Operand) (f : Fn) (a b : List CV) : binT Go.Proofs.Try.prog .eql 141 xo yo (.fn f a b) .nilf = some (.bool false) := by kernel_rfl
attribute [go_sem] eq_141
theorem eq_141_n (xo yo : Operand) : binT Go.Proofs.Try.prog .eql 141 xo yo .nilf .nilf = some (.bool true) := by kernel_rfl
attribute [go_sem] eq_141_n
theorem ne_141 (xo yo : Operand) (f : Fn) (a b : List CV) : binT Go.Proofs.Try.prog .neq 141 xo yo (.fn f a b) .nilf = some (.bool true) := by kernel_rfl
attribute [go_sem] ne_141
theorem ne_141_n (xo yo : Operand) : binT Go.Proofs.Try.prog .neq 141 xo yo .nilf .nilf = some (.bool false) := by kernel_rfl
attribute [go_sem] ne_141_n
theorem sz_142 : szOf Go.Proofs.Try.prog 142 = some 1 := by kernel_rfl
attribute [go_sem] sz_142
theorem ld_142 (h : H) (id off : Nat) : loadT Go.Proofs.Try.prog h 142 id off = @thn _ _ (h.blk id) ⟨fun b => b.get off⟩ := by kernel_rfl
attribute [go_sem] ld_142
theorem st_142 (h : H) (id off : Nat) (v : CV) : storeT Go.Proofs.Try.prog h 142 id off v = @thn _ _ (h.blk id) ⟨fun b => cond (Nat.beq v.cells.length 1 && !b.ro) ((b.storeA off v.cells).map fun b' => h.put id (.cells b')) none⟩ := by kernel_rfl
attribute [go_sem] st_142
theorem part_142 (cs : List CV) (off : Nat) : partT Go.Proofs.Try.prog 142 cs off = nth cs off := by kernel_rfl
attribute [go_sem] part_142
theorem ze_142 : zeroT Go.Proofs.Try.prog 142 = some (.nilp) := by kernel_rfl
attribute [go_sem] ze_142
theorem eq_142 (xo yo : Operand) (a b : Nat) : binT Go.Proofs.Try.prog .eql 142 xo yo (.ptr a b) .nilp = some (.bool false) := by kernel_rfl
attribute [go_sem] eq_142
theorem eq_142_n (xo yo : Operand) : binT Go.Proofs.Try.prog .eql 142 xo yo .nilp .nilp = some (.bool true) := by kernel_rfl
attribute [go_sem] eq_142_n
theorem ne_142 (xo yo : Operand) (a b : Nat) : binT Go.Proofs.Try.prog .neq 142 xo yo (.ptr a b) .nilp = some (.bool true) := by kernel_rfl
attribute [go_sem] ne_142
theorem ne_142_n (xo yo : Operand) : binT Go.Proofs.Try.prog .neq 142 xo yo .nilp .nilp = some (.bool false) := by kernel_rfl
attribute [go_sem] ne_142_n
theorem sz_143 : szOf Go.Proofs.Try.prog 143 = some 1 := by kernel_rfl
attribute [go_sem] sz_143
theorem ld_143 (h : H) (id off : Nat) : loadT Go.Proofs.Try.prog h 143 id off = @thn _ _ (h.blk id) ⟨fun b => b.get off⟩ := by kernel_rfl
attribute [go_sem] ld_143
theorem st_143 (h : H) (id off : Nat) (v : CV) : storeT Go.Proofs.Try.prog h 143 id off v = @thn _ _ (h.blk id) ⟨fun b => cond (Nat.beq v.cells.length 1 && !b.ro) ((b.storeA off v.cells).map fun b' => h.put id (.cells b')) none⟩ := by kernel_rfl
attribute [go_sem] st_143
theorem part_143 (cs : List CV) (off : Nat) : partT Go.Proofs.Try.prog 143 cs off = nth cs off := by kernel_rfl
attribute [go_sem] part_143
theorem ze_143 : zeroT Go.Proofs.Try.prog 143 = some (.nilf) := by kernel_rfl
attribute [go_sem] ze_143
theorem eq_143 (xo yo : Operand) (f : Fn) (a b : List CV) : binT Go.Proofs.Try.prog .eql 143 xo yo (.fn f a b) .nilf = some (.bool false) := by kernel_rfl
attribute [go_sem] eq_143
theorem eq_143_n (xo yo : Operand) : binT Go.Proofs.Try.prog .eql 143 xo yo .nilf .nilf = some (.bool true) := by kernel_rfl
attribute [go_sem] eq_143_n
theorem ne_143 (xo yo : Operand) (f : Fn) (a b : List CV) : binT Go.Proofs.Try.prog .neq 143 xo yo (.fn f a b) .nilf = some (.bool true) := by kernel_rfl
attribute [go_sem] ne_143
theorem ne_143_n (xo yo : Operand) : binT Go.Proofs.Try.prog .neq 143 xo yo .nilf .nilf = some (.bool false) := by kernel_rfl
attribute [go_sem] ne_143_n
theorem sz_144 : szOf Go.Proofs.Try.prog 144 = some 4 := by kernel_rfl
attribute [go_sem] sz_144
theorem ld_144 (h : H) (id off : Nat) : loadT Go.Proofs.Try.prog h 144 id off = @thn _ _ (h.blk id) ⟨fun b => (b.loadN off 4).map .agg⟩ := by kernel_rfl
attribute [go_sem] ld_144
theorem st_144 (h : H) (id off : Nat) (v : CV) : storeT Go.Proofs.Try.prog h 144 id off v = @thn _ _ (h.blk id) ⟨fun b => cond (Nat.beq v.cells.length 4 && !b.ro) ((b.storeA off v.cells).map fun b' => h.put id (.cells b')) none⟩ := by kernel_rfl
attribute [go_sem] st_144
theorem part_144 (cs : List CV) (off : Nat) : partT Go.Proofs.Try.prog 144 cs off = some (.agg ((cs.drop off).take 4)) := by kernel_rfl
attribute [go_sem] part_144
theorem ze_144 : zeroT Go.Proofs.Try.prog 144 = some (.agg [.nilp, .nilp, .nilp, .str []]) := by kernel_rfl
attribute [go_sem] ze_144
theorem bt_144 (parts : List (Nat × CV)) : buildT Go.Proofs.Try.prog 144 parts = finB (CV.cells (.agg [.nilp, .nilp, .nilp, .str []])) (nth [(0, 1), (1, 1), (2, 1), (3, 1)]) parts := by kernel_rfl
attribute [go_sem] bt_144
theorem fa_144_0 (id off : Nat) : fieldAddrT Go.Proofs.Try.prog 144 (.ptr id off) 0 = some (.ptr id (off)) := by kernel_rfl
attribute [go_sem] fa_144_0
theorem fd_144_0 (cs : List CV) : fieldT Go.Proofs.Try.prog 144 (.agg cs) 0 = partT Go.Proofs.Try.prog 17 cs 0 := by kernel_rfl
attribute [go_sem] fd_144_0
theorem fa_144_1 (id off : Nat) : fieldAddrT Go.Proofs.Try.prog 144 (.ptr id off) 1 = some (.ptr id (off + 1)) := by kernel_rfl
attribute [go_sem] fa_144_1
theorem fd_144_1 (cs : List CV) : fieldT Go.Proofs.Try.prog 144 (.agg cs) 1 = partT Go.Proofs.Try.prog 17 cs 1 := by kernel_rfl
attribute [go_sem] fd_144_1
theorem fa_144_2 (id off : Nat) : fieldAddrT Go.Proofs.Try.prog 144 (.ptr id off) 2 = some (.ptr id (off + 2)) := by kernel_rfl
attribute [go_sem] fa_144_2
theorem fd_144_2 (cs : List CV) : fieldT Go.Proofs.Try.prog 144 (.agg cs) 2 = partT Go.Proofs.Try.prog 17 cs 2 := by kernel_rfl
attribute [go_sem] fd_144_2
theorem fa_144_3 (id off : Nat) : fieldAddrT Go.Proofs.Try.prog 144 (.ptr id off) 3 = some (.ptr id (off + 3)) := by kernel_rfl
attribute [go_sem] fa_144_3
theorem fd_144_3 (cs : List CV) : fieldT Go.Proofs.Try.prog 144 (.agg cs) 3 = partT Go.Proofs.Try.prog 9 cs 3 := by kernel_rfl
attribute [go_sem] fd_144_3
theorem sz_145 : szOf Go.Proofs.Try.prog 145 = some 4 := by kernel_rfl
attribute [go_sem] sz_145
theorem ld_145 (h : H) (id off : Nat) : loadT Go.Proofs.Try.prog h 145 id off = @thn _ _ (h.blk id) ⟨fun b => (b.loadN off 4).map .agg⟩ := by kernel_rfl
attribute [go_sem] ld_145
theorem st_145 (h : H) (id off : Nat) (v : CV) : storeT Go.Proofs.Try.prog h 145 id off v = @thn _ _ (h.blk id) ⟨fun b => cond (Nat.beq v.cells.length 4 && !b.ro) ((b.storeA off v.cells).map fun b' => h.put id (.cells b')) none⟩ := by kernel_rfl
attribute [go_sem] st_145
theorem part_145 (cs : List CV) (off : Nat) : partT Go.Proofs.Try.prog 145 cs off = some (.agg ((cs.drop off).take 4)) := by kernel_rfl
attribute [go_sem] part_145
theorem ze_145 : zeroT Go.Proofs.Try.prog 145 = some (.agg [.nilp, .nilp, .nilp, .str []]) := by kernel_rfl
attribute [go_sem] ze_145
theorem bt_145 (parts : List (Nat × CV)) : buildT Go.Proofs.Try.prog 145 parts = finB (CV.cells (.agg [.nilp, .nilp, .nilp, .str []])) (nth [(0, 1), (1, 1), (2, 1), (3, 1)]) parts := by kernel_rfl
attribute [go_sem] bt_145
theorem fa_145_0 (id off : Nat) : fieldAddrT Go.Proofs.Try.prog 145 (.ptr id off) 0 = some (.ptr id (off)) := by kernel_rfl
attribute [go_sem] fa_145_0
theorem fd_145_0 (cs : List CV) : fieldT Go.Proofs.Try.prog 145 (.agg cs) 0 = partT Go.Proofs.Try.prog 17 cs 0 := by kernel_rfl
attribute [go_sem] fd_145_0
theorem fa_145_1 (id off : Nat) : fieldAddrT Go.Proofs.Try.prog 145 (.ptr id off) 1 = some (.ptr id (off + 1)) := by kernel_rfl
attribute [go_sem] fa_145_1
theorem fd_145_1 (cs : List CV) : fieldT Go.Proofs.Try.prog 145 (.agg cs) 1 = partT Go.Proofs.Try.prog 17 cs 1 := by kernel_rfl
attribute [go_sem] fd_145_1
theorem fa_145_2 (id off : Nat) : fieldAddrT Go.Proofs.Try.prog 145 (.ptr id off) 2 = some (.ptr id (off + 2)) := by kernel_rfl
attribute [go_sem] fa_145_2
theorem fd_145_2 (cs : List CV) : fieldT Go.Proofs.Try.prog 145 (.agg cs) 2 = partT Go.Proofs.Try.prog 17 cs 2 := by kernel_rfl
attribute [go_sem] fd_145_2
theorem fa_145_3 (id off : Nat) : fieldAddrT Go.Proofs.Try.prog 145 (.ptr id off) 3 = some (.ptr id (off + 3)) := by kernel_rfl
attribute [go_sem] fa_145_3
theorem fd_145_3 (cs : List CV) : fieldT Go.Proofs.Try.prog 145 (.agg cs) 3 = partT Go.Proofs.Try.prog 9 cs 3 := by kernel_rfl
attribute [go_sem] fd_145_3
theorem sz_146 : szOf Go.Proofs.Try.prog 146 = some 0 := by kernel_rfl
attribute [go_sem] sz_146
theorem ld_146 (h : H) (id off : Nat) : loadT Go.Proofs.Try.prog h 146 id off = @thn _ _ (h.blk id) ⟨fun b => (b.loadN off 0).map .agg⟩ := by kernel_rfl
attribute [go_sem] ld_146
theorem st_146 (h : H) (id off : Nat) (v : CV) : storeT Go.Proofs.Try.prog h 146 id off v = @thn _ _ (h.blk id) ⟨fun b => cond (Nat.beq v.cells.length 0 && !b.ro) ((b.storeA off v.cells).map fun b' => h.put id (.cells b')) none⟩ := by kernel_rfl
attribute [go_sem] st_146
theorem part_146 (cs : List CV) (off : Nat) : partT Go.Proofs.Try.prog 146 cs off = some (.agg ((cs.drop off).take 0)) := by kernel_rfl
attribute [go_sem] part_146
theorem ze_146 : zeroT Go.Proofs.Try.prog 146 = some (.agg []) := by kernel_rfl
attribute [go_sem] ze_146
theorem ia_146 (id off k : Nat) (kd : IntKind) : indexAddrT Go.Proofs.Try.prog 146 (.ptr id off) (.int kd (Int.ofNat k)) = cond (Nat.blt k 0) (some (.ptr id (off + k * 1))) none := by kernel_rfl
attribute [go_sem] ia_146
theorem ix_146 (cs : List CV) (k : Nat) (kd : IntKind) : indexT Go.Proofs.Try.prog 146 (.agg cs) (.int kd (Int.ofNat k)) = cond (Nat.blt k 0) (partT Go.Proofs.Try.prog 16 cs (k * 1)) none := by kernel_rfl
attribute [go_sem] ix_146
theorem len_146 (h : H) (ts : List TypeId) (az : List CV) (a : CV) : builtinT Go.Proofs.Try.prog h .len (146 :: ts) (a :: az) = some (.val (.int .i64 0)) := by kernel_rfl
attribute [go_sem] len_146
theorem bt_146 (parts : List (Nat × CV)) : buildT Go.Proofs.Try.prog 146 parts = finB (CV.cells (.agg [])) (fun i => some (i * 1, 1)) parts := by kernel_rfl
attribute [go_sem] bt_146
theorem sz_147 : szOf Go.Proofs.Try.prog 147 = some 0 := by kernel_rfl
attribute [go_sem] sz_147
theorem ld_147 (h : H) (id off : Nat) : loadT Go.Proofs.Try.prog h 147 id off = @thn _ _ (h.blk id) ⟨fun b => (b.loadN off 0).map .agg⟩ := by kernel_rfl
attribute [go_sem] ld_147
theorem st_147 (h : H) (id off : Nat) (v : CV) : storeT Go.Proofs.Try.prog h 147 id off v = @thn _ _ (h.blk id) ⟨fun b => cond (Nat.beq v.cells.length 0 && !b.ro) ((b.storeA off v.cells).map fun b' => h.put id (.cells b')) none⟩ := by kernel_rfl
attribute [go_sem] st_147
theorem part_147 (cs : List CV) (off : Nat) : partT Go.Proofs.Try.prog 147 cs off = some (.agg ((cs.drop off).take 0)) := by kernel_rfl
attribute [go_sem] part_147
theorem ze_147 : zeroT Go.Proofs.Try.prog 147 = some (.agg []) := by kernel_rfl
attribute [go_sem] ze_147
theorem bt_147 (parts : List (Nat × CV)) : buildT Go.Proofs.Try.prog 147 parts = finB (CV.cells (.agg [])) (nth [(0, 0)]) parts := by kernel_rfl
attribute [go_sem] bt_147
theorem fd_147_0 (cs : List CV) : fieldT Go.Proofs.Try.prog 147 (.agg cs) 0 = partT Go.Proofs.Try.prog 146 cs 0 := by kernel_rfl
attribute [go_sem] fd_147_0
theorem sz_148 : szOf Go.Proofs.Try.prog 148 = some 0 := by kernel_rfl
attribute [go_sem] sz_148
theorem ld_148 (h : H) (id off : Nat) : loadT Go.Proofs.Try.prog h 148 id off = @thn _ _ (h.blk id) ⟨fun b => (b.loadN off 0).map .agg⟩ := by kernel_rfl
attribute [go_sem] ld_148
theorem st_148 (h : H) (id off : Nat) (v : CV) : storeT Go.Proofs.Try.prog h 148 id off v = @thn _ _ (h.blk id) ⟨fun b => cond (Nat.beq v.cells.length 0 && !b.ro) ((b.storeA off v.cells).map fun b' => h.put id (.cells b')) none⟩ := by kernel_rfl
attribute [go_sem] st_148
theorem part_148 (cs : List CV) (off : Nat) : partT Go.Proofs.Try.prog 148 cs off = some (.agg ((cs.drop off).take 0)) := by kernel_rfl
attribute [go_sem] part_148
theorem ze_148 : zeroT Go.Proofs.Try.prog 148 = some (.agg []) := by kernel_rfl
attribute [go_sem] ze_148
theorem bt_148 (parts : List (Nat × CV)) : buildT Go.Proofs.Try.prog 148 parts = finB (CV.cells (.agg [])) (nth [(0, 0)]) parts := by kernel_rfl
attribute [go_sem] bt_148
theorem fd_148_0 (cs : List CV) : fieldT Go.Proofs.Try.prog 148 (.agg cs) 0 = partT Go.Proofs.Try.prog 146 cs 0 := by kernel_rfl
attribute [go_sem] fd_148_0
theorem sz_149 : szOf Go.Proofs.Try.prog 149 = some 1 := by kernel_rfl
attribute [go_sem] sz_149
theorem ld_149 (h : H) (id off : Nat) : loadT Go.Proofs.Try.prog h 149 id off = @thn _ _ (h.blk id) ⟨fun b => b.get off⟩ := by kernel_rfl
attribute [go_sem] ld_149
theorem st_149 (h : H) (id off : Nat) (v : CV) : storeT Go.Proofs.Try.prog h 149 id off v = @thn _ _ (h.blk id) ⟨fun b => cond (Nat.beq v.cells.length 1 && !b.ro) ((b.storeA off v.cells).map fun b' => h.put id (.cells b')) none⟩ := by kernel_rfl
attribute [go_sem] st_149
theorem part_149 (cs : List CV) (off : Nat) : partT Go.Proofs.Try.prog 149 cs off = nth cs off := by kernel_rfl
attribute [go_sem] part_149
theorem ze_149 : zeroT Go.Proofs.Try.prog 149 = some (.int .u32 0) := by kernel_rfl
attribute [go_sem] ze_149
theorem sz_150 : szOf Go.Proofs.Try.prog 150 = some 1 := by kernel_rfl
attribute [go_sem] sz_150
theorem ld_150 (h : H) (id off : Nat) : loadT Go.Proofs.Try.prog h 150 id off = @thn _ _ (h.blk id) ⟨fun b => b.get off⟩ := by kernel_rfl
attribute [go_sem] ld_150
theorem st_150 (h : H) (id off : Nat) (v : CV) : storeT Go.Proofs.Try.prog h 150 id off v = @thn _ _ (h.blk id) ⟨fun b => cond (Nat.beq v.cells.length 1 && !b.ro) ((b.storeA off v.cells).map fun b' => h.put id (.cells b')) none⟩ := by kernel_rfl
attribute [go_sem] st_150
theorem part_150 (cs : List CV) (off : Nat) : partT Go.Proofs.Try.prog 150 cs off = nth cs off := by kernel_rfl
attribute [go_sem] part_150
theorem ze_150 : zeroT Go.Proofs.Try.prog 150 = some (.int .u8 0) := by kernel_rfl
attribute [go_sem] ze_150
theorem sz_151 : szOf Go.Proofs.Try.prog 151 = some 1 := by kernel_rfl
attribute [go_sem] sz_151
theorem ld_151 (h : H) (id off : Nat) : loadT Go.Proofs.Try.prog h 151 id off = @thn _ _ (h.blk id) ⟨fun b => b.get off⟩ := by kernel_rfl
attribute [go_sem] ld_151
theorem st_151 (h : H) (id off : Nat) (v : CV) : storeT Go.Proofs.Try.prog h 151 id off v = @thn _ _ (h.blk id) ⟨fun b => cond (Nat.beq v.cells.length 1 && !b.ro) ((b.storeA off v.cells).map fun b' => h.put id (.cells b')) none⟩ := by kernel_rfl
attribute [go_sem] st_151
theorem part_151 (cs : List CV) (off : Nat) : partT Go.Proofs.Try.prog 151 cs off = nth cs off := by kernel_rfl
attribute [go_sem] part_151
theorem ze_151 : zeroT Go.Proofs.Try.prog 151 = some (.int .u8 0) := by kernel_rfl
attribute [go_sem] ze_151
theorem sz_152 : szOf Go.Proofs.Try.prog 152 = some 1 := by kernel_rfl
attribute [go_sem] sz_152
theorem ld_152 (h : H) (id off : Nat) : loadT Go.Proofs.Try.prog h 152 id off = @thn _ _ (h.blk id) ⟨fun b => b.get off⟩ := by kernel_rfl
attribute [go_sem] ld_152
theorem st_152 (h : H) (id off : Nat) (v : CV) : storeT Go.Proofs.Try.prog h 152 id off v = @thn _ _ (h.blk id) ⟨fun b => cond (Nat.beq v.cells.length 1 && !b.ro) ((b.storeA off v.cells).map fun b' => h.put id (.cells b')) none⟩ := by kernel_rfl
attribute [go_sem] st_152
theorem part_152 (cs : List CV) (off : Nat) : partT Go.Proofs.Try.prog 152 cs off = nth cs off := by kernel_rfl
attribute [go_sem] part_152
theorem ze_152 : zeroT Go.Proofs.Try.prog 152 = some (.nilf) := by kernel_rfl
attribute [go_sem] ze_152
theorem eq_152 (xo yo : Operand) (f : Fn) (a b : List CV) : binT Go.Proofs.Try.prog .eql 152 xo yo (.fn f a b) .nilf = some (.bool false) := by kernel_rfl
attribute [go_sem] eq_152
theorem eq_152_n (xo yo : Operand) : binT Go.Proofs.Try.prog .eql 152 xo yo .nilf .nilf = some (.bool true) := by kernel_rfl
attribute [go_sem] eq_152_n
theorem ne_152 (xo yo : Operand) (f : Fn) (a b : List CV) : binT Go.Proofs.Try.prog .neq 152 xo yo (.fn f a b) .nilf = some (.bool true) := by kernel_rfl
attribute [go_sem] ne_152
theorem ne_152_n (xo yo : Operand) : binT Go.Proofs.Try.prog .neq 152 xo yo .nilf .nilf = some (.bool false) := by kernel_rfl
attribute [go_sem] ne_152_n
theorem sz_153 : szOf Go.Proofs.Try.prog 153 = some 1 := by kernel_rfl
attribute [go_sem] sz_153
theorem ld_153 (h : H) (id off : Nat) : loadT Go.Proofs.Try.prog h 153 id off = @thn _ _ (h.blk id) ⟨fun b => b.get off⟩ := by kernel_rfl
attribute [go_sem] ld_153
theorem st_153 (h : H) (id off : Nat) (v : CV) : storeT Go.Proofs.Try.prog h 153 id off v = @thn _ _ (h.blk id) ⟨fun b => cond (Nat.beq v.cells.length 1 && !b.ro) ((b.storeA off v.cells).map fun b' => h.put id (.cells b')) none⟩ := by kernel_rfl
attribute [go_sem] st_153
theorem part_153 (cs : List CV) (off : Nat) : partT Go.Proofs.Try.prog 153 cs off = nth cs off := by kernel_rfl
attribute [go_sem] part_153
theorem ze_153 : zeroT Go.Proofs.Try.prog 153 = some (.nilp) := by kernel_rfl
attribute [go_sem] ze_153
theorem eq_153 (xo yo : Operand) (a b : Nat) : binT Go.Proofs.Try.prog .eql 153 xo yo (.ptr a b) .nilp = some (.bool false) := by kernel_rfl
attribute [go_sem] eq_153
theorem eq_153_n (xo yo : Operand) : binT Go.Proofs.Try.prog .eql 153 xo yo .nilp .nilp = some (.bool true) := by kernel_rfl
attribute [go_sem] eq_153_n
theorem ne_153 (xo yo : Operand) (a b : Nat) : binT Go.Proofs.Try.prog .neq 153 xo yo (.ptr a b) .nilp = some (.bool true) := by kernel_rfl
attribute [go_sem] ne_153
theorem ne_153_n (xo yo : Operand) : binT Go.Proofs.Try.prog .neq 153 xo yo .nilp .nilp = some (.bool false) := by kernel_rfl
attribute [go_sem] ne_153_n
theorem sz_154 : szOf Go.Proofs.Try.prog 154 = some 1 := by kernel_rfl
attribute [go_sem] sz_154
theorem ld_154 (h : H) (id off : Nat) : loadT Go.Proofs.Try.prog h 154 id off = @thn _ _ (h.blk id) ⟨fun b => b.get off⟩ := by kernel_rfl
attribute [go_sem] ld_154
theorem st_154 (h : H) (id off : Nat) (v : CV) : storeT Go.Proofs.Try.prog h 154 id off v = @thn _ _ (h.blk id) ⟨fun b => cond (Nat.beq v.cells.length 1 && !b.ro) ((b.storeA off v.cells).map fun b' => h.put id (.cells b')) none⟩ := by kernel_rfl
attribute [go_sem] st_154
theorem part_154 (cs : List CV) (off : Nat) : partT Go.Proofs.Try.prog 154 cs off = nth cs off := by kernel_rfl
attribute [go_sem] part_154
theorem ze_154 : zeroT Go.Proofs.Try.prog 154 = some (.int .i32 0) := by kernel_rfl
attribute [go_sem] ze_154
theorem sz_155 : szOf Go.Proofs.Try.prog 155 = some 1 := by kernel_rfl
attribute [go_sem] sz_155
theorem ld_155 (h : H) (id off : Nat) : loadT Go.Proofs.Try.prog h 155 id off = @thn _ _ (h.blk id) ⟨fun b => b.get off⟩ := by kernel_rfl
attribute [go_sem] ld_155
theorem st_155 (h : H) (id off : Nat) (v : CV) : storeT Go.Proofs.Try.prog h 155 id off v = @thn _ _ (h.blk id) ⟨fun b => cond (Nat.beq v.cells.length 1 && !b.ro) ((b.storeA off v.cells).map fun b' => h.put id (.cells b')) none⟩ := by kernel_rfl
attribute [go_sem] st_155
theorem part_155 (cs : List CV) (off : Nat) : partT Go.Proofs.Try.prog 155 cs off = nth cs off := by kernel_rfl
attribute [go_sem] part_155
theorem ze_155 : zeroT Go.Proofs.Try.prog 155 = some (.int .i32 0) := by kernel_rfl
attribute [go_sem] ze_155
theorem sz_156 : szOf Go.Proofs.Try.prog 156 = some 11 := by kernel_rfl
attribute [go_sem] sz_156
theorem ld_156 (h : H) (id off : Nat) : loadT Go.Proofs.Try.prog h 156 id off = @thn _ _ (h.blk id) ⟨fun b => (b.loadN off 11).map .agg⟩ := by kernel_rfl
attribute [go_sem] ld_156
theorem st_156 (h : H) (id off : Nat) (v : CV) : storeT Go.Proofs.Try.prog h 156 id off v = @thn _ _ (h.blk id) ⟨fun b => cond (Nat.beq v.cells.length 11 && !b.ro) ((b.storeA off v.cells).map fun b' => h.put id (.cells b')) none⟩ := by kernel_rfl
attribute [go_sem] st_156
theorem part_156 (cs : List CV) (off : Nat) : partT Go.Proofs.Try.prog 156 cs off = some (.agg ((cs.drop off).take 11)) := by kernel_rfl
attribute [go_sem] part_156
theorem ze_156 : zeroT Go.Proofs.Try.prog 156 = some (.agg [.int .u64 0, .int .u64 0, .int .u32 0, .int .u8 0, .int .u8 0, .int .u8 0, .int .u8 0, .nilf, .nilp, .int .i32 0, .int .i32 0]) := by kernel_rfl
attribute [go_sem] ze_156
theorem bt_156 (parts : List (Nat × CV)) : buildT Go.Proofs.Try.prog 156 parts = finB (CV.cells (.agg [.int .u64 0, .int .u64 0, .int .u32 0, .int .u8 0, .int .u8 0, .int .u8 0, .int .u8 0, .nilf, .nilp, .int .i32 0, .int .i32 0])) (nth [(0, 1), (1, 1), (2, 1), (3, 1), (4, 1), (5, 1), (6, 1), (7, 1), (8, 1), (9, 1), (10, 1)]) parts := by kernel_rfl
attribute [go_sem] bt_156
theorem fa_156_0 (id off : Nat) : fieldAddrT Go.Proofs.Try.prog 156 (.ptr id off) 0 = some (.ptr id (off)) := by kernel_rfl
attribute [go_sem] fa_156_0
theorem fd_156_0 (cs : List CV) : fieldT Go.Proofs.Try.prog 156 (.agg cs) 0 = partT Go.Proofs.Try.prog 12 cs 0 := by kernel_rfl
attribute [go_sem] fd_156_0
theorem fa_156_1 (id off : Nat) : fieldAddrT Go.Proofs.Try.prog 156 (.ptr id off) 1 = some (.ptr id (off + 1)) := by kernel_rfl
attribute [go_sem] fa_156_1
theorem fd_156_1 (cs : List CV) : fieldT Go.Proofs.Try.prog 156 (.agg cs) 1 = partT Go.Proofs.Try.prog 12 cs 1 := by kernel_rfl
attribute [go_sem] fd_156_1
theorem fa_156_2 (id off : Nat) : fieldAddrT Go.Proofs.Try.prog 156 (.ptr id off) 2 = some (.ptr id (off + 2)) := by kernel_rfl
attribute [go_sem] fa_156_2
theorem fd_156_2 (cs : List CV) : fieldT Go.Proofs.Try.prog 156 (.agg cs) 2 = partT Go.Proofs.Try.prog 149 cs 2 := by kernel_rfl
attribute [go_sem] fd_156_2
theorem fa_156_3 (id off : Nat) : fieldAddrT Go.Proofs.Try.prog 156 (.ptr id off) 3 = some (.ptr id (off + 3)) := by kernel_rfl
attribute [go_sem] fa_156_3
theorem fd_156_3 (cs : List CV) : fieldT Go.Proofs.Try.prog 156 (.agg cs) 3 = partT Go.Proofs.Try.prog 150 cs 3 := by kernel_rfl
attribute [go_sem] fd_156_3
theorem fa_156_4 (id off : Nat) : fieldAddrT Go.Proofs.Try.prog 156 (.ptr id off) 4 = some (.ptr id (off + 4)) := by kernel_rfl
attribute [go_sem] fa_156_4
theorem fd_156_4 (cs : List CV) : fieldT Go.Proofs.Try.prog 156 (.agg cs) 4 = partT Go.Proofs.Try.prog 5 cs 4 := by kernel_rfl
attribute [go_sem] fd_156_4
theorem fa_156_5 (id off : Nat) : fieldAddrT Go.Proofs.Try.prog 156 (.ptr id off) 5 = some (.ptr id (off + 5)) := by kernel_rfl
attribute [go_sem] fa_156_5
theorem fd_156_5 (cs : List CV) : fieldT Go.Proofs.Try.prog 156 (.agg cs) 5 = partT Go.Proofs.Try.prog 5 cs 5 := by kernel_rfl
attribute [go_sem] fd_156_5
theorem fa_156_6 (id off : Nat) : fieldAddrT Go.Proofs.Try.prog 156 (.ptr id off) 6 = some (.ptr id (off + 6)) := by kernel_rfl
attribute [go_sem] fa_156_6
theorem fd_156_6 (cs : List CV) : fieldT Go.Proofs.Try.prog 156 (.agg cs) 6 = partT Go.Proofs.Try.prog 151 cs 6 := by kernel_rfl
attribute [go_sem] fd_156_6
theorem fa_156_7 (id off : Nat) : fieldAddrT Go.Proofs.Try.prog 156 (.ptr id off) 7 = some (.ptr id (off + 7)) := by kernel_rfl
attribute [go_sem] fa_156_7
theorem fd_156_7 (cs : List CV) : fieldT Go.Proofs.Try.prog 156 (.agg cs) 7 = partT Go.Proofs.Try.prog 152 cs 7 := by kernel_rfl
attribute [go_sem] fd_156_7
theorem fa_156_8 (id off : Nat) : fieldAddrT Go.Proofs.Try.prog 156 (.ptr id off) 8 = some (.ptr id (off + 8)) := by kernel_rfl
attribute [go_sem] fa_156_8
theorem fd_156_8 (cs : List CV) : fieldT Go.Proofs.Try.prog 156 (.agg cs) 8 = partT Go.Proofs.Try.prog 153 cs 8 := by kernel_rfl
attribute [go_sem] fd_156_8
theorem fa_156_9 (id off : Nat) : fieldAddrT Go.Proofs.Try.prog 156 (.ptr id off) 9 = some (.ptr id (off + 9)) := by kernel_rfl
attribute [go_sem] fa_156_9
theorem fd_156_9 (cs : List CV) : fieldT Go.Proofs.Try.prog 156 (.agg cs) 9 = partT Go.Proofs.Try.prog 154 cs 9 := by kernel_rfl
attribute [go_sem] fd_156_9
theorem fa_156_10 (id off : Nat) : fieldAddrT Go.Proofs.Try.prog 156 (.ptr id off) 10 = some (.ptr id (off + 10)) := by kernel_rfl
attribute [go_sem] fa_156_10
theorem fd_156_10 (cs : List CV) : fieldT Go.Proofs.Try.prog 156 (.agg cs) 10 = partT Go.Proofs.Try.prog 155 cs 10 := by kernel_rfl
attribute [go_sem] fd_156_10
theorem sz_157 : szOf Go.Proofs.Try.prog 157 = some 11 := by kernel_rfl
attribute [go_sem] sz_157
theorem ld_157 (h : H) (id off : Nat) : loadT Go.Proofs.Try.prog h 157 id off = @thn _ _ (h.blk id) ⟨fun b => (b.loadN off 11).map .agg⟩ := by kernel_rfl
attribute [go_sem] ld_157
theorem st_157 (h : H) (id off : Nat) (v : CV) : storeT Go.Proofs.Try.prog h 157 id off v = @thn _ _ (h.blk id) ⟨fun b => cond (Nat.beq v.cells.length 11 && !b.ro) ((b.storeA off v.cells).map fun b' => h.put id (.cells b')) none⟩ := by kernel_rfl
attribute [go_sem] st_157
theorem part_157 (cs : List CV) (off : Nat) : partT Go.Proofs.Try.prog 157 cs off = some (.agg ((cs.drop off).take 11)) := by kernel_rfl
attribute [go_sem] part_157
theorem ze_157 : zeroT Go.Proofs.Try.prog 157 = some (.agg [.int .u64 0, .int .u64 0, .int .u32 0, .int .u8 0, .int .u8 0, .int .u8 0, .int .u8 0, .nilf, .nilp, .int .i32 0, .int .i32 0]) := by kernel_rfl
attribute [go_sem] ze_157
theorem bt_157 (parts : List (Nat × CV)) : buildT Go.Proofs.Try.prog 157 parts = finB (CV.cells (.agg [.int .u64 0, .int .u64 0, .int .u32 0, .int .u8 0, .int .u8 0, .int .u8 0, .int .u8 0, .nilf, .nilp, .int .i32 0, .int .i32 0])) (nth [(0, 1), (1, 1), (2, 1), (3, 1), (4, 1), (5, 1), (6, 1), (7, 1), (8, 1), (9, 1), (10, 1)]) parts := by kernel_rfl
attribute [go_sem] bt_157
theorem fa_157_0 (id off : Nat) : fieldAddrT Go.Proofs.Try.prog 157 (.ptr id off) 0 = some (.ptr id (off)) := by kernel_rfl
attribute [go_sem] fa_157_0
theorem fd_157_0 (cs : List CV) : fieldT Go.Proofs.Try.prog 157 (.agg cs) 0 = partT Go.Proofs.Try.prog 12 cs 0 := by kernel_rfl
attribute [go_sem] fd_157_0
theorem fa_157_1 (id off : Nat) : fieldAddrT Go.Proofs.Try.prog 157 (.ptr id off) 1 = some (.ptr id (off + 1)) := by kernel_rfl
attribute [go_sem] fa_157_1
theorem fd_157_1 (cs : List CV) : fieldT Go.Proofs.Try.prog 157 (.agg cs) 1 = partT Go.Proofs.Try.prog 12 cs 1 := by kernel_rfl
attribute [go_sem] fd_157_1
theorem fa_157_2 (id off : Nat) : fieldAddrT Go.Proofs.Try.prog 157 (.ptr id off) 2 = some (.ptr id (off + 2)) := by kernel_rfl
attribute [go_sem] fa_157_2
theorem fd_157_2 (cs : List CV) : fieldT Go.Proofs.Try.prog 157 (.agg cs) 2 = partT Go.Proofs.Try.prog 149 cs 2 := by kernel_rfl
attribute [go_sem] fd_157_2
theorem fa_157_3 (id off : Nat) : fieldAddrT Go.Proofs.Try.prog 157 (.ptr id off) 3 = some (.ptr id (off + 3)) := by kernel_rfl
attribute [go_sem] fa_157_3
theorem fd_157_3 (cs : List CV) : fieldT Go.Proofs.Try.prog 157 (.agg cs) 3 = partT Go.Proofs.Try.prog 150 cs 3 := by kernel_rfl
attribute [go_sem] fd_157_3
theorem fa_157_4 (id off : Nat) : fieldAddrT Go.Proofs.Try.prog 157 (.ptr id off) 4 = some (.ptr id (off + 4)) := by kernel_rfl
attribute [go_sem] fa_157_4
theorem fd_157_4 (cs : List CV) : fieldT Go.Proofs.Try.prog 157 (.agg cs) 4 = partT Go.Proofs.Try.prog 5 cs 4 := by kernel_rfl
attribute [go_sem] fd_157_4
theorem fa_157_5 (id off : Nat) : fieldAddrT Go.Proofs.Try.prog 157 (.ptr id off) 5 = some (.ptr id (off + 5)) := by kernel_rfl
attribute [go_sem] fa_157_5
theorem fd_157_5 (cs : List CV) : fieldT Go.Proofs.Try.prog 157 (.agg cs) 5 = partT Go.Proofs.Try.prog 5 cs 5 := by kernel_rfl
attribute [go_sem] fd_157_5
theorem fa_157_6 (id off : Nat) : fieldAddrT Go.Proofs.Try.prog 157 (.ptr id off) 6 = some (.ptr id (off + 6)) := by kernel_rfl
attribute [go_sem] fa_157_6
theorem fd_157_6 (cs : List CV) : fieldT Go.Proofs.Try.prog 157 (.agg cs) 6 = partT Go.Proofs.Try.prog 151 cs 6 := by kernel_rfl
attribute [go_sem] fd_157_6
theorem fa_157_7 (id off : Nat) : fieldAddrT Go.Proofs.Try.prog 157 (.ptr id off) 7 = some (.ptr id (off + 7)) := by kernel_rfl
attribute [go_sem] fa_157_7
theorem fd_157_7 (cs : List CV) : fieldT Go.Proofs.Try.prog 157 (.agg cs) 7 = partT Go.Proofs.Try.prog 152 cs 7 := by kernel_rfl
attribute [go_sem] fd_157_7
theorem fa_157_8 (id off : Nat) : fieldAddrT Go.Proofs.Try.prog 157 (.ptr id off) 8 = some (.ptr id (off + 8)) := by kernel_rfl
attribute [go_sem] fa_157_8
theorem fd_157_8 (cs : List CV) : fieldT Go.Proofs.Try.prog 157 (.agg cs) 8 = partT Go.Proofs.Try.prog 153 cs 8 := by kernel_rfl
attribute [go_sem] fd_157_8
theorem fa_157_9 (id off : Nat) : fieldAddrT Go.Proofs.Try.prog 157 (.ptr id off) 9 = some (.ptr id (off + 9)) := by kernel_rfl
attribute [go_sem] fa_157_9
theorem fd_157_9 (cs : List CV) : fieldT Go.Proofs.Try.prog 157 (.agg cs) 9 = partT Go.Proofs.Try.prog 154 cs 9 := by kernel_rfl
attribute [go_sem] fd_157_9
theorem fa_157_10 (id off : Nat) : fieldAddrT Go.Proofs.Try.prog 157 (.ptr id off) 10 = some (.ptr id (off + 10)) := by kernel_rfl
attribute [go_sem] fa_157_10
theorem fd_157_10 (cs : List CV) : fieldT Go.Proofs.Try.prog 157 (.agg cs) 10 = partT Go.Proofs.Try.prog 155 cs 10 := by kernel_rfl
attribute [go_sem] fd_157_10
theorem sz_158 : szOf Go.Proofs.Try.prog 158 = some 1 := by kernel_rfl
attribute [go_sem] sz_158
theorem ld_158 (h : H) (id off : Nat) : loadT Go.Proofs.Try.prog h 158 id off = @thn _ _ (h.blk id) ⟨fun b => b.get off⟩ := by kernel_rfl
attribute [go_sem] ld_158
theorem st_158 (h : H) (id off : Nat) (v : CV) : storeT Go.Proofs.Try.prog h 158 id off v = @thn _ _ (h.blk id) ⟨fun b => cond (Nat.beq v.cells.length 1 && !b.ro) ((b.storeA off v.cells).map fun b' => h.put id (.cells b')) none⟩ := by kernel_rfl
attribute [go_sem] st_158
theorem part_158 (cs : List CV) (off : Nat) : partT Go.Proofs.Try.prog 158 cs off = nth cs off := by kernel_rfl
attribute [go_sem] part_158
theorem ze_158 : zeroT Go.Proofs.Try.prog 158 = some (.nilp) := by kernel_rfl
attribute [go_sem] ze_158
theorem eq_20 (xo yo : Operand) (u : TypeId) (v : CV) : binT Go.Proofs.Try.prog .eql 20 xo yo (.ifc u v) .nili = some (.bool false) := by kernel_rfl
attribute [go_sem] eq_20
theorem eq_20_n (n : Nat) (v : Value) : binT Go.Proofs.Try.prog .eql 20 (.tmp n) (.const v) .nili .nili = some (.bool true) := by kernel_rfl
attribute [go_sem] eq_20_n
theorem ne_20 (xo yo : Operand) (u : TypeId) (v : CV) : binT Go.Proofs.Try.prog .neq 20 xo yo (.ifc u v) .nili = some (.bool true) := by kernel_rfl
attribute [go_sem] ne_20
theorem ne_20_n (n : Nat) (v : Value) : binT Go.Proofs.Try.prog .neq 20 (.tmp n) (.const v) .nili .nili = some (.bool false) := by kernel_rfl
attribute [go_sem] ne_20_n
theorem fn_2 : nth Go.Proofs.Try.prog.funcs.toList 2 = some Go.Proofs.Try.f2 := by kernel_rfl
attribute [go_sem] fn_2
theorem tx_2 : isTextO Go.Proofs.Try.prog 2 = some () := by kernel_rfl
attribute [go_sem] tx_2
theorem fn_3 : nth Go.Proofs.Try.prog.funcs.toList 3 = some Go.Proofs.Try.f3 := by kernel_rfl
attribute [go_sem] fn_3
theorem tx_3 : isTextO Go.Proofs.Try.prog 3 = some () := by kernel_rfl
attribute [go_sem] tx_3
theorem fn_4 : nth Go.Proofs.Try.prog.funcs.toList 4 = some Go.Proofs.Try.f4 := by kernel_rfl
attribute [go_sem] fn_4
theorem tx_4 : isTextO Go.Proofs.Try.prog 4 = some () := by kernel_rfl
attribute [go_sem] tx_4
theorem fn_5 : nth Go.Proofs.Try.prog.funcs.toList 5 = some Go.Proofs.Try.f5 := by kernel_rfl
attribute [go_sem] fn_5
theorem tx_5 : isTextO Go.Proofs.Try.prog 5 = some () := by kernel_rfl
attribute [go_sem] tx_5
theorem fn_6 : nth Go.Proofs.Try.prog.funcs.toList 6 = some Go.Proofs.Try.f6 := by kernel_rfl
attribute [go_sem] fn_6
theorem tx_6 : isTextO Go.Proofs.Try.prog 6 = some () := by kernel_rfl
attribute [go_sem] tx_6
theorem fn_7 : nth Go.Proofs.Try.prog.funcs.toList 7 = some Go.Proofs.Try.f7 := by kernel_rfl
attribute [go_sem] fn_7
theorem tx_7 : isTextO Go.Proofs.Try.prog 7 = some () := by kernel_rfl
attribute [go_sem] tx_7
theorem fn_8 : nth Go.Proofs.Try.prog.funcs.toList 8 = some Go.Proofs.Try.f8 := by kernel_rfl
attribute [go_sem] fn_8
theorem tx_8 : isTextO Go.Proofs.Try.prog 8 = some () := by kernel_rfl
attribute [go_sem] tx_8
theorem fn_9 : nth Go.Proofs.Try.prog.funcs.toList 9 = some Go.Proofs.Try.f9 := by kernel_rfl
attribute [go_sem] fn_9
theorem tx_9 : isTextO Go.Proofs.Try.prog 9 = some () := by kernel_rfl
attribute [go_sem] tx_9
theorem fn_10 : nth Go.Proofs.Try.prog.funcs.toList 10 = some Go.Proofs.Try.f10 := by kernel_rfl
attribute [go_sem] fn_10
theorem tx_10 : isTextO Go.Proofs.Try.prog 10 = some () := by kernel_rfl
attribute [go_sem] tx_10
theorem fn_11 : nth Go.Proofs.Try.prog.funcs.toList 11 = some Go.Proofs.Try.f11 := by kernel_rfl
attribute [go_sem] fn_11
theorem tx_11 : isTextO Go.Proofs.Try.prog 11 = some () := by kernel_rfl
attribute [go_sem] tx_11
theorem fn_12 : nth Go.Proofs.Try.prog.funcs.toList 12 = some Go.Proofs.Try.f12 := by kernel_rfl
attribute [go_sem] fn_12
theorem tx_12 : isTextO Go.Proofs.Try.prog 12 = some () := by kernel_rfl
attribute [go_sem] tx_12
theorem fn_13 : nth Go.Proofs.Try.prog.funcs.toList 13 = some Go.Proofs.Try.f13 := by kernel_rfl
attribute [go_sem] fn_13
theorem tx_13 : isTextO Go.Proofs.Try.prog 13 = some () := by kernel_rfl
attribute [go_sem] tx_13
theorem fn_14 : nth Go.Proofs.Try.prog.funcs.toList 14 = some Go.Proofs.Try.f14 := by kernel_rfl
attribute [go_sem] fn_14
theorem tx_14 : isTextO Go.Proofs.Try.prog 14 = some () := by kernel_rfl
attribute [go_sem] tx_14
theorem fn_15 : nth Go.Proofs.Try.prog.funcs.toList 15 = some Go.Proofs.Try.f15 := by kernel_rfl
attribute [go_sem] fn_15
theorem tx_15 : isTextO Go.Proofs.Try.prog 15 = some () := by kernel_rfl
attribute [go_sem] tx_15
theorem fn_16 : nth Go.Proofs.Try.prog.funcs.toList 16 = some Go.Proofs.Try.f16 := by kernel_rfl
attribute [go_sem] fn_16
theorem tx_16 : isTextO Go.Proofs.Try.prog 16 = some () := by kernel_rfl
attribute [go_sem] tx_16
theorem fn_17 : nth Go.Proofs.Try.prog.funcs.toList 17 = some Go.Proofs.Try.f17 := by kernel_rfl
attribute [go_sem] fn_17
theorem tx_17 : isTextO Go.Proofs.Try.prog 17 = some () := by kernel_rfl
attribute [go_sem] tx_17
theorem fn_18 : nth Go.Proofs.Try.prog.funcs.toList 18 = some Go.Proofs.Try.f18 := by kernel_rfl
attribute [go_sem] fn_18
theorem tx_18 : isTextO Go.Proofs.Try.prog 18 = some () := by kernel_rfl
attribute [go_sem] tx_18
theorem fn_19 : nth Go.Proofs.Try.prog.funcs.toList 19 = some Go.Proofs.Try.f19 := by kernel_rfl
attribute [go_sem] fn_19
theorem tx_19 : isTextO Go.Proofs.Try.prog 19 = some () := by kernel_rfl
attribute [go_sem] tx_19
theorem fn_20 : nth Go.Proofs.Try.prog.funcs.toList 20 = some Go.Proofs.Try.f20 := by kernel_rfl
attribute [go_sem] fn_20
theorem tx_20 : isTextO Go.Proofs.Try.prog 20 = some () := by kernel_rfl
attribute [go_sem] tx_20
theorem fn_21 : nth Go.Proofs.Try.prog.funcs.toList 21 = some Go.Proofs.Try.f21 := by kernel_rfl
attribute [go_sem] fn_21
theorem tx_21 : isTextO Go.Proofs.Try.prog 21 = some () := by kernel_rfl
attribute [go_sem] tx_21
theorem fn_22 : nth Go.Proofs.Try.prog.funcs.toList 22 = some Go.Proofs.Try.f22 := by kernel_rfl
attribute [go_sem] fn_22
theorem tx_22 : isTextO Go.Proofs.Try.prog 22 = some () := by kernel_rfl
attribute [go_sem] tx_22
theorem fn_23 : nth Go.Proofs.Try.prog.funcs.toList 23 = some Go.Proofs.Try.f23 := by kernel_rfl
attribute [go_sem] fn_23
theorem tx_23 : isTextO Go.Proofs.Try.prog 23 = some () := by kernel_rfl
attribute [go_sem] tx_23
theorem fn_24 : nth Go.Proofs.Try.prog.funcs.toList 24 = some Go.Proofs.Try.f24 := by kernel_rfl
attribute [go_sem] fn_24
theorem tx_24 : isTextO Go.Proofs.Try.prog 24 = some () := by kernel_rfl
attribute [go_sem] tx_24
theorem fn_25 : nth Go.Proofs.Try.prog.funcs.toList 25 = some Go.Proofs.Try.f25 := by kernel_rfl
attribute [go_sem] fn_25
theorem tx_25 : isTextO Go.Proofs.Try.prog 25 = some () := by kernel_rfl
attribute [go_sem] tx_25
theorem fn_26 : nth Go.Proofs.Try.prog.funcs.toList 26 = some Go.Proofs.Try.f26 := by kernel_rfl
attribute [go_sem] fn_26
theorem tx_26 : isTextO Go.Proofs.Try.prog 26 = some () := by kernel_rfl
attribute [go_sem] tx_26
theorem fn_27 : nth Go.Proofs.Try.prog.funcs.toList 27 = some Go.Proofs.Try.f27 := by kernel_rfl
attribute [go_sem] fn_27
theorem tx_27 : isTextO Go.Proofs.Try.prog 27 = some () := by kernel_rfl
attribute [go_sem] tx_27
theorem fn_28 : nth Go.Proofs.Try.prog.funcs.toList 28 = some Go.Proofs.Try.f28 := by kernel_rfl
attribute [go_sem] fn_28
theorem tx_28 : isTextO Go.Proofs.Try.prog 28 = some () := by kernel_rfl
attribute [go_sem] tx_28
theorem fn_29 : nth Go.Proofs.Try.prog.funcs.toList 29 = some Go.Proofs.Try.f29 := by kernel_rfl
attribute [go_sem] fn_29
theorem tx_29 : isTextO Go.Proofs.Try.prog 29 = some () := by kernel_rfl
attribute [go_sem] tx_29
theorem fn_30 : nth Go.Proofs.Try.prog.funcs.toList 30 = some Go.Proofs.Try.f30 := by kernel_rfl
attribute [go_sem] fn_30
theorem tx_30 : isTextO Go.Proofs.Try.prog 30 = some () := by kernel_rfl
attribute [go_sem] tx_30
theorem fn_31 : nth Go.Proofs.Try.prog.funcs.toList 31 = some Go.Proofs.Try.f31 := by kernel_rfl
attribute [go_sem] fn_31
theorem tx_31 : isTextO Go.Proofs.Try.prog 31 = some () := by kernel_rfl
attribute [go_sem] tx_31
theorem fn_32 : nth Go.Proofs.Try.prog.funcs.toList 32 = some Go.Proofs.Try.f32 := by kernel_rfl
attribute [go_sem] fn_32
theorem tx_32 : isTextO Go.Proofs.Try.prog 32 = some () := by kernel_rfl
attribute [go_sem] tx_32
theorem fn_33 : nth Go.Proofs.Try.prog.funcs.toList 33 = some Go.Proofs.Try.f33 := by kernel_rfl
attribute [go_sem] fn_33
theorem tx_33 : isTextO Go.Proofs.Try.prog 33 = some () := by kernel_rfl
attribute [go_sem] tx_33
theorem fn_34 : nth Go.Proofs.Try.prog.funcs.toList 34 = some Go.Proofs.Try.f34 := by kernel_rfl
attribute [go_sem] fn_34
theorem tx_34 : isTextO Go.Proofs.Try.prog 34 = some () := by kernel_rfl
attribute [go_sem] tx_34
theorem fn_35 : nth Go.Proofs.Try.prog.funcs.toList 35 = some Go.Proofs.Try.f35 := by kernel_rfl
attribute [go_sem] fn_35
theorem tx_35 : isTextO Go.Proofs.Try.prog 35 = some () := by kernel_rfl
attribute [go_sem] tx_35
theorem fn_36 : nth Go.Proofs.Try.prog.funcs.toList 36 = some Go.Proofs.Try.f36 := by kernel_rfl
attribute [go_sem] fn_36
theorem tx_36 : isTextO Go.Proofs.Try.prog 36 = some () := by kernel_rfl
attribute [go_sem] tx_36
theorem fn_37 : nth Go.Proofs.Try.prog.funcs.toList 37 = some Go.Proofs.Try.f37 := by kernel_rfl
attribute [go_sem] fn_37
theorem tx_37 : isTextO Go.Proofs.Try.prog 37 = some () := by kernel_rfl
attribute [go_sem] tx_37
theorem fn_38 : nth Go.Proofs.Try.prog.funcs.toList 38 = some Go.Proofs.Try.f38 := by kernel_rfl
attribute [go_sem] fn_38
theorem tx_38 : isTextO Go.Proofs.Try.prog 38 = some () := by kernel_rfl
attribute [go_sem] tx_38
theorem fn_39 : nth Go.Proofs.Try.prog.funcs.toList 39 = some Go.Proofs.Try.f39 := by kernel_rfl
attribute [go_sem] fn_39
theorem tx_39 : isTextO Go.Proofs.Try.prog 39 = some () := by kernel_rfl
attribute [go_sem] tx_39
theorem fn_40 : nth Go.Proofs.Try.prog.funcs.toList 40 = some Go.Proofs.Try.f40 := by kernel_rfl
attribute [go_sem] fn_40
theorem tx_40 : isTextO Go.Proofs.Try.prog 40 = some () := by kernel_rfl
attribute [go_sem] tx_40
theorem fn_41 : nth Go.Proofs.Try.prog.funcs.toList 41 = some Go.Proofs.Try.f41 := by kernel_rfl
attribute [go_sem] fn_41
theorem tx_41 : isTextO Go.Proofs.Try.prog 41 = some () := by kernel_rfl
attribute [go_sem] tx_41
theorem fn_42 : nth Go.Proofs.Try.prog.funcs.toList 42 = some Go.Proofs.Try.f42 := by kernel_rfl
attribute [go_sem] fn_42
theorem tx_42 : isTextO Go.Proofs.Try.prog 42 = some () := by kernel_rfl
attribute [go_sem] tx_42
theorem fn_43 : nth Go.Proofs.Try.prog.funcs.toList 43 = some Go.Proofs.Try.f43 := by kernel_rfl
attribute [go_sem] fn_43
theorem tx_43 : isTextO Go.Proofs.Try.prog 43 = some () := by kernel_rfl
attribute [go_sem] tx_43
theorem fn_44 : nth Go.Proofs.Try.prog.funcs.toList 44 = some Go.Proofs.Try.f44 := by kernel_rfl
attribute [go_sem] fn_44
theorem tx_44 : isTextO Go.Proofs.Try.prog 44 = some () := by kernel_rfl
attribute [go_sem] tx_44
theorem fn_45 : nth Go.Proofs.Try.prog.funcs.toList 45 = some Go.Proofs.Try.f45 := by kernel_rfl
attribute [go_sem] fn_45
theorem tx_45 : isTextO Go.Proofs.Try.prog 45 = some () := by kernel_rfl
attribute [go_sem] tx_45
theorem fn_46 : nth Go.Proofs.Try.prog.funcs.toList 46 = some Go.Proofs.Try.f46 := by kernel_rfl
attribute [go_sem] fn_46
theorem tx_46 : isTextO Go.Proofs.Try.prog 46 = some () := by kernel_rfl
attribute [go_sem] tx_46
theorem fn_47 : nth Go.Proofs.Try.prog.funcs.toList 47 = some Go.Proofs.Try.f47 := by kernel_rfl
attribute [go_sem] fn_47
theorem tx_47 : isTextO Go.Proofs.Try.prog 47 = some () := by kernel_rfl
attribute [go_sem] tx_47
theorem fn_48 : nth Go.Proofs.Try.prog.funcs.toList 48 = some Go.Proofs.Try.f48 := by kernel_rfl
attribute [go_sem] fn_48
theorem tx_48 : isTextO Go.Proofs.Try.prog 48 = some () := by kernel_rfl
attribute [go_sem] tx_48
theorem fn_49 : nth Go.Proofs.Try.prog.funcs.toList 49 = some Go.Proofs.Try.f49 := by kernel_rfl
attribute [go_sem] fn_49
theorem tx_49 : isTextO Go.Proofs.Try.prog 49 = some () := by kernel_rfl
attribute [go_sem] tx_49
theorem fn_50 : nth Go.Proofs.Try.prog.funcs.toList 50 = some Go.Proofs.Try.f50 := by kernel_rfl
attribute [go_sem] fn_50
theorem tx_50 : isTextO Go.Proofs.Try.prog 50 = some () := by kernel_rfl
attribute [go_sem] tx_50
theorem fn_51 : nth Go.Proofs.Try.prog.funcs.toList 51 = some Go.Proofs.Try.f51 := by kernel_rfl
attribute [go_sem] fn_51
theorem tx_51 : isTextO Go.Proofs.Try.prog 51 = some () := by kernel_rfl
attribute [go_sem] tx_51
theorem fn_52 : nth Go.Proofs.Try.prog.funcs.toList 52 = some Go.Proofs.Try.f52 := by kernel_rfl
attribute [go_sem] fn_52
theorem tx_52 : isTextO Go.Proofs.Try.prog 52 = some () := by kernel_rfl
attribute [go_sem] tx_52
theorem fn_53 : nth Go.Proofs.Try.prog.funcs.toList 53 = some Go.Proofs.Try.f53 := by kernel_rfl
attribute [go_sem] fn_53
theorem tx_53 : isTextO Go.Proofs.Try.prog 53 = some () := by kernel_rfl
attribute [go_sem] tx_53
theorem fn_54 : nth Go.Proofs.Try.prog.funcs.toList 54 = some Go.Proofs.Try.f54 := by kernel_rfl
attribute [go_sem] fn_54
theorem tx_54 : isTextO Go.Proofs.Try.prog 54 = some () := by kernel_rfl
attribute [go_sem] tx_54
theorem fn_55 : nth Go.Proofs.Try.prog.funcs.toList 55 = some Go.Proofs.Try.f55 := by kernel_rfl
attribute [go_sem] fn_55
theorem tx_55 : isTextO Go.Proofs.Try.prog 55 = some () := by kernel_rfl
attribute [go_sem] tx_55
theorem fn_56 : nth Go.Proofs.Try.prog.funcs.toList 56 = some Go.Proofs.Try.f56 := by kernel_rfl
attribute [go_sem] fn_56
theorem tx_56 : isTextO Go.Proofs.Try.prog 56 = some () := by kernel_rfl
attribute [go_sem] tx_56
theorem fn_57 : nth Go.Proofs.Try.prog.funcs.toList 57 = some Go.Proofs.Try.f57 := by kernel_rfl
attribute [go_sem] fn_57
theorem tx_57 : isTextO Go.Proofs.Try.prog 57 = some () := by kernel_rfl
attribute [go_sem] tx_57
theorem fn_58 : nth Go.Proofs.Try.prog.funcs.toList 58 = some Go.Proofs.Try.f58 := by kernel_rfl
attribute [go_sem] fn_58
theorem tx_58 : isTextO Go.Proofs.Try.prog 58 = some () := by kernel_rfl
attribute [go_sem] tx_58
theorem fn_59 : nth Go.Proofs.Try.prog.funcs.toList 59 = some Go.Proofs.Try.f59 := by kernel_rfl
attribute [go_sem] fn_59
theorem tx_59 : isTextO Go.Proofs.Try.prog 59 = some () := by kernel_rfl
attribute [go_sem] tx_59
theorem fn_60 : nth Go.Proofs.Try.prog.funcs.toList 60 = some Go.Proofs.Try.f60 := by kernel_rfl
attribute [go_sem] fn_60
theorem tx_60 : isTextO Go.Proofs.Try.prog 60 = some () := by kernel_rfl
attribute [go_sem] tx_60
theorem fn_61 : nth Go.Proofs.Try.prog.funcs.toList 61 = some Go.Proofs.Try.f61 := by kernel_rfl
attribute [go_sem] fn_61
theorem tx_61 : isTextO Go.Proofs.Try.prog 61 = some () := by kernel_rfl
attribute [go_sem] tx_61
theorem fn_62 : nth Go.Proofs.Try.prog.funcs.toList 62 = some Go.Proofs.Try.f62 := by kernel_rfl
attribute [go_sem] fn_62
theorem tx_62 : isTextO Go.Proofs.Try.prog 62 = some () := by kernel_rfl
attribute [go_sem] tx_62
theorem fn_63 : nth Go.Proofs.Try.prog.funcs.toList 63 = some Go.Proofs.Try.f63 := by kernel_rfl
attribute [go_sem] fn_63
theorem tx_63 : isTextO Go.Proofs.Try.prog 63 = some () := by kernel_rfl
attribute [go_sem] tx_63
theorem fn_64 : nth Go.Proofs.Try.prog.funcs.toList 64 = some Go.Proofs.Try.f64 := by kernel_rfl
attribute [go_sem] fn_64
theorem tx_64 : isTextO Go.Proofs.Try.prog 64 = some () := by kernel_rfl
attribute [go_sem] tx_64
theorem fn_65 : nth Go.Proofs.Try.prog.funcs.toList 65 = some Go.Proofs.Try.f65 := by kernel_rfl
attribute [go_sem] fn_65
theorem tx_65 : isTextO Go.Proofs.Try.prog 65 = some () := by kernel_rfl
attribute [go_sem] tx_65
theorem fn_66 : nth Go.Proofs.Try.prog.funcs.toList 66 = some Go.Proofs.Try.f66 := by kernel_rfl
attribute [go_sem] fn_66
theorem tx_66 : isTextO Go.Proofs.Try.prog 66 = some () := by kernel_rfl
attribute [go_sem] tx_66
theorem fn_67 : nth Go.Proofs.Try.prog.funcs.toList 67 = some Go.Proofs.Try.f67 := by kernel_rfl
attribute [go_sem] fn_67
theorem tx_67 : isTextO Go.Proofs.Try.prog 67 = some () := by kernel_rfl
attribute [go_sem] tx_67
theorem fn_68 : nth Go.Proofs.Try.prog.funcs.toList 68 = some Go.Proofs.Try.f68 := by kernel_rfl
attribute [go_sem] fn_68
theorem tx_68 : isTextO Go.Proofs.Try.prog 68 = some () := by kernel_rfl
attribute [go_sem] tx_68
theorem fn_69 : nth Go.Proofs.Try.prog.funcs.toList 69 = some Go.Proofs.Try.f69 := by kernel_rfl
attribute [go_sem] fn_69
theorem tx_69 : isTextO Go.Proofs.Try.prog 69 = some () := by kernel_rfl
attribute [go_sem] tx_69
theorem fn_70 : nth Go.Proofs.Try.prog.funcs.toList 70 = some Go.Proofs.Try.f70 := by kernel_rfl
attribute [go_sem] fn_70
theorem tx_70 : isTextO Go.Proofs.Try.prog 70 = some () := by kernel_rfl
attribute [go_sem] tx_70
theorem fn_71 : nth Go.Proofs.Try.prog.funcs.toList 71 = some Go.Proofs.Try.f71 := by kernel_rfl
attribute [go_sem] fn_71
theorem tx_71 : isTextO Go.Proofs.Try.prog 71 = some () := by kernel_rfl
attribute [go_sem] tx_71
theorem fn_72 : nth Go.Proofs.Try.prog.funcs.toList 72 = some Go.Proofs.Try.f72 := by kernel_rfl
attribute [go_sem] fn_72
theorem tx_72 : isTextO Go.Proofs.Try.prog 72 = some () := by kernel_rfl
attribute [go_sem] tx_72
theorem fn_73 : nth Go.Proofs.Try.prog.funcs.toList 73 = some Go.Proofs.Try.f73 := by kernel_rfl
attribute [go_sem] fn_73
theorem tx_73 : isTextO Go.Proofs.Try.prog 73 = some () := by kernel_rfl
attribute [go_sem] tx_73
theorem fn_74 : nth Go.Proofs.Try.prog.funcs.toList 74 = some Go.Proofs.Try.f74 := by kernel_rfl
attribute [go_sem] fn_74
theorem tx_74 : isTextO Go.Proofs.Try.prog 74 = some () := by kernel_rfl
attribute [go_sem] tx_74
theorem fn_75 : nth Go.Proofs.Try.prog.funcs.toList 75 = some Go.Proofs.Try.f75 := by kernel_rfl
attribute [go_sem] fn_75
theorem tx_75 : isTextO Go.Proofs.Try.prog 75 = some () := by kernel_rfl
attribute [go_sem] tx_75
theorem fn_76 : nth Go.Proofs.Try.prog.funcs.toList 76 = some Go.Proofs.Try.f76 := by kernel_rfl
attribute [go_sem] fn_76
theorem tx_76 : isTextO Go.Proofs.Try.prog 76 = some () := by kernel_rfl
attribute [go_sem] tx_76
theorem fn_77 : nth Go.Proofs.Try.prog.funcs.toList 77 = some Go.Proofs.Try.f77 := by kernel_rfl
attribute [go_sem] fn_77
theorem tx_77 : isTextO Go.Proofs.Try.prog 77 = some () := by kernel_rfl
attribute [go_sem] tx_77
theorem fn_78 : nth Go.Proofs.Try.prog.funcs.toList 78 = some Go.Proofs.Try.f78 := by kernel_rfl
attribute [go_sem] fn_78
theorem tx_78 : isTextO Go.Proofs.Try.prog 78 = some () := by kernel_rfl
attribute [go_sem] tx_78
theorem fn_79 : nth Go.Proofs.Try.prog.funcs.toList 79 = some Go.Proofs.Try.f79 := by kernel_rfl
attribute [go_sem] fn_79
theorem tx_79 : isTextO Go.Proofs.Try.prog 79 = some () := by kernel_rfl
attribute [go_sem] tx_79
theorem fn_80 : nth Go.Proofs.Try.prog.funcs.toList 80 = some Go.Proofs.Try.f80 := by kernel_rfl
attribute [go_sem] fn_80
theorem tx_80 : isTextO Go.Proofs.Try.prog 80 = some () := by kernel_rfl
attribute [go_sem] tx_80
theorem fn_81 : nth Go.Proofs.Try.prog.funcs.toList 81 = some Go.Proofs.Try.f81 := by kernel_rfl
attribute [go_sem] fn_81
theorem tx_81 : isTextO Go.Proofs.Try.prog 81 = some () := by kernel_rfl
attribute [go_sem] tx_81
theorem fn_82 : nth Go.Proofs.Try.prog.funcs.toList 82 = some Go.Proofs.Try.f82 := by kernel_rfl
attribute [go_sem] fn_82
theorem tx_82 : isTextO Go.Proofs.Try.prog 82 = some () := by kernel_rfl
attribute [go_sem] tx_82
theorem fn_83 : nth Go.Proofs.Try.prog.funcs.toList 83 = some Go.Proofs.Try.f83 := by kernel_rfl
attribute [go_sem] fn_83
theorem tx_83 : isTextO Go.Proofs.Try.prog 83 = some () := by kernel_rfl
attribute [go_sem] tx_83
theorem fn_84 : nth Go.Proofs.Try.prog.funcs.toList 84 = some Go.Proofs.Try.f84 := by kernel_rfl
attribute [go_sem] fn_84
theorem tx_84 : isTextO Go.Proofs.Try.prog 84 = some () := by kernel_rfl
attribute [go_sem] tx_84
theorem fn_85 : nth Go.Proofs.Try.prog.funcs.toList 85 = some Go.Proofs.Try.f85 := by kernel_rfl
attribute [go_sem] fn_85
theorem tx_85 : isTextO Go.Proofs.Try.prog 85 = some () := by kernel_rfl
attribute [go_sem] tx_85
theorem fn_86 : nth Go.Proofs.Try.prog.funcs.toList 86 = some Go.Proofs.Try.f86 := by kernel_rfl
attribute [go_sem] fn_86
theorem tx_86 : isTextO Go.Proofs.Try.prog 86 = some () := by kernel_rfl
attribute [go_sem] tx_86
theorem fn_87 : nth Go.Proofs.Try.prog.funcs.toList 87 = some Go.Proofs.Try.f87 := by kernel_rfl
attribute [go_sem] fn_87
theorem tx_87 : isTextO Go.Proofs.Try.prog 87 = some () := by kernel_rfl
attribute [go_sem] tx_87
theorem fn_88 : nth Go.Proofs.Try.prog.funcs.toList 88 = some Go.Proofs.Try.f88 := by kernel_rfl
attribute [go_sem] fn_88
theorem tx_88 : isTextO Go.Proofs.Try.prog 88 = some () := by kernel_rfl
attribute [go_sem] tx_88
end Go.Cl.O
