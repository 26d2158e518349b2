/- Facts of the program's tables, each read off by the kernel. -/
import Derived.Attr
import Derived.KernelRfl
import Derived.Test.YtifjdkohbhpmpaaDoorProg
import Derived.Test.YtifjdkohbhpmpaaDoorClG
set_option linter.all false
namespace Go.Cl.Sh
open Go Go.Cl
theorem sz_0 : szOf Go.Proofs.Tryd.prog 0 = some 1 := by kernel_rfl
attribute [go_sem] sz_0
theorem ld_0 (h : H) (id off : Nat) : loadT Go.Proofs.Tryd.prog h 0 id off = @thn _ _ (h.blk id) ⟨fun b => b.get off⟩ := by kernel_rfl
attribute [go_sem] ld_0
theorem st_0 (h : H) (id off : Nat) (v : CV) : storeT Go.Proofs.Tryd.prog h 0 id off v = @thn _ _ (h.blk id) ⟨fun b => cond (Nat.beq v.cells.length 1 && !b.ro) ((b.storeA off v.cells).map fun b' => h.put id (.cells b')) none⟩ := by kernel_rfl
attribute [go_sem] st_0
theorem part_0 (cs : List CV) (off : Nat) : partT Go.Proofs.Tryd.prog 0 cs off = nth cs off := by kernel_rfl
attribute [go_sem] part_0
theorem sz_1 : szOf Go.Proofs.Tryd.prog 1 = some 1 := by kernel_rfl
attribute [go_sem] sz_1
theorem ld_1 (h : H) (id off : Nat) : loadT Go.Proofs.Tryd.prog h 1 id off = @thn _ _ (h.blk id) ⟨fun b => b.get off⟩ := by kernel_rfl
attribute [go_sem] ld_1
theorem st_1 (h : H) (id off : Nat) (v : CV) : storeT Go.Proofs.Tryd.prog h 1 id off v = @thn _ _ (h.blk id) ⟨fun b => cond (Nat.beq v.cells.length 1 && !b.ro) ((b.storeA off v.cells).map fun b' => h.put id (.cells b')) none⟩ := by kernel_rfl
attribute [go_sem] st_1
theorem part_1 (cs : List CV) (off : Nat) : partT Go.Proofs.Tryd.prog 1 cs off = nth cs off := by kernel_rfl
attribute [go_sem] part_1
theorem ze_1 : zeroT Go.Proofs.Tryd.prog 1 = some (.nilf) := by kernel_rfl
attribute [go_sem] ze_1
theorem eq_1 (xo yo : Operand) (f : Fn) (a b : List CV) : binT Go.Proofs.Tryd.prog .eql 1 xo yo (.fn f a b) .nilf = some (.bool false) := by kernel_rfl
attribute [go_sem] eq_1
theorem eq_1_n (xo yo : Operand) : binT Go.Proofs.Tryd.prog .eql 1 xo yo .nilf .nilf = some (.bool true) := by kernel_rfl
attribute [go_sem] eq_1_n
theorem ne_1 (xo yo : Operand) (f : Fn) (a b : List CV) : binT Go.Proofs.Tryd.prog .neq 1 xo yo (.fn f a b) .nilf = some (.bool true) := by kernel_rfl
attribute [go_sem] ne_1
theorem ne_1_n (xo yo : Operand) : binT Go.Proofs.Tryd.prog .neq 1 xo yo .nilf .nilf = some (.bool false) := by kernel_rfl
attribute [go_sem] ne_1_n
theorem sz_2 : szOf Go.Proofs.Tryd.prog 2 = some 1 := by kernel_rfl
attribute [go_sem] sz_2
theorem ld_2 (h : H) (id off : Nat) : loadT Go.Proofs.Tryd.prog h 2 id off = @thn _ _ (h.blk id) ⟨fun b => b.get off⟩ := by kernel_rfl
attribute [go_sem] ld_2
theorem st_2 (h : H) (id off : Nat) (v : CV) : storeT Go.Proofs.Tryd.prog h 2 id off v = @thn _ _ (h.blk id) ⟨fun b => cond (Nat.beq v.cells.length 1 && !b.ro) ((b.storeA off v.cells).map fun b' => h.put id (.cells b')) none⟩ := by kernel_rfl
attribute [go_sem] st_2
theorem part_2 (cs : List CV) (off : Nat) : partT Go.Proofs.Tryd.prog 2 cs off = nth cs off := by kernel_rfl
attribute [go_sem] part_2
theorem ze_2 : zeroT Go.Proofs.Tryd.prog 2 = some (.int .i64 0) := by kernel_rfl
attribute [go_sem] ze_2
theorem sz_3 : szOf Go.Proofs.Tryd.prog 3 = some 1 := by kernel_rfl
attribute [go_sem] sz_3
theorem ld_3 (h : H) (id off : Nat) : loadT Go.Proofs.Tryd.prog h 3 id off = @thn _ _ (h.blk id) ⟨fun b => b.get off⟩ := by kernel_rfl
attribute [go_sem] ld_3
theorem st_3 (h : H) (id off : Nat) (v : CV) : storeT Go.Proofs.Tryd.prog h 3 id off v = @thn _ _ (h.blk id) ⟨fun b => cond (Nat.beq v.cells.length 1 && !b.ro) ((b.storeA off v.cells).map fun b' => h.put id (.cells b')) none⟩ := by kernel_rfl
attribute [go_sem] st_3
theorem part_3 (cs : List CV) (off : Nat) : partT Go.Proofs.Tryd.prog 3 cs off = nth cs off := by kernel_rfl
attribute [go_sem] part_3
theorem ze_3 : zeroT Go.Proofs.Tryd.prog 3 = some (.int .i64 0) := by kernel_rfl
attribute [go_sem] ze_3
theorem sz_4 : szOf Go.Proofs.Tryd.prog 4 = some 1 := by kernel_rfl
attribute [go_sem] sz_4
theorem ld_4 (h : H) (id off : Nat) : loadT Go.Proofs.Tryd.prog h 4 id off = @thn _ _ (h.blk id) ⟨fun b => b.get off⟩ := by kernel_rfl
attribute [go_sem] ld_4
theorem st_4 (h : H) (id off : Nat) (v : CV) : storeT Go.Proofs.Tryd.prog h 4 id off v = @thn _ _ (h.blk id) ⟨fun b => cond (Nat.beq v.cells.length 1 && !b.ro) ((b.storeA off v.cells).map fun b' => h.put id (.cells b')) none⟩ := by kernel_rfl
attribute [go_sem] st_4
theorem part_4 (cs : List CV) (off : Nat) : partT Go.Proofs.Tryd.prog 4 cs off = nth cs off := by kernel_rfl
attribute [go_sem] part_4
theorem ze_4 : zeroT Go.Proofs.Tryd.prog 4 = some (.bool false) := by kernel_rfl
attribute [go_sem] ze_4
theorem eq_4 (xo yo : Operand) (a b : Bool) : binT Go.Proofs.Tryd.prog .eql 4 xo yo (.bool a) (.bool b) = some (.bool (a == b)) := by kernel_rfl
attribute [go_sem] eq_4
theorem ne_4 (xo yo : Operand) (a b : Bool) : binT Go.Proofs.Tryd.prog .neq 4 xo yo (.bool a) (.bool b) = some (.bool (!(a == b))) := by kernel_rfl
attribute [go_sem] ne_4
theorem sz_5 : szOf Go.Proofs.Tryd.prog 5 = some 1 := by kernel_rfl
attribute [go_sem] sz_5
theorem ld_5 (h : H) (id off : Nat) : loadT Go.Proofs.Tryd.prog h 5 id off = @thn _ _ (h.blk id) ⟨fun b => b.get off⟩ := by kernel_rfl
attribute [go_sem] ld_5
theorem st_5 (h : H) (id off : Nat) (v : CV) : storeT Go.Proofs.Tryd.prog h 5 id off v = @thn _ _ (h.blk id) ⟨fun b => cond (Nat.beq v.cells.length 1 && !b.ro) ((b.storeA off v.cells).map fun b' => h.put id (.cells b')) none⟩ := by kernel_rfl
attribute [go_sem] st_5
theorem part_5 (cs : List CV) (off : Nat) : partT Go.Proofs.Tryd.prog 5 cs off = nth cs off := by kernel_rfl
attribute [go_sem] part_5
theorem ze_5 : zeroT Go.Proofs.Tryd.prog 5 = some (.int .u8 0) := by kernel_rfl
attribute [go_sem] ze_5
theorem sz_9 : szOf Go.Proofs.Tryd.prog 9 = some 1 := by kernel_rfl
attribute [go_sem] sz_9
theorem ld_9 (h : H) (id off : Nat) : loadT Go.Proofs.Tryd.prog h 9 id off = @thn _ _ (h.blk id) ⟨fun b => b.get off⟩ := by kernel_rfl
attribute [go_sem] ld_9
theorem st_9 (h : H) (id off : Nat) (v : CV) : storeT Go.Proofs.Tryd.prog h 9 id off v = @thn _ _ (h.blk id) ⟨fun b => cond (Nat.beq v.cells.length 1 && !b.ro) ((b.storeA off v.cells).map fun b' => h.put id (.cells b')) none⟩ := by kernel_rfl
attribute [go_sem] st_9
theorem part_9 (cs : List CV) (off : Nat) : partT Go.Proofs.Tryd.prog 9 cs off = nth cs off := by kernel_rfl
attribute [go_sem] part_9
theorem ze_9 : zeroT Go.Proofs.Tryd.prog 9 = some (.str []) := by kernel_rfl
attribute [go_sem] ze_9
theorem ix_9 (s : List Nat) (k : Nat) (kd : IntKind) : indexT Go.Proofs.Tryd.prog 9 (.str s) (.int kd (Int.ofNat k)) = (nth s k).map fun b => .int .u8 (Int.ofNat b) := by kernel_rfl
attribute [go_sem] ix_9
theorem len_9 (h : H) (ts : List TypeId) (az : List CV) (s : List Nat) : builtinT Go.Proofs.Tryd.prog h .len (9 :: ts) (.str s :: az) = some (.val (.int .i64 (Int.ofNat s.length))) := by kernel_rfl
attribute [go_sem] len_9
theorem sz_12 : szOf Go.Proofs.Tryd.prog 12 = some 1 := by kernel_rfl
attribute [go_sem] sz_12
theorem ld_12 (h : H) (id off : Nat) : loadT Go.Proofs.Tryd.prog h 12 id off = @thn _ _ (h.blk id) ⟨fun b => b.get off⟩ := by kernel_rfl
attribute [go_sem] ld_12
theorem st_12 (h : H) (id off : Nat) (v : CV) : storeT Go.Proofs.Tryd.prog h 12 id off v = @thn _ _ (h.blk id) ⟨fun b => cond (Nat.beq v.cells.length 1 && !b.ro) ((b.storeA off v.cells).map fun b' => h.put id (.cells b')) none⟩ := by kernel_rfl
attribute [go_sem] st_12
theorem part_12 (cs : List CV) (off : Nat) : partT Go.Proofs.Tryd.prog 12 cs off = nth cs off := by kernel_rfl
attribute [go_sem] part_12
theorem ze_12 : zeroT Go.Proofs.Tryd.prog 12 = some (.int .u64 0) := by kernel_rfl
attribute [go_sem] ze_12
theorem sz_13 : szOf Go.Proofs.Tryd.prog 13 = some 2 := by kernel_rfl
attribute [go_sem] sz_13
theorem ld_13 (h : H) (id off : Nat) : loadT Go.Proofs.Tryd.prog h 13 id off = @thn _ _ (h.blk id) ⟨fun b => (b.loadN off 2).map .agg⟩ := by kernel_rfl
attribute [go_sem] ld_13
theorem st_13 (h : H) (id off : Nat) (v : CV) : storeT Go.Proofs.Tryd.prog h 13 id off v = @thn _ _ (h.blk id) ⟨fun b => cond (Nat.beq v.cells.length 2 && !b.ro) ((b.storeA off v.cells).map fun b' => h.put id (.cells b')) none⟩ := by kernel_rfl
attribute [go_sem] st_13
theorem part_13 (cs : List CV) (off : Nat) : partT Go.Proofs.Tryd.prog 13 cs off = some (.agg ((cs.drop off).take 2)) := by kernel_rfl
attribute [go_sem] part_13
theorem ze_13 : zeroT Go.Proofs.Tryd.prog 13 = some (.agg [.str [], .int .u64 0]) := by kernel_rfl
attribute [go_sem] ze_13
theorem bt_13 (parts : List (Nat × CV)) : buildT Go.Proofs.Tryd.prog 13 parts = finB (CV.cells (.agg [.str [], .int .u64 0])) (nth [(0, 1), (1, 1)]) parts := by kernel_rfl
attribute [go_sem] bt_13
theorem fa_13_0 (id off : Nat) : fieldAddrT Go.Proofs.Tryd.prog 13 (.ptr id off) 0 = some (.ptr id (off)) := by kernel_rfl
attribute [go_sem] fa_13_0
theorem fd_13_0 (cs : List CV) : fieldT Go.Proofs.Tryd.prog 13 (.agg cs) 0 = partT Go.Proofs.Tryd.prog 9 cs 0 := by kernel_rfl
attribute [go_sem] fd_13_0
theorem fa_13_1 (id off : Nat) : fieldAddrT Go.Proofs.Tryd.prog 13 (.ptr id off) 1 = some (.ptr id (off + 1)) := by kernel_rfl
attribute [go_sem] fa_13_1
theorem fd_13_1 (cs : List CV) : fieldT Go.Proofs.Tryd.prog 13 (.agg cs) 1 = partT Go.Proofs.Tryd.prog 12 cs 1 := by kernel_rfl
attribute [go_sem] fd_13_1
theorem sz_20 : szOf Go.Proofs.Tryd.prog 20 = some 1 := by kernel_rfl
attribute [go_sem] sz_20
theorem ld_20 (h : H) (id off : Nat) : loadT Go.Proofs.Tryd.prog h 20 id off = @thn _ _ (h.blk id) ⟨fun b => b.get off⟩ := by kernel_rfl
attribute [go_sem] ld_20
theorem st_20 (h : H) (id off : Nat) (v : CV) : storeT Go.Proofs.Tryd.prog h 20 id off v = @thn _ _ (h.blk id) ⟨fun b => cond (Nat.beq v.cells.length 1 && !b.ro) ((b.storeA off v.cells).map fun b' => h.put id (.cells b')) none⟩ := by kernel_rfl
attribute [go_sem] st_20
theorem part_20 (cs : List CV) (off : Nat) : partT Go.Proofs.Tryd.prog 20 cs off = nth cs off := by kernel_rfl
attribute [go_sem] part_20
theorem ze_20 : zeroT Go.Proofs.Tryd.prog 20 = some (.nili) := by kernel_rfl
attribute [go_sem] ze_20
theorem sz_21 : szOf Go.Proofs.Tryd.prog 21 = some 1 := by kernel_rfl
attribute [go_sem] sz_21
theorem ld_21 (h : H) (id off : Nat) : loadT Go.Proofs.Tryd.prog h 21 id off = @thn _ _ (h.blk id) ⟨fun b => b.get off⟩ := by kernel_rfl
attribute [go_sem] ld_21
theorem st_21 (h : H) (id off : Nat) (v : CV) : storeT Go.Proofs.Tryd.prog h 21 id off v = @thn _ _ (h.blk id) ⟨fun b => cond (Nat.beq v.cells.length 1 && !b.ro) ((b.storeA off v.cells).map fun b' => h.put id (.cells b')) none⟩ := by kernel_rfl
attribute [go_sem] st_21
theorem part_21 (cs : List CV) (off : Nat) : partT Go.Proofs.Tryd.prog 21 cs off = nth cs off := by kernel_rfl
attribute [go_sem] part_21
theorem ze_21 : zeroT Go.Proofs.Tryd.prog 21 = some (.int .i32 0) := by kernel_rfl
attribute [go_sem] ze_21
theorem sz_23 : szOf Go.Proofs.Tryd.prog 23 = some 1 := by kernel_rfl
attribute [go_sem] sz_23
theorem ld_23 (h : H) (id off : Nat) : loadT Go.Proofs.Tryd.prog h 23 id off = @thn _ _ (h.blk id) ⟨fun b => b.get off⟩ := by kernel_rfl
attribute [go_sem] ld_23
theorem st_23 (h : H) (id off : Nat) (v : CV) : storeT Go.Proofs.Tryd.prog h 23 id off v = @thn _ _ (h.blk id) ⟨fun b => cond (Nat.beq v.cells.length 1 && !b.ro) ((b.storeA off v.cells).map fun b' => h.put id (.cells b')) none⟩ := by kernel_rfl
attribute [go_sem] st_23
theorem part_23 (cs : List CV) (off : Nat) : partT Go.Proofs.Tryd.prog 23 cs off = nth cs off := by kernel_rfl
attribute [go_sem] part_23
theorem ze_23 : zeroT Go.Proofs.Tryd.prog 23 = some (.int .u64 0) := by kernel_rfl
attribute [go_sem] ze_23
theorem sz_24 : szOf Go.Proofs.Tryd.prog 24 = some 2 := by kernel_rfl
attribute [go_sem] sz_24
theorem ld_24 (h : H) (id off : Nat) : loadT Go.Proofs.Tryd.prog h 24 id off = @thn _ _ (h.blk id) ⟨fun b => (b.loadN off 2).map .agg⟩ := by kernel_rfl
attribute [go_sem] ld_24
theorem st_24 (h : H) (id off : Nat) (v : CV) : storeT Go.Proofs.Tryd.prog h 24 id off v = @thn _ _ (h.blk id) ⟨fun b => cond (Nat.beq v.cells.length 2 && !b.ro) ((b.storeA off v.cells).map fun b' => h.put id (.cells b')) none⟩ := by kernel_rfl
attribute [go_sem] st_24
theorem part_24 (cs : List CV) (off : Nat) : partT Go.Proofs.Tryd.prog 24 cs off = some (.agg ((cs.drop off).take 2)) := by kernel_rfl
attribute [go_sem] part_24
theorem ze_24 : zeroT Go.Proofs.Tryd.prog 24 = some (.agg [.int .u64 0, .int .u64 0]) := by kernel_rfl
attribute [go_sem] ze_24
theorem ia_24 (id off k : Nat) (kd : IntKind) : indexAddrT Go.Proofs.Tryd.prog 24 (.ptr id off) (.int kd (Int.ofNat k)) = cond (Nat.blt k 2) (some (.ptr id (off + k * 1))) none := by kernel_rfl
attribute [go_sem] ia_24
theorem ix_24 (cs : List CV) (k : Nat) (kd : IntKind) : indexT Go.Proofs.Tryd.prog 24 (.agg cs) (.int kd (Int.ofNat k)) = cond (Nat.blt k 2) (partT Go.Proofs.Tryd.prog 23 cs (k * 1)) none := by kernel_rfl
attribute [go_sem] ix_24
theorem len_24 (h : H) (ts : List TypeId) (az : List CV) (a : CV) : builtinT Go.Proofs.Tryd.prog h .len (24 :: ts) (a :: az) = some (.val (.int .i64 2)) := by kernel_rfl
attribute [go_sem] len_24
theorem bt_24 (parts : List (Nat × CV)) : buildT Go.Proofs.Tryd.prog 24 parts = finB (CV.cells (.agg [.int .u64 0, .int .u64 0])) (fun i => some (i * 1, 1)) parts := by kernel_rfl
attribute [go_sem] bt_24
theorem sz_25 : szOf Go.Proofs.Tryd.prog 25 = some 4 := by kernel_rfl
attribute [go_sem] sz_25
theorem ld_25 (h : H) (id off : Nat) : loadT Go.Proofs.Tryd.prog h 25 id off = @thn _ _ (h.blk id) ⟨fun b => (b.loadN off 4).map .agg⟩ := by kernel_rfl
attribute [go_sem] ld_25
theorem st_25 (h : H) (id off : Nat) (v : CV) : storeT Go.Proofs.Tryd.prog h 25 id off v = @thn _ _ (h.blk id) ⟨fun b => cond (Nat.beq v.cells.length 4 && !b.ro) ((b.storeA off v.cells).map fun b' => h.put id (.cells b')) none⟩ := by kernel_rfl
attribute [go_sem] st_25
theorem part_25 (cs : List CV) (off : Nat) : partT Go.Proofs.Tryd.prog 25 cs off = some (.agg ((cs.drop off).take 4)) := by kernel_rfl
attribute [go_sem] part_25
theorem ze_25 : zeroT Go.Proofs.Tryd.prog 25 = some (.agg [.int .u64 0, .int .u64 0, .int .u64 0, .int .u64 0]) := by kernel_rfl
attribute [go_sem] ze_25
theorem bt_25 (parts : List (Nat × CV)) : buildT Go.Proofs.Tryd.prog 25 parts = finB (CV.cells (.agg [.int .u64 0, .int .u64 0, .int .u64 0, .int .u64 0])) (nth [(0, 1), (1, 1), (2, 2)]) parts := by kernel_rfl
attribute [go_sem] bt_25
theorem fa_25_0 (id off : Nat) : fieldAddrT Go.Proofs.Tryd.prog 25 (.ptr id off) 0 = some (.ptr id (off)) := by kernel_rfl
attribute [go_sem] fa_25_0
theorem fd_25_0 (cs : List CV) : fieldT Go.Proofs.Tryd.prog 25 (.agg cs) 0 = partT Go.Proofs.Tryd.prog 23 cs 0 := by kernel_rfl
attribute [go_sem] fd_25_0
theorem fa_25_1 (id off : Nat) : fieldAddrT Go.Proofs.Tryd.prog 25 (.ptr id off) 1 = some (.ptr id (off + 1)) := by kernel_rfl
attribute [go_sem] fa_25_1
theorem fd_25_1 (cs : List CV) : fieldT Go.Proofs.Tryd.prog 25 (.agg cs) 1 = partT Go.Proofs.Tryd.prog 23 cs 1 := by kernel_rfl
attribute [go_sem] fd_25_1
theorem fa_25_2 (id off : Nat) : fieldAddrT Go.Proofs.Tryd.prog 25 (.ptr id off) 2 = some (.ptr id (off + 2)) := by kernel_rfl
attribute [go_sem] fa_25_2
theorem fd_25_2 (cs : List CV) : fieldT Go.Proofs.Tryd.prog 25 (.agg cs) 2 = partT Go.Proofs.Tryd.prog 24 cs 2 := by kernel_rfl
attribute [go_sem] fd_25_2
theorem sz_38 : szOf Go.Proofs.Tryd.prog 38 = some 1 := by kernel_rfl
attribute [go_sem] sz_38
theorem ld_38 (h : H) (id off : Nat) : loadT Go.Proofs.Tryd.prog h 38 id off = @thn _ _ (h.blk id) ⟨fun b => b.get off⟩ := by kernel_rfl
attribute [go_sem] ld_38
theorem st_38 (h : H) (id off : Nat) (v : CV) : storeT Go.Proofs.Tryd.prog h 38 id off v = @thn _ _ (h.blk id) ⟨fun b => cond (Nat.beq v.cells.length 1 && !b.ro) ((b.storeA off v.cells).map fun b' => h.put id (.cells b')) none⟩ := by kernel_rfl
attribute [go_sem] st_38
theorem part_38 (cs : List CV) (off : Nat) : partT Go.Proofs.Tryd.prog 38 cs off = nth cs off := by kernel_rfl
attribute [go_sem] part_38
theorem ze_38 : zeroT Go.Proofs.Tryd.prog 38 = some (.nilf) := by kernel_rfl
attribute [go_sem] ze_38
theorem eq_38 (xo yo : Operand) (f : Fn) (a b : List CV) : binT Go.Proofs.Tryd.prog .eql 38 xo yo (.fn f a b) .nilf = some (.bool false) := by kernel_rfl
attribute [go_sem] eq_38
theorem eq_38_n (xo yo : Operand) : binT Go.Proofs.Tryd.prog .eql 38 xo yo .nilf .nilf = some (.bool true) := by kernel_rfl
attribute [go_sem] eq_38_n
theorem ne_38 (xo yo : Operand) (f : Fn) (a b : List CV) : binT Go.Proofs.Tryd.prog .neq 38 xo yo (.fn f a b) .nilf = some (.bool true) := by kernel_rfl
attribute [go_sem] ne_38
theorem ne_38_n (xo yo : Operand) : binT Go.Proofs.Tryd.prog .neq 38 xo yo .nilf .nilf = some (.bool false) := by kernel_rfl
attribute [go_sem] ne_38_n
theorem sz_39 : szOf Go.Proofs.Tryd.prog 39 = some 1 := by kernel_rfl
attribute [go_sem] sz_39
theorem ld_39 (h : H) (id off : Nat) : loadT Go.Proofs.Tryd.prog h 39 id off = @thn _ _ (h.blk id) ⟨fun b => b.get off⟩ := by kernel_rfl
attribute [go_sem] ld_39
theorem st_39 (h : H) (id off : Nat) (v : CV) : storeT Go.Proofs.Tryd.prog h 39 id off v = @thn _ _ (h.blk id) ⟨fun b => cond (Nat.beq v.cells.length 1 && !b.ro) ((b.storeA off v.cells).map fun b' => h.put id (.cells b')) none⟩ := by kernel_rfl
attribute [go_sem] st_39
theorem part_39 (cs : List CV) (off : Nat) : partT Go.Proofs.Tryd.prog 39 cs off = nth cs off := by kernel_rfl
attribute [go_sem] part_39
theorem ze_39 : zeroT Go.Proofs.Tryd.prog 39 = some (.nils) := by kernel_rfl
attribute [go_sem] ze_39
theorem ia_39 (id off len k : Nat) (c : Cap) (kd : IntKind) : indexAddrT Go.Proofs.Tryd.prog 39 (.sl id off len c) (.int kd (Int.ofNat k)) = cond (Nat.blt k len) (some (.ptr id (off + k * 1))) none := by kernel_rfl
attribute [go_sem] ia_39
theorem len_39 (h : H) (id off len : Nat) (c : Cap) (ts : List TypeId) (az : List CV) : builtinT Go.Proofs.Tryd.prog h .len (39 :: ts) (.sl id off len c :: az) = some (.val (.int .i64 (Int.ofNat len))) := by kernel_rfl
attribute [go_sem] len_39
theorem len_39_n (h : H) (ts : List TypeId) (az : List CV) : builtinT Go.Proofs.Tryd.prog h .len (39 :: ts) (.nils :: az) = some (.val (.int .i64 0)) := by kernel_rfl
attribute [go_sem] len_39_n
theorem app_39 (h : H) (s : CV) (id off len : Nat) (c : Cap) (ts : List TypeId) (az : List CV) : builtinT Go.Proofs.Tryd.prog h .append (39 :: 39 :: ts) (s :: .sl id off len c :: az) = uv (appendT Go.Proofs.Tryd.prog h 39 s (.sl id off len c)) := by kernel_rfl
attribute [go_sem] app_39
theorem app_39_n (h : H) (s : CV) (ts : List TypeId) (az : List CV) : builtinT Go.Proofs.Tryd.prog h .append (39 :: 39 :: ts) (s :: .nils :: az) = uv (appendT Go.Proofs.Tryd.prog h 39 s .nils) := by kernel_rfl
attribute [go_sem] app_39_n
theorem ap_39 (h : H) (s : CV) (id off len : Nat) (c : Cap) : appendT Go.Proofs.Tryd.prog h 39 s (.sl id off len c) = appS h 1 8 1 s len (firstC h 1 len (.sl id off len c)) := by kernel_rfl
attribute [go_sem] ap_39
theorem ap_39_n (h : H) (s : CV) : appendT Go.Proofs.Tryd.prog h 39 s .nils = appS h 1 8 1 s 0 (some []) := by kernel_rfl
attribute [go_sem] ap_39_n
theorem ap_39_z (h : H) (s : CV) (a b c d : Nat) : appendT Go.Proofs.Tryd.prog h 39 s (.sl0 a b c d) = appS h 1 8 1 s 0 (some []) := by kernel_rfl
attribute [go_sem] ap_39_z
theorem bs_39 (h : H) (n : Nat) (parts : List (Nat × CV)) : buildSliceT Go.Proofs.Tryd.prog h 39 n parts = bslS h 1 (CV.cells (.int .i64 0)) n parts := by kernel_rfl
attribute [go_sem] bs_39
theorem ms_39 (h : H) (l c : Nat) (k k' : IntKind) : makeSliceT Go.Proofs.Tryd.prog h 39 (.int k (Int.ofNat l)) (.int k' (Int.ofNat c)) = mkS h 1 8 (zeroT Go.Proofs.Tryd.prog 3) l c := by kernel_rfl
attribute [go_sem] ms_39
theorem eq_39 (xo yo : Operand) (a b c : Nat) (d : Cap) : binT Go.Proofs.Tryd.prog .eql 39 xo yo (.sl a b c d) .nils = some (.bool false) := by kernel_rfl
attribute [go_sem] eq_39
theorem eq_39_n (xo yo : Operand) : binT Go.Proofs.Tryd.prog .eql 39 xo yo .nils .nils = some (.bool true) := by kernel_rfl
attribute [go_sem] eq_39_n
theorem eq_39_z (xo yo : Operand) (a b c d : Nat) : binT Go.Proofs.Tryd.prog .eql 39 xo yo (.sl0 a b c d) .nils = some (.bool false) := by kernel_rfl
attribute [go_sem] eq_39_z
theorem ne_39 (xo yo : Operand) (a b c : Nat) (d : Cap) : binT Go.Proofs.Tryd.prog .neq 39 xo yo (.sl a b c d) .nils = some (.bool true) := by kernel_rfl
attribute [go_sem] ne_39
theorem ne_39_n (xo yo : Operand) : binT Go.Proofs.Tryd.prog .neq 39 xo yo .nils .nils = some (.bool false) := by kernel_rfl
attribute [go_sem] ne_39_n
theorem ne_39_z (xo yo : Operand) (a b c d : Nat) : binT Go.Proofs.Tryd.prog .neq 39 xo yo (.sl0 a b c d) .nils = some (.bool true) := by kernel_rfl
attribute [go_sem] ne_39_z
theorem len_39_z (h : H) (a b c d : Nat) (ts : List TypeId) (az : List CV) : builtinT Go.Proofs.Tryd.prog h .len (39 :: ts) (.sl0 a b c d :: az) = some (.val (.int .i64 0)) := by kernel_rfl
attribute [go_sem] len_39_z
theorem app_39_z (h : H) (s : CV) (a b c d : Nat) (ts : List TypeId) (az : List CV) : builtinT Go.Proofs.Tryd.prog h .append (39 :: 39 :: ts) (s :: .sl0 a b c d :: az) = uv (appendT Go.Proofs.Tryd.prog h 39 s (.sl0 a b c d)) := by kernel_rfl
attribute [go_sem] app_39_z
theorem sz_46 : szOf Go.Proofs.Tryd.prog 46 = some 1 := by kernel_rfl
attribute [go_sem] sz_46
theorem ld_46 (h : H) (id off : Nat) : loadT Go.Proofs.Tryd.prog h 46 id off = @thn _ _ (h.blk id) ⟨fun b => b.get off⟩ := by kernel_rfl
attribute [go_sem] ld_46
theorem st_46 (h : H) (id off : Nat) (v : CV) : storeT Go.Proofs.Tryd.prog h 46 id off v = @thn _ _ (h.blk id) ⟨fun b => cond (Nat.beq v.cells.length 1 && !b.ro) ((b.storeA off v.cells).map fun b' => h.put id (.cells b')) none⟩ := by kernel_rfl
attribute [go_sem] st_46
theorem part_46 (cs : List CV) (off : Nat) : partT Go.Proofs.Tryd.prog 46 cs off = nth cs off := by kernel_rfl
attribute [go_sem] part_46
theorem sz_47 : szOf Go.Proofs.Tryd.prog 47 = some 1 := by kernel_rfl
attribute [go_sem] sz_47
theorem ld_47 (h : H) (id off : Nat) : loadT Go.Proofs.Tryd.prog h 47 id off = @thn _ _ (h.blk id) ⟨fun b => b.get off⟩ := by kernel_rfl
attribute [go_sem] ld_47
theorem st_47 (h : H) (id off : Nat) (v : CV) : storeT Go.Proofs.Tryd.prog h 47 id off v = @thn _ _ (h.blk id) ⟨fun b => cond (Nat.beq v.cells.length 1 && !b.ro) ((b.storeA off v.cells).map fun b' => h.put id (.cells b')) none⟩ := by kernel_rfl
attribute [go_sem] st_47
theorem part_47 (cs : List CV) (off : Nat) : partT Go.Proofs.Tryd.prog 47 cs off = nth cs off := by kernel_rfl
attribute [go_sem] part_47
theorem ze_47 : zeroT Go.Proofs.Tryd.prog 47 = some (.nilf) := by kernel_rfl
attribute [go_sem] ze_47
theorem eq_47 (xo yo : Operand) (f : Fn) (a b : List CV) : binT Go.Proofs.Tryd.prog .eql 47 xo yo (.fn f a b) .nilf = some (.bool false) := by kernel_rfl
attribute [go_sem] eq_47
theorem eq_47_n (xo yo : Operand) : binT Go.Proofs.Tryd.prog .eql 47 xo yo .nilf .nilf = some (.bool true) := by kernel_rfl
attribute [go_sem] eq_47_n
theorem ne_47 (xo yo : Operand) (f : Fn) (a b : List CV) : binT Go.Proofs.Tryd.prog .neq 47 xo yo (.fn f a b) .nilf = some (.bool true) := by kernel_rfl
attribute [go_sem] ne_47
theorem ne_47_n (xo yo : Operand) : binT Go.Proofs.Tryd.prog .neq 47 xo yo .nilf .nilf = some (.bool false) := by kernel_rfl
attribute [go_sem] ne_47_n
theorem sz_48 : szOf Go.Proofs.Tryd.prog 48 = some 1 := by kernel_rfl
attribute [go_sem] sz_48
theorem ld_48 (h : H) (id off : Nat) : loadT Go.Proofs.Tryd.prog h 48 id off = @thn _ _ (h.blk id) ⟨fun b => b.get off⟩ := by kernel_rfl
attribute [go_sem] ld_48
theorem st_48 (h : H) (id off : Nat) (v : CV) : storeT Go.Proofs.Tryd.prog h 48 id off v = @thn _ _ (h.blk id) ⟨fun b => cond (Nat.beq v.cells.length 1 && !b.ro) ((b.storeA off v.cells).map fun b' => h.put id (.cells b')) none⟩ := by kernel_rfl
attribute [go_sem] st_48
theorem part_48 (cs : List CV) (off : Nat) : partT Go.Proofs.Tryd.prog 48 cs off = nth cs off := by kernel_rfl
attribute [go_sem] part_48
theorem ze_48 : zeroT Go.Proofs.Tryd.prog 48 = some (.nilf) := by kernel_rfl
attribute [go_sem] ze_48
theorem eq_48 (xo yo : Operand) (f : Fn) (a b : List CV) : binT Go.Proofs.Tryd.prog .eql 48 xo yo (.fn f a b) .nilf = some (.bool false) := by kernel_rfl
attribute [go_sem] eq_48
theorem eq_48_n (xo yo : Operand) : binT Go.Proofs.Tryd.prog .eql 48 xo yo .nilf .nilf = some (.bool true) := by kernel_rfl
attribute [go_sem] eq_48_n
theorem ne_48 (xo yo : Operand) (f : Fn) (a b : List CV) : binT Go.Proofs.Tryd.prog .neq 48 xo yo (.fn f a b) .nilf = some (.bool true) := by kernel_rfl
attribute [go_sem] ne_48
theorem ne_48_n (xo yo : Operand) : binT Go.Proofs.Tryd.prog .neq 48 xo yo .nilf .nilf = some (.bool false) := by kernel_rfl
attribute [go_sem] ne_48_n
theorem sz_49 : szOf Go.Proofs.Tryd.prog 49 = some 1 := by kernel_rfl
attribute [go_sem] sz_49
theorem ld_49 (h : H) (id off : Nat) : loadT Go.Proofs.Tryd.prog h 49 id off = @thn _ _ (h.blk id) ⟨fun b => b.get off⟩ := by kernel_rfl
attribute [go_sem] ld_49
theorem st_49 (h : H) (id off : Nat) (v : CV) : storeT Go.Proofs.Tryd.prog h 49 id off v = @thn _ _ (h.blk id) ⟨fun b => cond (Nat.beq v.cells.length 1 && !b.ro) ((b.storeA off v.cells).map fun b' => h.put id (.cells b')) none⟩ := by kernel_rfl
attribute [go_sem] st_49
theorem part_49 (cs : List CV) (off : Nat) : partT Go.Proofs.Tryd.prog 49 cs off = nth cs off := by kernel_rfl
attribute [go_sem] part_49
theorem ze_49 : zeroT Go.Proofs.Tryd.prog 49 = some (.nilf) := by kernel_rfl
attribute [go_sem] ze_49
theorem eq_49 (xo yo : Operand) (f : Fn) (a b : List CV) : binT Go.Proofs.Tryd.prog .eql 49 xo yo (.fn f a b) .nilf = some (.bool false) := by kernel_rfl
attribute [go_sem] eq_49
theorem eq_49_n (xo yo : Operand) : binT Go.Proofs.Tryd.prog .eql 49 xo yo .nilf .nilf = some (.bool true) := by kernel_rfl
attribute [go_sem] eq_49_n
theorem ne_49 (xo yo : Operand) (f : Fn) (a b : List CV) : binT Go.Proofs.Tryd.prog .neq 49 xo yo (.fn f a b) .nilf = some (.bool true) := by kernel_rfl
attribute [go_sem] ne_49
theorem ne_49_n (xo yo : Operand) : binT Go.Proofs.Tryd.prog .neq 49 xo yo .nilf .nilf = some (.bool false) := by kernel_rfl
attribute [go_sem] ne_49_n
theorem sz_50 : szOf Go.Proofs.Tryd.prog 50 = some 1 := by kernel_rfl
attribute [go_sem] sz_50
theorem ld_50 (h : H) (id off : Nat) : loadT Go.Proofs.Tryd.prog h 50 id off = @thn _ _ (h.blk id) ⟨fun b => b.get off⟩ := by kernel_rfl
attribute [go_sem] ld_50
theorem st_50 (h : H) (id off : Nat) (v : CV) : storeT Go.Proofs.Tryd.prog h 50 id off v = @thn _ _ (h.blk id) ⟨fun b => cond (Nat.beq v.cells.length 1 && !b.ro) ((b.storeA off v.cells).map fun b' => h.put id (.cells b')) none⟩ := by kernel_rfl
attribute [go_sem] st_50
theorem part_50 (cs : List CV) (off : Nat) : partT Go.Proofs.Tryd.prog 50 cs off = nth cs off := by kernel_rfl
attribute [go_sem] part_50
theorem ze_50 : zeroT Go.Proofs.Tryd.prog 50 = some (.nilf) := by kernel_rfl
attribute [go_sem] ze_50
theorem eq_50 (xo yo : Operand) (f : Fn) (a b : List CV) : binT Go.Proofs.Tryd.prog .eql 50 xo yo (.fn f a b) .nilf = some (.bool false) := by kernel_rfl
attribute [go_sem] eq_50
theorem eq_50_n (xo yo : Operand) : binT Go.Proofs.Tryd.prog .eql 50 xo yo .nilf .nilf = some (.bool true) := by kernel_rfl
attribute [go_sem] eq_50_n
theorem ne_50 (xo yo : Operand) (f : Fn) (a b : List CV) : binT Go.Proofs.Tryd.prog .neq 50 xo yo (.fn f a b) .nilf = some (.bool true) := by kernel_rfl
attribute [go_sem] ne_50
theorem ne_50_n (xo yo : Operand) : binT Go.Proofs.Tryd.prog .neq 50 xo yo .nilf .nilf = some (.bool false) := by kernel_rfl
attribute [go_sem] ne_50_n
theorem sz_54 : szOf Go.Proofs.Tryd.prog 54 = some 16 := by kernel_rfl
attribute [go_sem] sz_54
theorem ld_54 (h : H) (id off : Nat) : loadT Go.Proofs.Tryd.prog h 54 id off = @thn _ _ (h.blk id) ⟨fun b => (b.loadN off 16).map .agg⟩ := by kernel_rfl
attribute [go_sem] ld_54
theorem st_54 (h : H) (id off : Nat) (v : CV) : storeT Go.Proofs.Tryd.prog h 54 id off v = @thn _ _ (h.blk id) ⟨fun b => cond (Nat.beq v.cells.length 16 && !b.ro) ((b.storeA off v.cells).map fun b' => h.put id (.cells b')) none⟩ := by kernel_rfl
attribute [go_sem] st_54
theorem part_54 (cs : List CV) (off : Nat) : partT Go.Proofs.Tryd.prog 54 cs off = some (.agg ((cs.drop off).take 16)) := by kernel_rfl
attribute [go_sem] part_54
theorem ze_54 : zeroT Go.Proofs.Tryd.prog 54 = some (.agg [.int .u64 0, .int .u64 0, .int .u64 0, .int .u64 0, .int .u64 0, .int .u64 0, .int .u64 0, .int .u64 0, .int .u64 0, .int .u64 0, .int .u64 0, .int .u64 0, .int .u64 0, .int .u64 0, .int .u64 0, .int .u64 0]) := by kernel_rfl
attribute [go_sem] ze_54
theorem ia_54 (id off k : Nat) (kd : IntKind) : indexAddrT Go.Proofs.Tryd.prog 54 (.ptr id off) (.int kd (Int.ofNat k)) = cond (Nat.blt k 16) (some (.ptr id (off + k * 1))) none := by kernel_rfl
attribute [go_sem] ia_54
theorem ix_54 (cs : List CV) (k : Nat) (kd : IntKind) : indexT Go.Proofs.Tryd.prog 54 (.agg cs) (.int kd (Int.ofNat k)) = cond (Nat.blt k 16) (partT Go.Proofs.Tryd.prog 23 cs (k * 1)) none := by kernel_rfl
attribute [go_sem] ix_54
theorem len_54 (h : H) (ts : List TypeId) (az : List CV) (a : CV) : builtinT Go.Proofs.Tryd.prog h .len (54 :: ts) (a :: az) = some (.val (.int .i64 16)) := by kernel_rfl
attribute [go_sem] len_54
theorem bt_54 (parts : List (Nat × CV)) : buildT Go.Proofs.Tryd.prog 54 parts = finB (CV.cells (.agg [.int .u64 0, .int .u64 0, .int .u64 0, .int .u64 0, .int .u64 0, .int .u64 0, .int .u64 0, .int .u64 0, .int .u64 0, .int .u64 0, .int .u64 0, .int .u64 0, .int .u64 0, .int .u64 0, .int .u64 0, .int .u64 0])) (fun i => some (i * 1, 1)) parts := by kernel_rfl
attribute [go_sem] bt_54
theorem sz_69 : szOf Go.Proofs.Tryd.prog 69 = some 1 := by kernel_rfl
attribute [go_sem] sz_69
theorem ld_69 (h : H) (id off : Nat) : loadT Go.Proofs.Tryd.prog h 69 id off = @thn _ _ (h.blk id) ⟨fun b => b.get off⟩ := by kernel_rfl
attribute [go_sem] ld_69
theorem st_69 (h : H) (id off : Nat) (v : CV) : storeT Go.Proofs.Tryd.prog h 69 id off v = @thn _ _ (h.blk id) ⟨fun b => cond (Nat.beq v.cells.length 1 && !b.ro) ((b.storeA off v.cells).map fun b' => h.put id (.cells b')) none⟩ := by kernel_rfl
attribute [go_sem] st_69
theorem part_69 (cs : List CV) (off : Nat) : partT Go.Proofs.Tryd.prog 69 cs off = nth cs off := by kernel_rfl
attribute [go_sem] part_69
theorem ze_69 : zeroT Go.Proofs.Tryd.prog 69 = some (.nilf) := by kernel_rfl
attribute [go_sem] ze_69
theorem eq_69 (xo yo : Operand) (f : Fn) (a b : List CV) : binT Go.Proofs.Tryd.prog .eql 69 xo yo (.fn f a b) .nilf = some (.bool false) := by kernel_rfl
attribute [go_sem] eq_69
theorem eq_69_n (xo yo : Operand) : binT Go.Proofs.Tryd.prog .eql 69 xo yo .nilf .nilf = some (.bool true) := by kernel_rfl
attribute [go_sem] eq_69_n
theorem ne_69 (xo yo : Operand) (f : Fn) (a b : List CV) : binT Go.Proofs.Tryd.prog .neq 69 xo yo (.fn f a b) .nilf = some (.bool true) := by kernel_rfl
attribute [go_sem] ne_69
theorem ne_69_n (xo yo : Operand) : binT Go.Proofs.Tryd.prog .neq 69 xo yo .nilf .nilf = some (.bool false) := by kernel_rfl
attribute [go_sem] ne_69_n
theorem sz_73 : szOf Go.Proofs.Tryd.prog 73 = some 256 := by kernel_rfl
attribute [go_sem] sz_73
theorem ld_73 (h : H) (id off : Nat) : loadT Go.Proofs.Tryd.prog h 73 id off = @thn _ _ (h.blk id) ⟨fun b => (b.loadN off 256).map .agg⟩ := by kernel_rfl
attribute [go_sem] ld_73
theorem st_73 (h : H) (id off : Nat) (v : CV) : storeT Go.Proofs.Tryd.prog h 73 id off v = @thn _ _ (h.blk id) ⟨fun b => cond (Nat.beq v.cells.length 256 && !b.ro) ((b.storeA off v.cells).map fun b' => h.put id (.cells b')) none⟩ := by kernel_rfl
attribute [go_sem] st_73
theorem part_73 (cs : List CV) (off : Nat) : partT Go.Proofs.Tryd.prog 73 cs off = some (.agg ((cs.drop off).take 256)) := by kernel_rfl
attribute [go_sem] part_73
theorem ia_73 (id off k : Nat) (kd : IntKind) : indexAddrT Go.Proofs.Tryd.prog 73 (.ptr id off) (.int kd (Int.ofNat k)) = cond (Nat.blt k 256) (some (.ptr id (off + k * 1))) none := by kernel_rfl
attribute [go_sem] ia_73
theorem ix_73 (cs : List CV) (k : Nat) (kd : IntKind) : indexT Go.Proofs.Tryd.prog 73 (.agg cs) (.int kd (Int.ofNat k)) = cond (Nat.blt k 256) (partT Go.Proofs.Tryd.prog 5 cs (k * 1)) none := by kernel_rfl
attribute [go_sem] ix_73
theorem len_73 (h : H) (ts : List TypeId) (az : List CV) (a : CV) : builtinT Go.Proofs.Tryd.prog h .len (73 :: ts) (a :: az) = some (.val (.int .i64 256)) := by kernel_rfl
attribute [go_sem] len_73
theorem sz_74 : szOf Go.Proofs.Tryd.prog 74 = some 256 := by kernel_rfl
attribute [go_sem] sz_74
theorem ld_74 (h : H) (id off : Nat) : loadT Go.Proofs.Tryd.prog h 74 id off = @thn _ _ (h.blk id) ⟨fun b => (b.loadN off 256).map .agg⟩ := by kernel_rfl
attribute [go_sem] ld_74
theorem st_74 (h : H) (id off : Nat) (v : CV) : storeT Go.Proofs.Tryd.prog h 74 id off v = @thn _ _ (h.blk id) ⟨fun b => cond (Nat.beq v.cells.length 256 && !b.ro) ((b.storeA off v.cells).map fun b' => h.put id (.cells b')) none⟩ := by kernel_rfl
attribute [go_sem] st_74
theorem part_74 (cs : List CV) (off : Nat) : partT Go.Proofs.Tryd.prog 74 cs off = some (.agg ((cs.drop off).take 256)) := by kernel_rfl
attribute [go_sem] part_74
theorem ia_74 (id off k : Nat) (kd : IntKind) : indexAddrT Go.Proofs.Tryd.prog 74 (.ptr id off) (.int kd (Int.ofNat k)) = cond (Nat.blt k 256) (some (.ptr id (off + k * 1))) none := by kernel_rfl
attribute [go_sem] ia_74
theorem ix_74 (cs : List CV) (k : Nat) (kd : IntKind) : indexT Go.Proofs.Tryd.prog 74 (.agg cs) (.int kd (Int.ofNat k)) = cond (Nat.blt k 256) (partT Go.Proofs.Tryd.prog 5 cs (k * 1)) none := by kernel_rfl
attribute [go_sem] ix_74
theorem len_74 (h : H) (ts : List TypeId) (az : List CV) (a : CV) : builtinT Go.Proofs.Tryd.prog h .len (74 :: ts) (a :: az) = some (.val (.int .i64 256)) := by kernel_rfl
attribute [go_sem] len_74
theorem sz_75 : szOf Go.Proofs.Tryd.prog 75 = some 1 := by kernel_rfl
attribute [go_sem] sz_75
theorem ld_75 (h : H) (id off : Nat) : loadT Go.Proofs.Tryd.prog h 75 id off = @thn _ _ (h.blk id) ⟨fun b => b.get off⟩ := by kernel_rfl
attribute [go_sem] ld_75
theorem st_75 (h : H) (id off : Nat) (v : CV) : storeT Go.Proofs.Tryd.prog h 75 id off v = @thn _ _ (h.blk id) ⟨fun b => cond (Nat.beq v.cells.length 1 && !b.ro) ((b.storeA off v.cells).map fun b' => h.put id (.cells b')) none⟩ := by kernel_rfl
attribute [go_sem] st_75
theorem part_75 (cs : List CV) (off : Nat) : partT Go.Proofs.Tryd.prog 75 cs off = nth cs off := by kernel_rfl
attribute [go_sem] part_75
theorem sz_76 : szOf Go.Proofs.Tryd.prog 76 = some 1 := by kernel_rfl
attribute [go_sem] sz_76
theorem ld_76 (h : H) (id off : Nat) : loadT Go.Proofs.Tryd.prog h 76 id off = @thn _ _ (h.blk id) ⟨fun b => b.get off⟩ := by kernel_rfl
attribute [go_sem] ld_76
theorem st_76 (h : H) (id off : Nat) (v : CV) : storeT Go.Proofs.Tryd.prog h 76 id off v = @thn _ _ (h.blk id) ⟨fun b => cond (Nat.beq v.cells.length 1 && !b.ro) ((b.storeA off v.cells).map fun b' => h.put id (.cells b')) none⟩ := by kernel_rfl
attribute [go_sem] st_76
theorem part_76 (cs : List CV) (off : Nat) : partT Go.Proofs.Tryd.prog 76 cs off = nth cs off := by kernel_rfl
attribute [go_sem] part_76
theorem ze_76 : zeroT Go.Proofs.Tryd.prog 76 = some (.nilf) := by kernel_rfl
attribute [go_sem] ze_76
theorem eq_76 (xo yo : Operand) (f : Fn) (a b : List CV) : binT Go.Proofs.Tryd.prog .eql 76 xo yo (.fn f a b) .nilf = some (.bool false) := by kernel_rfl
attribute [go_sem] eq_76
theorem eq_76_n (xo yo : Operand) : binT Go.Proofs.Tryd.prog .eql 76 xo yo .nilf .nilf = some (.bool true) := by kernel_rfl
attribute [go_sem] eq_76_n
theorem ne_76 (xo yo : Operand) (f : Fn) (a b : List CV) : binT Go.Proofs.Tryd.prog .neq 76 xo yo (.fn f a b) .nilf = some (.bool true) := by kernel_rfl
attribute [go_sem] ne_76
theorem ne_76_n (xo yo : Operand) : binT Go.Proofs.Tryd.prog .neq 76 xo yo .nilf .nilf = some (.bool false) := by kernel_rfl
attribute [go_sem] ne_76_n
theorem sz_77 : szOf Go.Proofs.Tryd.prog 77 = some 1 := by kernel_rfl
attribute [go_sem] sz_77
theorem ld_77 (h : H) (id off : Nat) : loadT Go.Proofs.Tryd.prog h 77 id off = @thn _ _ (h.blk id) ⟨fun b => b.get off⟩ := by kernel_rfl
attribute [go_sem] ld_77
theorem st_77 (h : H) (id off : Nat) (v : CV) : storeT Go.Proofs.Tryd.prog h 77 id off v = @thn _ _ (h.blk id) ⟨fun b => cond (Nat.beq v.cells.length 1 && !b.ro) ((b.storeA off v.cells).map fun b' => h.put id (.cells b')) none⟩ := by kernel_rfl
attribute [go_sem] st_77
theorem part_77 (cs : List CV) (off : Nat) : partT Go.Proofs.Tryd.prog 77 cs off = nth cs off := by kernel_rfl
attribute [go_sem] part_77
theorem ze_77 : zeroT Go.Proofs.Tryd.prog 77 = some (.nilf) := by kernel_rfl
attribute [go_sem] ze_77
theorem eq_77 (xo yo : Operand) (f : Fn) (a b : List CV) : binT Go.Proofs.Tryd.prog .eql 77 xo yo (.fn f a b) .nilf = some (.bool false) := by kernel_rfl
attribute [go_sem] eq_77
theorem eq_77_n (xo yo : Operand) : binT Go.Proofs.Tryd.prog .eql 77 xo yo .nilf .nilf = some (.bool true) := by kernel_rfl
attribute [go_sem] eq_77_n
theorem ne_77 (xo yo : Operand) (f : Fn) (a b : List CV) : binT Go.Proofs.Tryd.prog .neq 77 xo yo (.fn f a b) .nilf = some (.bool true) := by kernel_rfl
attribute [go_sem] ne_77
theorem ne_77_n (xo yo : Operand) : binT Go.Proofs.Tryd.prog .neq 77 xo yo .nilf .nilf = some (.bool false) := by kernel_rfl
attribute [go_sem] ne_77_n
theorem sz_78 : szOf Go.Proofs.Tryd.prog 78 = some 1 := by kernel_rfl
attribute [go_sem] sz_78
theorem ld_78 (h : H) (id off : Nat) : loadT Go.Proofs.Tryd.prog h 78 id off = @thn _ _ (h.blk id) ⟨fun b => b.get off⟩ := by kernel_rfl
attribute [go_sem] ld_78
theorem st_78 (h : H) (id off : Nat) (v : CV) : storeT Go.Proofs.Tryd.prog h 78 id off v = @thn _ _ (h.blk id) ⟨fun b => cond (Nat.beq v.cells.length 1 && !b.ro) ((b.storeA off v.cells).map fun b' => h.put id (.cells b')) none⟩ := by kernel_rfl
attribute [go_sem] st_78
theorem part_78 (cs : List CV) (off : Nat) : partT Go.Proofs.Tryd.prog 78 cs off = nth cs off := by kernel_rfl
attribute [go_sem] part_78
theorem ze_78 : zeroT Go.Proofs.Tryd.prog 78 = some (.nils) := by kernel_rfl
attribute [go_sem] ze_78
theorem ia_78 (id off len k : Nat) (c : Cap) (kd : IntKind) : indexAddrT Go.Proofs.Tryd.prog 78 (.sl id off len c) (.int kd (Int.ofNat k)) = cond (Nat.blt k len) (some (.ptr id (off + k * 256))) none := by kernel_rfl
attribute [go_sem] ia_78
theorem len_78 (h : H) (id off len : Nat) (c : Cap) (ts : List TypeId) (az : List CV) : builtinT Go.Proofs.Tryd.prog h .len (78 :: ts) (.sl id off len c :: az) = some (.val (.int .i64 (Int.ofNat len))) := by kernel_rfl
attribute [go_sem] len_78
theorem len_78_n (h : H) (ts : List TypeId) (az : List CV) : builtinT Go.Proofs.Tryd.prog h .len (78 :: ts) (.nils :: az) = some (.val (.int .i64 0)) := by kernel_rfl
attribute [go_sem] len_78_n
theorem app_78 (h : H) (s : CV) (id off len : Nat) (c : Cap) (ts : List TypeId) (az : List CV) : builtinT Go.Proofs.Tryd.prog h .append (78 :: 78 :: ts) (s :: .sl id off len c :: az) = uv (appendT Go.Proofs.Tryd.prog h 78 s (.sl id off len c)) := by kernel_rfl
attribute [go_sem] app_78
theorem app_78_n (h : H) (s : CV) (ts : List TypeId) (az : List CV) : builtinT Go.Proofs.Tryd.prog h .append (78 :: 78 :: ts) (s :: .nils :: az) = uv (appendT Go.Proofs.Tryd.prog h 78 s .nils) := by kernel_rfl
attribute [go_sem] app_78_n
theorem ap_78 (h : H) (s : CV) (id off len : Nat) (c : Cap) : appendT Go.Proofs.Tryd.prog h 78 s (.sl id off len c) = appS h 256 256 256 s len (firstC h 256 len (.sl id off len c)) := by kernel_rfl
attribute [go_sem] ap_78
theorem ap_78_n (h : H) (s : CV) : appendT Go.Proofs.Tryd.prog h 78 s .nils = appS h 256 256 256 s 0 (some []) := by kernel_rfl
attribute [go_sem] ap_78_n
theorem ap_78_z (h : H) (s : CV) (a b c d : Nat) : appendT Go.Proofs.Tryd.prog h 78 s (.sl0 a b c d) = appS h 256 256 256 s 0 (some []) := by kernel_rfl
attribute [go_sem] ap_78_z
theorem ms_78 (h : H) (l c : Nat) (k k' : IntKind) : makeSliceT Go.Proofs.Tryd.prog h 78 (.int k (Int.ofNat l)) (.int k' (Int.ofNat c)) = mkS h 256 256 (zeroT Go.Proofs.Tryd.prog 74) l c := by kernel_rfl
attribute [go_sem] ms_78
theorem eq_78 (xo yo : Operand) (a b c : Nat) (d : Cap) : binT Go.Proofs.Tryd.prog .eql 78 xo yo (.sl a b c d) .nils = some (.bool false) := by kernel_rfl
attribute [go_sem] eq_78
theorem eq_78_n (xo yo : Operand) : binT Go.Proofs.Tryd.prog .eql 78 xo yo .nils .nils = some (.bool true) := by kernel_rfl
attribute [go_sem] eq_78_n
theorem eq_78_z (xo yo : Operand) (a b c d : Nat) : binT Go.Proofs.Tryd.prog .eql 78 xo yo (.sl0 a b c d) .nils = some (.bool false) := by kernel_rfl
attribute [go_sem] eq_78_z
theorem ne_78 (xo yo : Operand) (a b c : Nat) (d : Cap) : binT Go.Proofs.Tryd.prog .neq 78 xo yo (.sl a b c d) .nils = some (.bool true) := by kernel_rfl
attribute [go_sem] ne_78
theorem ne_78_n (xo yo : Operand) : binT Go.Proofs.Tryd.prog .neq 78 xo yo .nils .nils = some (.bool false) := by kernel_rfl
attribute [go_sem] ne_78_n
theorem ne_78_z (xo yo : Operand) (a b c d : Nat) : binT Go.Proofs.Tryd.prog .neq 78 xo yo (.sl0 a b c d) .nils = some (.bool true) := by kernel_rfl
attribute [go_sem] ne_78_z
theorem len_78_z (h : H) (a b c d : Nat) (ts : List TypeId) (az : List CV) : builtinT Go.Proofs.Tryd.prog h .len (78 :: ts) (.sl0 a b c d :: az) = some (.val (.int .i64 0)) := by kernel_rfl
attribute [go_sem] len_78_z
theorem app_78_z (h : H) (s : CV) (a b c d : Nat) (ts : List TypeId) (az : List CV) : builtinT Go.Proofs.Tryd.prog h .append (78 :: 78 :: ts) (s :: .sl0 a b c d :: az) = uv (appendT Go.Proofs.Tryd.prog h 78 s (.sl0 a b c d)) := by kernel_rfl
attribute [go_sem] app_78_z
theorem sz_79 : szOf Go.Proofs.Tryd.prog 79 = some 1 := by kernel_rfl
attribute [go_sem] sz_79
theorem ld_79 (h : H) (id off : Nat) : loadT Go.Proofs.Tryd.prog h 79 id off = @thn _ _ (h.blk id) ⟨fun b => b.get off⟩ := by kernel_rfl
attribute [go_sem] ld_79
theorem st_79 (h : H) (id off : Nat) (v : CV) : storeT Go.Proofs.Tryd.prog h 79 id off v = @thn _ _ (h.blk id) ⟨fun b => cond (Nat.beq v.cells.length 1 && !b.ro) ((b.storeA off v.cells).map fun b' => h.put id (.cells b')) none⟩ := by kernel_rfl
attribute [go_sem] st_79
theorem part_79 (cs : List CV) (off : Nat) : partT Go.Proofs.Tryd.prog 79 cs off = nth cs off := by kernel_rfl
attribute [go_sem] part_79
theorem ze_79 : zeroT Go.Proofs.Tryd.prog 79 = some (.nilm) := by kernel_rfl
attribute [go_sem] ze_79
theorem eq_79 (xo yo : Operand) (a : Nat) : binT Go.Proofs.Tryd.prog .eql 79 xo yo (.map a) .nilm = some (.bool false) := by kernel_rfl
attribute [go_sem] eq_79
theorem eq_79_n (xo yo : Operand) : binT Go.Proofs.Tryd.prog .eql 79 xo yo .nilm .nilm = some (.bool true) := by kernel_rfl
attribute [go_sem] eq_79_n
theorem ne_79 (xo yo : Operand) (a : Nat) : binT Go.Proofs.Tryd.prog .neq 79 xo yo (.map a) .nilm = some (.bool true) := by kernel_rfl
attribute [go_sem] ne_79
theorem ne_79_n (xo yo : Operand) : binT Go.Proofs.Tryd.prog .neq 79 xo yo .nilm .nilm = some (.bool false) := by kernel_rfl
attribute [go_sem] ne_79_n
theorem sz_80 : szOf Go.Proofs.Tryd.prog 80 = some 6 := by kernel_rfl
attribute [go_sem] sz_80
theorem ld_80 (h : H) (id off : Nat) : loadT Go.Proofs.Tryd.prog h 80 id off = @thn _ _ (h.blk id) ⟨fun b => (b.loadN off 6).map .agg⟩ := by kernel_rfl
attribute [go_sem] ld_80
theorem st_80 (h : H) (id off : Nat) (v : CV) : storeT Go.Proofs.Tryd.prog h 80 id off v = @thn _ _ (h.blk id) ⟨fun b => cond (Nat.beq v.cells.length 6 && !b.ro) ((b.storeA off v.cells).map fun b' => h.put id (.cells b')) none⟩ := by kernel_rfl
attribute [go_sem] st_80
theorem part_80 (cs : List CV) (off : Nat) : partT Go.Proofs.Tryd.prog 80 cs off = some (.agg ((cs.drop off).take 6)) := by kernel_rfl
attribute [go_sem] part_80
theorem ze_80 : zeroT Go.Proofs.Tryd.prog 80 = some (.agg [.nils, .nilm, .bool false, .int .i64 0, .bool false, .bool false]) := by kernel_rfl
attribute [go_sem] ze_80
theorem bt_80 (parts : List (Nat × CV)) : buildT Go.Proofs.Tryd.prog 80 parts = finB (CV.cells (.agg [.nils, .nilm, .bool false, .int .i64 0, .bool false, .bool false])) (nth [(0, 1), (1, 1), (2, 1), (3, 1), (4, 1), (5, 1)]) parts := by kernel_rfl
attribute [go_sem] bt_80
theorem fa_80_0 (id off : Nat) : fieldAddrT Go.Proofs.Tryd.prog 80 (.ptr id off) 0 = some (.ptr id (off)) := by kernel_rfl
attribute [go_sem] fa_80_0
theorem fd_80_0 (cs : List CV) : fieldT Go.Proofs.Tryd.prog 80 (.agg cs) 0 = partT Go.Proofs.Tryd.prog 78 cs 0 := by kernel_rfl
attribute [go_sem] fd_80_0
theorem fa_80_1 (id off : Nat) : fieldAddrT Go.Proofs.Tryd.prog 80 (.ptr id off) 1 = some (.ptr id (off + 1)) := by kernel_rfl
attribute [go_sem] fa_80_1
theorem fd_80_1 (cs : List CV) : fieldT Go.Proofs.Tryd.prog 80 (.agg cs) 1 = partT Go.Proofs.Tryd.prog 79 cs 1 := by kernel_rfl
attribute [go_sem] fd_80_1
theorem fa_80_2 (id off : Nat) : fieldAddrT Go.Proofs.Tryd.prog 80 (.ptr id off) 2 = some (.ptr id (off + 2)) := by kernel_rfl
attribute [go_sem] fa_80_2
theorem fd_80_2 (cs : List CV) : fieldT Go.Proofs.Tryd.prog 80 (.agg cs) 2 = partT Go.Proofs.Tryd.prog 4 cs 2 := by kernel_rfl
attribute [go_sem] fd_80_2
theorem fa_80_3 (id off : Nat) : fieldAddrT Go.Proofs.Tryd.prog 80 (.ptr id off) 3 = some (.ptr id (off + 3)) := by kernel_rfl
attribute [go_sem] fa_80_3
theorem fd_80_3 (cs : List CV) : fieldT Go.Proofs.Tryd.prog 80 (.agg cs) 3 = partT Go.Proofs.Tryd.prog 3 cs 3 := by kernel_rfl
attribute [go_sem] fd_80_3
theorem fa_80_4 (id off : Nat) : fieldAddrT Go.Proofs.Tryd.prog 80 (.ptr id off) 4 = some (.ptr id (off + 4)) := by kernel_rfl
attribute [go_sem] fa_80_4
theorem fd_80_4 (cs : List CV) : fieldT Go.Proofs.Tryd.prog 80 (.agg cs) 4 = partT Go.Proofs.Tryd.prog 4 cs 4 := by kernel_rfl
attribute [go_sem] fd_80_4
theorem fa_80_5 (id off : Nat) : fieldAddrT Go.Proofs.Tryd.prog 80 (.ptr id off) 5 = some (.ptr id (off + 5)) := by kernel_rfl
attribute [go_sem] fa_80_5
theorem fd_80_5 (cs : List CV) : fieldT Go.Proofs.Tryd.prog 80 (.agg cs) 5 = partT Go.Proofs.Tryd.prog 4 cs 5 := by kernel_rfl
attribute [go_sem] fd_80_5
theorem sz_82 : szOf Go.Proofs.Tryd.prog 82 = some 1 := by kernel_rfl
attribute [go_sem] sz_82
theorem ld_82 (h : H) (id off : Nat) : loadT Go.Proofs.Tryd.prog h 82 id off = @thn _ _ (h.blk id) ⟨fun b => b.get off⟩ := by kernel_rfl
attribute [go_sem] ld_82
theorem st_82 (h : H) (id off : Nat) (v : CV) : storeT Go.Proofs.Tryd.prog h 82 id off v = @thn _ _ (h.blk id) ⟨fun b => cond (Nat.beq v.cells.length 1 && !b.ro) ((b.storeA off v.cells).map fun b' => h.put id (.cells b')) none⟩ := by kernel_rfl
attribute [go_sem] st_82
theorem part_82 (cs : List CV) (off : Nat) : partT Go.Proofs.Tryd.prog 82 cs off = nth cs off := by kernel_rfl
attribute [go_sem] part_82
theorem ze_82 : zeroT Go.Proofs.Tryd.prog 82 = some (.nilf) := by kernel_rfl
attribute [go_sem] ze_82
theorem eq_82 (xo yo : Operand) (f : Fn) (a b : List CV) : binT Go.Proofs.Tryd.prog .eql 82 xo yo (.fn f a b) .nilf = some (.bool false) := by kernel_rfl
attribute [go_sem] eq_82
theorem eq_82_n (xo yo : Operand) : binT Go.Proofs.Tryd.prog .eql 82 xo yo .nilf .nilf = some (.bool true) := by kernel_rfl
attribute [go_sem] eq_82_n
theorem ne_82 (xo yo : Operand) (f : Fn) (a b : List CV) : binT Go.Proofs.Tryd.prog .neq 82 xo yo (.fn f a b) .nilf = some (.bool true) := by kernel_rfl
attribute [go_sem] ne_82
theorem ne_82_n (xo yo : Operand) : binT Go.Proofs.Tryd.prog .neq 82 xo yo .nilf .nilf = some (.bool false) := by kernel_rfl
attribute [go_sem] ne_82_n
theorem sz_83 : szOf Go.Proofs.Tryd.prog 83 = some 1 := by kernel_rfl
attribute [go_sem] sz_83
theorem ld_83 (h : H) (id off : Nat) : loadT Go.Proofs.Tryd.prog h 83 id off = @thn _ _ (h.blk id) ⟨fun b => b.get off⟩ := by kernel_rfl
attribute [go_sem] ld_83
theorem st_83 (h : H) (id off : Nat) (v : CV) : storeT Go.Proofs.Tryd.prog h 83 id off v = @thn _ _ (h.blk id) ⟨fun b => cond (Nat.beq v.cells.length 1 && !b.ro) ((b.storeA off v.cells).map fun b' => h.put id (.cells b')) none⟩ := by kernel_rfl
attribute [go_sem] st_83
theorem part_83 (cs : List CV) (off : Nat) : partT Go.Proofs.Tryd.prog 83 cs off = nth cs off := by kernel_rfl
attribute [go_sem] part_83
theorem ze_83 : zeroT Go.Proofs.Tryd.prog 83 = some (.nilf) := by kernel_rfl
attribute [go_sem] ze_83
theorem eq_83 (xo yo : Operand) (f : Fn) (a b : List CV) : binT Go.Proofs.Tryd.prog .eql 83 xo yo (.fn f a b) .nilf = some (.bool false) := by kernel_rfl
attribute [go_sem] eq_83
theorem eq_83_n (xo yo : Operand) : binT Go.Proofs.Tryd.prog .eql 83 xo yo .nilf .nilf = some (.bool true) := by kernel_rfl
attribute [go_sem] eq_83_n
theorem ne_83 (xo yo : Operand) (f : Fn) (a b : List CV) : binT Go.Proofs.Tryd.prog .neq 83 xo yo (.fn f a b) .nilf = some (.bool true) := by kernel_rfl
attribute [go_sem] ne_83
theorem ne_83_n (xo yo : Operand) : binT Go.Proofs.Tryd.prog .neq 83 xo yo .nilf .nilf = some (.bool false) := by kernel_rfl
attribute [go_sem] ne_83_n
theorem sz_84 : szOf Go.Proofs.Tryd.prog 84 = some 1 := by kernel_rfl
attribute [go_sem] sz_84
theorem ld_84 (h : H) (id off : Nat) : loadT Go.Proofs.Tryd.prog h 84 id off = @thn _ _ (h.blk id) ⟨fun b => b.get off⟩ := by kernel_rfl
attribute [go_sem] ld_84
theorem st_84 (h : H) (id off : Nat) (v : CV) : storeT Go.Proofs.Tryd.prog h 84 id off v = @thn _ _ (h.blk id) ⟨fun b => cond (Nat.beq v.cells.length 1 && !b.ro) ((b.storeA off v.cells).map fun b' => h.put id (.cells b')) none⟩ := by kernel_rfl
attribute [go_sem] st_84
theorem part_84 (cs : List CV) (off : Nat) : partT Go.Proofs.Tryd.prog 84 cs off = nth cs off := by kernel_rfl
attribute [go_sem] part_84
theorem ze_84 : zeroT Go.Proofs.Tryd.prog 84 = some (.nilf) := by kernel_rfl
attribute [go_sem] ze_84
theorem eq_84 (xo yo : Operand) (f : Fn) (a b : List CV) : binT Go.Proofs.Tryd.prog .eql 84 xo yo (.fn f a b) .nilf = some (.bool false) := by kernel_rfl
attribute [go_sem] eq_84
theorem eq_84_n (xo yo : Operand) : binT Go.Proofs.Tryd.prog .eql 84 xo yo .nilf .nilf = some (.bool true) := by kernel_rfl
attribute [go_sem] eq_84_n
theorem ne_84 (xo yo : Operand) (f : Fn) (a b : List CV) : binT Go.Proofs.Tryd.prog .neq 84 xo yo (.fn f a b) .nilf = some (.bool true) := by kernel_rfl
attribute [go_sem] ne_84
theorem ne_84_n (xo yo : Operand) : binT Go.Proofs.Tryd.prog .neq 84 xo yo .nilf .nilf = some (.bool false) := by kernel_rfl
attribute [go_sem] ne_84_n
theorem sz_86 : szOf Go.Proofs.Tryd.prog 86 = some 1 := by kernel_rfl
attribute [go_sem] sz_86
theorem ld_86 (h : H) (id off : Nat) : loadT Go.Proofs.Tryd.prog h 86 id off = @thn _ _ (h.blk id) ⟨fun b => b.get off⟩ := by kernel_rfl
attribute [go_sem] ld_86
theorem st_86 (h : H) (id off : Nat) (v : CV) : storeT Go.Proofs.Tryd.prog h 86 id off v = @thn _ _ (h.blk id) ⟨fun b => cond (Nat.beq v.cells.length 1 && !b.ro) ((b.storeA off v.cells).map fun b' => h.put id (.cells b')) none⟩ := by kernel_rfl
attribute [go_sem] st_86
theorem part_86 (cs : List CV) (off : Nat) : partT Go.Proofs.Tryd.prog 86 cs off = nth cs off := by kernel_rfl
attribute [go_sem] part_86
theorem ze_86 : zeroT Go.Proofs.Tryd.prog 86 = some (.nilf) := by kernel_rfl
attribute [go_sem] ze_86
theorem eq_86 (xo yo : Operand) (f : Fn) (a b : List CV) : binT Go.Proofs.Tryd.prog .eql 86 xo yo (.fn f a b) .nilf = some (.bool false) := by kernel_rfl
attribute [go_sem] eq_86
theorem eq_86_n (xo yo : Operand) : binT Go.Proofs.Tryd.prog .eql 86 xo yo .nilf .nilf = some (.bool true) := by kernel_rfl
attribute [go_sem] eq_86_n
theorem ne_86 (xo yo : Operand) (f : Fn) (a b : List CV) : binT Go.Proofs.Tryd.prog .neq 86 xo yo (.fn f a b) .nilf = some (.bool true) := by kernel_rfl
attribute [go_sem] ne_86
theorem ne_86_n (xo yo : Operand) : binT Go.Proofs.Tryd.prog .neq 86 xo yo .nilf .nilf = some (.bool false) := by kernel_rfl
attribute [go_sem] ne_86_n
theorem sz_87 : szOf Go.Proofs.Tryd.prog 87 = some 1 := by kernel_rfl
attribute [go_sem] sz_87
theorem ld_87 (h : H) (id off : Nat) : loadT Go.Proofs.Tryd.prog h 87 id off = @thn _ _ (h.blk id) ⟨fun b => b.get off⟩ := by kernel_rfl
attribute [go_sem] ld_87
theorem st_87 (h : H) (id off : Nat) (v : CV) : storeT Go.Proofs.Tryd.prog h 87 id off v = @thn _ _ (h.blk id) ⟨fun b => cond (Nat.beq v.cells.length 1 && !b.ro) ((b.storeA off v.cells).map fun b' => h.put id (.cells b')) none⟩ := by kernel_rfl
attribute [go_sem] st_87
theorem part_87 (cs : List CV) (off : Nat) : partT Go.Proofs.Tryd.prog 87 cs off = nth cs off := by kernel_rfl
attribute [go_sem] part_87
theorem ze_87 : zeroT Go.Proofs.Tryd.prog 87 = some (.int .u16 0) := by kernel_rfl
attribute [go_sem] ze_87
theorem sz_88 : szOf Go.Proofs.Tryd.prog 88 = some 1 := by kernel_rfl
attribute [go_sem] sz_88
theorem ld_88 (h : H) (id off : Nat) : loadT Go.Proofs.Tryd.prog h 88 id off = @thn _ _ (h.blk id) ⟨fun b => b.get off⟩ := by kernel_rfl
attribute [go_sem] ld_88
theorem st_88 (h : H) (id off : Nat) (v : CV) : storeT Go.Proofs.Tryd.prog h 88 id off v = @thn _ _ (h.blk id) ⟨fun b => cond (Nat.beq v.cells.length 1 && !b.ro) ((b.storeA off v.cells).map fun b' => h.put id (.cells b')) none⟩ := by kernel_rfl
attribute [go_sem] st_88
theorem part_88 (cs : List CV) (off : Nat) : partT Go.Proofs.Tryd.prog 88 cs off = nth cs off := by kernel_rfl
attribute [go_sem] part_88
theorem ze_88 : zeroT Go.Proofs.Tryd.prog 88 = some (.nilf) := by kernel_rfl
attribute [go_sem] ze_88
theorem eq_88 (xo yo : Operand) (f : Fn) (a b : List CV) : binT Go.Proofs.Tryd.prog .eql 88 xo yo (.fn f a b) .nilf = some (.bool false) := by kernel_rfl
attribute [go_sem] eq_88
theorem eq_88_n (xo yo : Operand) : binT Go.Proofs.Tryd.prog .eql 88 xo yo .nilf .nilf = some (.bool true) := by kernel_rfl
attribute [go_sem] eq_88_n
theorem ne_88 (xo yo : Operand) (f : Fn) (a b : List CV) : binT Go.Proofs.Tryd.prog .neq 88 xo yo (.fn f a b) .nilf = some (.bool true) := by kernel_rfl
attribute [go_sem] ne_88
theorem ne_88_n (xo yo : Operand) : binT Go.Proofs.Tryd.prog .neq 88 xo yo .nilf .nilf = some (.bool false) := by kernel_rfl
attribute [go_sem] ne_88_n
theorem sz_90 : szOf Go.Proofs.Tryd.prog 90 = some 1 := by kernel_rfl
attribute [go_sem] sz_90
theorem ld_90 (h : H) (id off : Nat) : loadT Go.Proofs.Tryd.prog h 90 id off = @thn _ _ (h.blk id) ⟨fun b => b.get off⟩ := by kernel_rfl
attribute [go_sem] ld_90
theorem st_90 (h : H) (id off : Nat) (v : CV) : storeT Go.Proofs.Tryd.prog h 90 id off v = @thn _ _ (h.blk id) ⟨fun b => cond (Nat.beq v.cells.length 1 && !b.ro) ((b.storeA off v.cells).map fun b' => h.put id (.cells b')) none⟩ := by kernel_rfl
attribute [go_sem] st_90
theorem part_90 (cs : List CV) (off : Nat) : partT Go.Proofs.Tryd.prog 90 cs off = nth cs off := by kernel_rfl
attribute [go_sem] part_90
theorem ze_90 : zeroT Go.Proofs.Tryd.prog 90 = some (.nilf) := by kernel_rfl
attribute [go_sem] ze_90
theorem eq_90 (xo yo : Operand) (f : Fn) (a b : List CV) : binT Go.Proofs.Tryd.prog .eql 90 xo yo (.fn f a b) .nilf = some (.bool false) := by kernel_rfl
attribute [go_sem] eq_90
theorem eq_90_n (xo yo : Operand) : binT Go.Proofs.Tryd.prog .eql 90 xo yo .nilf .nilf = some (.bool true) := by kernel_rfl
attribute [go_sem] eq_90_n
theorem ne_90 (xo yo : Operand) (f : Fn) (a b : List CV) : binT Go.Proofs.Tryd.prog .neq 90 xo yo (.fn f a b) .nilf = some (.bool true) := by kernel_rfl
attribute [go_sem] ne_90
theorem ne_90_n (xo yo : Operand) : binT Go.Proofs.Tryd.prog .neq 90 xo yo .nilf .nilf = some (.bool false) := by kernel_rfl
attribute [go_sem] ne_90_n
theorem sz_94 : szOf Go.Proofs.Tryd.prog 94 = some 1 := by kernel_rfl
attribute [go_sem] sz_94
theorem ld_94 (h : H) (id off : Nat) : loadT Go.Proofs.Tryd.prog h 94 id off = @thn _ _ (h.blk id) ⟨fun b => b.get off⟩ := by kernel_rfl
attribute [go_sem] ld_94
theorem st_94 (h : H) (id off : Nat) (v : CV) : storeT Go.Proofs.Tryd.prog h 94 id off v = @thn _ _ (h.blk id) ⟨fun b => cond (Nat.beq v.cells.length 1 && !b.ro) ((b.storeA off v.cells).map fun b' => h.put id (.cells b')) none⟩ := by kernel_rfl
attribute [go_sem] st_94
theorem part_94 (cs : List CV) (off : Nat) : partT Go.Proofs.Tryd.prog 94 cs off = nth cs off := by kernel_rfl
attribute [go_sem] part_94
theorem ze_94 : zeroT Go.Proofs.Tryd.prog 94 = some (.nilf) := by kernel_rfl
attribute [go_sem] ze_94
theorem eq_94 (xo yo : Operand) (f : Fn) (a b : List CV) : binT Go.Proofs.Tryd.prog .eql 94 xo yo (.fn f a b) .nilf = some (.bool false) := by kernel_rfl
attribute [go_sem] eq_94
theorem eq_94_n (xo yo : Operand) : binT Go.Proofs.Tryd.prog .eql 94 xo yo .nilf .nilf = some (.bool true) := by kernel_rfl
attribute [go_sem] eq_94_n
theorem ne_94 (xo yo : Operand) (f : Fn) (a b : List CV) : binT Go.Proofs.Tryd.prog .neq 94 xo yo (.fn f a b) .nilf = some (.bool true) := by kernel_rfl
attribute [go_sem] ne_94
theorem ne_94_n (xo yo : Operand) : binT Go.Proofs.Tryd.prog .neq 94 xo yo .nilf .nilf = some (.bool false) := by kernel_rfl
attribute [go_sem] ne_94_n
theorem sz_100 : szOf Go.Proofs.Tryd.prog 100 = some 1 := by kernel_rfl
attribute [go_sem] sz_100
theorem ld_100 (h : H) (id off : Nat) : loadT Go.Proofs.Tryd.prog h 100 id off = @thn _ _ (h.blk id) ⟨fun b => b.get off⟩ := by kernel_rfl
attribute [go_sem] ld_100
theorem st_100 (h : H) (id off : Nat) (v : CV) : storeT Go.Proofs.Tryd.prog h 100 id off v = @thn _ _ (h.blk id) ⟨fun b => cond (Nat.beq v.cells.length 1 && !b.ro) ((b.storeA off v.cells).map fun b' => h.put id (.cells b')) none⟩ := by kernel_rfl
attribute [go_sem] st_100
theorem part_100 (cs : List CV) (off : Nat) : partT Go.Proofs.Tryd.prog 100 cs off = nth cs off := by kernel_rfl
attribute [go_sem] part_100
theorem ze_100 : zeroT Go.Proofs.Tryd.prog 100 = some (.nilf) := by kernel_rfl
attribute [go_sem] ze_100
theorem eq_100 (xo yo : Operand) (f : Fn) (a b : List CV) : binT Go.Proofs.Tryd.prog .eql 100 xo yo (.fn f a b) .nilf = some (.bool false) := by kernel_rfl
attribute [go_sem] eq_100
theorem eq_100_n (xo yo : Operand) : binT Go.Proofs.Tryd.prog .eql 100 xo yo .nilf .nilf = some (.bool true) := by kernel_rfl
attribute [go_sem] eq_100_n
theorem ne_100 (xo yo : Operand) (f : Fn) (a b : List CV) : binT Go.Proofs.Tryd.prog .neq 100 xo yo (.fn f a b) .nilf = some (.bool true) := by kernel_rfl
attribute [go_sem] ne_100
theorem ne_100_n (xo yo : Operand) : binT Go.Proofs.Tryd.prog .neq 100 xo yo .nilf .nilf = some (.bool false) := by kernel_rfl
attribute [go_sem] ne_100_n
theorem sz_101 : szOf Go.Proofs.Tryd.prog 101 = some 1 := by kernel_rfl
attribute [go_sem] sz_101
theorem ld_101 (h : H) (id off : Nat) : loadT Go.Proofs.Tryd.prog h 101 id off = @thn _ _ (h.blk id) ⟨fun b => b.get off⟩ := by kernel_rfl
attribute [go_sem] ld_101
theorem st_101 (h : H) (id off : Nat) (v : CV) : storeT Go.Proofs.Tryd.prog h 101 id off v = @thn _ _ (h.blk id) ⟨fun b => cond (Nat.beq v.cells.length 1 && !b.ro) ((b.storeA off v.cells).map fun b' => h.put id (.cells b')) none⟩ := by kernel_rfl
attribute [go_sem] st_101
theorem part_101 (cs : List CV) (off : Nat) : partT Go.Proofs.Tryd.prog 101 cs off = nth cs off := by kernel_rfl
attribute [go_sem] part_101
theorem ze_101 : zeroT Go.Proofs.Tryd.prog 101 = some (.nils) := by kernel_rfl
attribute [go_sem] ze_101
theorem ia_101 (id off len k : Nat) (c : Cap) (kd : IntKind) : indexAddrT Go.Proofs.Tryd.prog 101 (.sl id off len c) (.int kd (Int.ofNat k)) = cond (Nat.blt k len) (some (.ptr id (off + k * 1))) none := by kernel_rfl
attribute [go_sem] ia_101
theorem len_101 (h : H) (id off len : Nat) (c : Cap) (ts : List TypeId) (az : List CV) : builtinT Go.Proofs.Tryd.prog h .len (101 :: ts) (.sl id off len c :: az) = some (.val (.int .i64 (Int.ofNat len))) := by kernel_rfl
attribute [go_sem] len_101
theorem len_101_n (h : H) (ts : List TypeId) (az : List CV) : builtinT Go.Proofs.Tryd.prog h .len (101 :: ts) (.nils :: az) = some (.val (.int .i64 0)) := by kernel_rfl
attribute [go_sem] len_101_n
theorem app_101 (h : H) (s : CV) (id off len : Nat) (c : Cap) (ts : List TypeId) (az : List CV) : builtinT Go.Proofs.Tryd.prog h .append (101 :: 101 :: ts) (s :: .sl id off len c :: az) = uv (appendT Go.Proofs.Tryd.prog h 101 s (.sl id off len c)) := by kernel_rfl
attribute [go_sem] app_101
theorem app_101_n (h : H) (s : CV) (ts : List TypeId) (az : List CV) : builtinT Go.Proofs.Tryd.prog h .append (101 :: 101 :: ts) (s :: .nils :: az) = uv (appendT Go.Proofs.Tryd.prog h 101 s .nils) := by kernel_rfl
attribute [go_sem] app_101_n
theorem ap_101 (h : H) (s : CV) (id off len : Nat) (c : Cap) : appendT Go.Proofs.Tryd.prog h 101 s (.sl id off len c) = appS h 1 1 1 s len (firstC h 1 len (.sl id off len c)) := by kernel_rfl
attribute [go_sem] ap_101
theorem ap_101_n (h : H) (s : CV) : appendT Go.Proofs.Tryd.prog h 101 s .nils = appS h 1 1 1 s 0 (some []) := by kernel_rfl
attribute [go_sem] ap_101_n
theorem ap_101_z (h : H) (s : CV) (a b c d : Nat) : appendT Go.Proofs.Tryd.prog h 101 s (.sl0 a b c d) = appS h 1 1 1 s 0 (some []) := by kernel_rfl
attribute [go_sem] ap_101_z
theorem bs_101 (h : H) (n : Nat) (parts : List (Nat × CV)) : buildSliceT Go.Proofs.Tryd.prog h 101 n parts = bslS h 1 (CV.cells (.int .u8 0)) n parts := by kernel_rfl
attribute [go_sem] bs_101
theorem ms_101 (h : H) (l c : Nat) (k k' : IntKind) : makeSliceT Go.Proofs.Tryd.prog h 101 (.int k (Int.ofNat l)) (.int k' (Int.ofNat c)) = mkS h 1 1 (zeroT Go.Proofs.Tryd.prog 5) l c := by kernel_rfl
attribute [go_sem] ms_101
theorem eq_101 (xo yo : Operand) (a b c : Nat) (d : Cap) : binT Go.Proofs.Tryd.prog .eql 101 xo yo (.sl a b c d) .nils = some (.bool false) := by kernel_rfl
attribute [go_sem] eq_101
theorem eq_101_n (xo yo : Operand) : binT Go.Proofs.Tryd.prog .eql 101 xo yo .nils .nils = some (.bool true) := by kernel_rfl
attribute [go_sem] eq_101_n
theorem eq_101_z (xo yo : Operand) (a b c d : Nat) : binT Go.Proofs.Tryd.prog .eql 101 xo yo (.sl0 a b c d) .nils = some (.bool false) := by kernel_rfl
attribute [go_sem] eq_101_z
theorem ne_101 (xo yo : Operand) (a b c : Nat) (d : Cap) : binT Go.Proofs.Tryd.prog .neq 101 xo yo (.sl a b c d) .nils = some (.bool true) := by kernel_rfl
attribute [go_sem] ne_101
theorem ne_101_n (xo yo : Operand) : binT Go.Proofs.Tryd.prog .neq 101 xo yo .nils .nils = some (.bool false) := by kernel_rfl
attribute [go_sem] ne_101_n
theorem ne_101_z (xo yo : Operand) (a b c d : Nat) : binT Go.Proofs.Tryd.prog .neq 101 xo yo (.sl0 a b c d) .nils = some (.bool true) := by kernel_rfl
attribute [go_sem] ne_101_z
theorem len_101_z (h : H) (a b c d : Nat) (ts : List TypeId) (az : List CV) : builtinT Go.Proofs.Tryd.prog h .len (101 :: ts) (.sl0 a b c d :: az) = some (.val (.int .i64 0)) := by kernel_rfl
attribute [go_sem] len_101_z
theorem app_101_z (h : H) (s : CV) (a b c d : Nat) (ts : List TypeId) (az : List CV) : builtinT Go.Proofs.Tryd.prog h .append (101 :: 101 :: ts) (s :: .sl0 a b c d :: az) = uv (appendT Go.Proofs.Tryd.prog h 101 s (.sl0 a b c d)) := by kernel_rfl
attribute [go_sem] app_101_z
theorem sz_102 : szOf Go.Proofs.Tryd.prog 102 = some 1 := by kernel_rfl
attribute [go_sem] sz_102
theorem ld_102 (h : H) (id off : Nat) : loadT Go.Proofs.Tryd.prog h 102 id off = @thn _ _ (h.blk id) ⟨fun b => b.get off⟩ := by kernel_rfl
attribute [go_sem] ld_102
theorem st_102 (h : H) (id off : Nat) (v : CV) : storeT Go.Proofs.Tryd.prog h 102 id off v = @thn _ _ (h.blk id) ⟨fun b => cond (Nat.beq v.cells.length 1 && !b.ro) ((b.storeA off v.cells).map fun b' => h.put id (.cells b')) none⟩ := by kernel_rfl
attribute [go_sem] st_102
theorem part_102 (cs : List CV) (off : Nat) : partT Go.Proofs.Tryd.prog 102 cs off = nth cs off := by kernel_rfl
attribute [go_sem] part_102
theorem ze_102 : zeroT Go.Proofs.Tryd.prog 102 = some (.nilf) := by kernel_rfl
attribute [go_sem] ze_102
theorem eq_102 (xo yo : Operand) (f : Fn) (a b : List CV) : binT Go.Proofs.Tryd.prog .eql 102 xo yo (.fn f a b) .nilf = some (.bool false) := by kernel_rfl
attribute [go_sem] eq_102
theorem eq_102_n (xo yo : Operand) : binT Go.Proofs.Tryd.prog .eql 102 xo yo .nilf .nilf = some (.bool true) := by kernel_rfl
attribute [go_sem] eq_102_n
theorem ne_102 (xo yo : Operand) (f : Fn) (a b : List CV) : binT Go.Proofs.Tryd.prog .neq 102 xo yo (.fn f a b) .nilf = some (.bool true) := by kernel_rfl
attribute [go_sem] ne_102
theorem ne_102_n (xo yo : Operand) : binT Go.Proofs.Tryd.prog .neq 102 xo yo .nilf .nilf = some (.bool false) := by kernel_rfl
attribute [go_sem] ne_102_n
theorem sz_103 : szOf Go.Proofs.Tryd.prog 103 = some 5 := by kernel_rfl
attribute [go_sem] sz_103
theorem ld_103 (h : H) (id off : Nat) : loadT Go.Proofs.Tryd.prog h 103 id off = @thn _ _ (h.blk id) ⟨fun b => (b.loadN off 5).map .agg⟩ := by kernel_rfl
attribute [go_sem] ld_103
theorem st_103 (h : H) (id off : Nat) (v : CV) : storeT Go.Proofs.Tryd.prog h 103 id off v = @thn _ _ (h.blk id) ⟨fun b => cond (Nat.beq v.cells.length 5 && !b.ro) ((b.storeA off v.cells).map fun b' => h.put id (.cells b')) none⟩ := by kernel_rfl
attribute [go_sem] st_103
theorem part_103 (cs : List CV) (off : Nat) : partT Go.Proofs.Tryd.prog 103 cs off = some (.agg ((cs.drop off).take 5)) := by kernel_rfl
attribute [go_sem] part_103
theorem ze_103 : zeroT Go.Proofs.Tryd.prog 103 = some (.agg [.int .u64 0, .int .u64 0, .int .u64 0, .int .u64 0, .int .u64 0]) := by kernel_rfl
attribute [go_sem] ze_103
theorem ia_103 (id off k : Nat) (kd : IntKind) : indexAddrT Go.Proofs.Tryd.prog 103 (.ptr id off) (.int kd (Int.ofNat k)) = cond (Nat.blt k 5) (some (.ptr id (off + k * 1))) none := by kernel_rfl
attribute [go_sem] ia_103
theorem ix_103 (cs : List CV) (k : Nat) (kd : IntKind) : indexT Go.Proofs.Tryd.prog 103 (.agg cs) (.int kd (Int.ofNat k)) = cond (Nat.blt k 5) (partT Go.Proofs.Tryd.prog 23 cs (k * 1)) none := by kernel_rfl
attribute [go_sem] ix_103
theorem len_103 (h : H) (ts : List TypeId) (az : List CV) (a : CV) : builtinT Go.Proofs.Tryd.prog h .len (103 :: ts) (a :: az) = some (.val (.int .i64 5)) := by kernel_rfl
attribute [go_sem] len_103
theorem bt_103 (parts : List (Nat × CV)) : buildT Go.Proofs.Tryd.prog 103 parts = finB (CV.cells (.agg [.int .u64 0, .int .u64 0, .int .u64 0, .int .u64 0, .int .u64 0])) (fun i => some (i * 1, 1)) parts := by kernel_rfl
attribute [go_sem] bt_103
theorem sz_104 : szOf Go.Proofs.Tryd.prog 104 = some 1 := by kernel_rfl
attribute [go_sem] sz_104
theorem ld_104 (h : H) (id off : Nat) : loadT Go.Proofs.Tryd.prog h 104 id off = @thn _ _ (h.blk id) ⟨fun b => b.get off⟩ := by kernel_rfl
attribute [go_sem] ld_104
theorem st_104 (h : H) (id off : Nat) (v : CV) : storeT Go.Proofs.Tryd.prog h 104 id off v = @thn _ _ (h.blk id) ⟨fun b => cond (Nat.beq v.cells.length 1 && !b.ro) ((b.storeA off v.cells).map fun b' => h.put id (.cells b')) none⟩ := by kernel_rfl
attribute [go_sem] st_104
theorem part_104 (cs : List CV) (off : Nat) : partT Go.Proofs.Tryd.prog 104 cs off = nth cs off := by kernel_rfl
attribute [go_sem] part_104
theorem ze_104 : zeroT Go.Proofs.Tryd.prog 104 = some (.nilf) := by kernel_rfl
attribute [go_sem] ze_104
theorem eq_104 (xo yo : Operand) (f : Fn) (a b : List CV) : binT Go.Proofs.Tryd.prog .eql 104 xo yo (.fn f a b) .nilf = some (.bool false) := by kernel_rfl
attribute [go_sem] eq_104
theorem eq_104_n (xo yo : Operand) : binT Go.Proofs.Tryd.prog .eql 104 xo yo .nilf .nilf = some (.bool true) := by kernel_rfl
attribute [go_sem] eq_104_n
theorem ne_104 (xo yo : Operand) (f : Fn) (a b : List CV) : binT Go.Proofs.Tryd.prog .neq 104 xo yo (.fn f a b) .nilf = some (.bool true) := by kernel_rfl
attribute [go_sem] ne_104
theorem ne_104_n (xo yo : Operand) : binT Go.Proofs.Tryd.prog .neq 104 xo yo .nilf .nilf = some (.bool false) := by kernel_rfl
attribute [go_sem] ne_104_n
theorem sz_106 : szOf Go.Proofs.Tryd.prog 106 = some 1 := by kernel_rfl
attribute [go_sem] sz_106
theorem ld_106 (h : H) (id off : Nat) : loadT Go.Proofs.Tryd.prog h 106 id off = @thn _ _ (h.blk id) ⟨fun b => b.get off⟩ := by kernel_rfl
attribute [go_sem] ld_106
theorem st_106 (h : H) (id off : Nat) (v : CV) : storeT Go.Proofs.Tryd.prog h 106 id off v = @thn _ _ (h.blk id) ⟨fun b => cond (Nat.beq v.cells.length 1 && !b.ro) ((b.storeA off v.cells).map fun b' => h.put id (.cells b')) none⟩ := by kernel_rfl
attribute [go_sem] st_106
theorem part_106 (cs : List CV) (off : Nat) : partT Go.Proofs.Tryd.prog 106 cs off = nth cs off := by kernel_rfl
attribute [go_sem] part_106
theorem ze_106 : zeroT Go.Proofs.Tryd.prog 106 = some (.nilf) := by kernel_rfl
attribute [go_sem] ze_106
theorem eq_106 (xo yo : Operand) (f : Fn) (a b : List CV) : binT Go.Proofs.Tryd.prog .eql 106 xo yo (.fn f a b) .nilf = some (.bool false) := by kernel_rfl
attribute [go_sem] eq_106
theorem eq_106_n (xo yo : Operand) : binT Go.Proofs.Tryd.prog .eql 106 xo yo .nilf .nilf = some (.bool true) := by kernel_rfl
attribute [go_sem] eq_106_n
theorem ne_106 (xo yo : Operand) (f : Fn) (a b : List CV) : binT Go.Proofs.Tryd.prog .neq 106 xo yo (.fn f a b) .nilf = some (.bool true) := by kernel_rfl
attribute [go_sem] ne_106
theorem ne_106_n (xo yo : Operand) : binT Go.Proofs.Tryd.prog .neq 106 xo yo .nilf .nilf = some (.bool false) := by kernel_rfl
attribute [go_sem] ne_106_n
theorem sz_107 : szOf Go.Proofs.Tryd.prog 107 = some 1 := by kernel_rfl
attribute [go_sem] sz_107
theorem ld_107 (h : H) (id off : Nat) : loadT Go.Proofs.Tryd.prog h 107 id off = @thn _ _ (h.blk id) ⟨fun b => b.get off⟩ := by kernel_rfl
attribute [go_sem] ld_107
theorem st_107 (h : H) (id off : Nat) (v : CV) : storeT Go.Proofs.Tryd.prog h 107 id off v = @thn _ _ (h.blk id) ⟨fun b => cond (Nat.beq v.cells.length 1 && !b.ro) ((b.storeA off v.cells).map fun b' => h.put id (.cells b')) none⟩ := by kernel_rfl
attribute [go_sem] st_107
theorem part_107 (cs : List CV) (off : Nat) : partT Go.Proofs.Tryd.prog 107 cs off = nth cs off := by kernel_rfl
attribute [go_sem] part_107
theorem ze_107 : zeroT Go.Proofs.Tryd.prog 107 = some (.nilf) := by kernel_rfl
attribute [go_sem] ze_107
theorem eq_107 (xo yo : Operand) (f : Fn) (a b : List CV) : binT Go.Proofs.Tryd.prog .eql 107 xo yo (.fn f a b) .nilf = some (.bool false) := by kernel_rfl
attribute [go_sem] eq_107
theorem eq_107_n (xo yo : Operand) : binT Go.Proofs.Tryd.prog .eql 107 xo yo .nilf .nilf = some (.bool true) := by kernel_rfl
attribute [go_sem] eq_107_n
theorem ne_107 (xo yo : Operand) (f : Fn) (a b : List CV) : binT Go.Proofs.Tryd.prog .neq 107 xo yo (.fn f a b) .nilf = some (.bool true) := by kernel_rfl
attribute [go_sem] ne_107
theorem ne_107_n (xo yo : Operand) : binT Go.Proofs.Tryd.prog .neq 107 xo yo .nilf .nilf = some (.bool false) := by kernel_rfl
attribute [go_sem] ne_107_n
theorem sz_108 : szOf Go.Proofs.Tryd.prog 108 = some 1 := by kernel_rfl
attribute [go_sem] sz_108
theorem ld_108 (h : H) (id off : Nat) : loadT Go.Proofs.Tryd.prog h 108 id off = @thn _ _ (h.blk id) ⟨fun b => b.get off⟩ := by kernel_rfl
attribute [go_sem] ld_108
theorem st_108 (h : H) (id off : Nat) (v : CV) : storeT Go.Proofs.Tryd.prog h 108 id off v = @thn _ _ (h.blk id) ⟨fun b => cond (Nat.beq v.cells.length 1 && !b.ro) ((b.storeA off v.cells).map fun b' => h.put id (.cells b')) none⟩ := by kernel_rfl
attribute [go_sem] st_108
theorem part_108 (cs : List CV) (off : Nat) : partT Go.Proofs.Tryd.prog 108 cs off = nth cs off := by kernel_rfl
attribute [go_sem] part_108
theorem ze_108 : zeroT Go.Proofs.Tryd.prog 108 = some (.nilf) := by kernel_rfl
attribute [go_sem] ze_108
theorem eq_108 (xo yo : Operand) (f : Fn) (a b : List CV) : binT Go.Proofs.Tryd.prog .eql 108 xo yo (.fn f a b) .nilf = some (.bool false) := by kernel_rfl
attribute [go_sem] eq_108
theorem eq_108_n (xo yo : Operand) : binT Go.Proofs.Tryd.prog .eql 108 xo yo .nilf .nilf = some (.bool true) := by kernel_rfl
attribute [go_sem] eq_108_n
theorem ne_108 (xo yo : Operand) (f : Fn) (a b : List CV) : binT Go.Proofs.Tryd.prog .neq 108 xo yo (.fn f a b) .nilf = some (.bool true) := by kernel_rfl
attribute [go_sem] ne_108
theorem ne_108_n (xo yo : Operand) : binT Go.Proofs.Tryd.prog .neq 108 xo yo .nilf .nilf = some (.bool false) := by kernel_rfl
attribute [go_sem] ne_108_n
theorem sz_111 : szOf Go.Proofs.Tryd.prog 111 = some 1 := by kernel_rfl
attribute [go_sem] sz_111
theorem ld_111 (h : H) (id off : Nat) : loadT Go.Proofs.Tryd.prog h 111 id off = @thn _ _ (h.blk id) ⟨fun b => b.get off⟩ := by kernel_rfl
attribute [go_sem] ld_111
theorem st_111 (h : H) (id off : Nat) (v : CV) : storeT Go.Proofs.Tryd.prog h 111 id off v = @thn _ _ (h.blk id) ⟨fun b => cond (Nat.beq v.cells.length 1 && !b.ro) ((b.storeA off v.cells).map fun b' => h.put id (.cells b')) none⟩ := by kernel_rfl
attribute [go_sem] st_111
theorem part_111 (cs : List CV) (off : Nat) : partT Go.Proofs.Tryd.prog 111 cs off = nth cs off := by kernel_rfl
attribute [go_sem] part_111
theorem ze_111 : zeroT Go.Proofs.Tryd.prog 111 = some (.nilf) := by kernel_rfl
attribute [go_sem] ze_111
theorem eq_111 (xo yo : Operand) (f : Fn) (a b : List CV) : binT Go.Proofs.Tryd.prog .eql 111 xo yo (.fn f a b) .nilf = some (.bool false) := by kernel_rfl
attribute [go_sem] eq_111
theorem eq_111_n (xo yo : Operand) : binT Go.Proofs.Tryd.prog .eql 111 xo yo .nilf .nilf = some (.bool true) := by kernel_rfl
attribute [go_sem] eq_111_n
theorem ne_111 (xo yo : Operand) (f : Fn) (a b : List CV) : binT Go.Proofs.Tryd.prog .neq 111 xo yo (.fn f a b) .nilf = some (.bool true) := by kernel_rfl
attribute [go_sem] ne_111
theorem ne_111_n (xo yo : Operand) : binT Go.Proofs.Tryd.prog .neq 111 xo yo .nilf .nilf = some (.bool false) := by kernel_rfl
attribute [go_sem] ne_111_n
theorem sz_112 : szOf Go.Proofs.Tryd.prog 112 = some 1 := by kernel_rfl
attribute [go_sem] sz_112
theorem ld_112 (h : H) (id off : Nat) : loadT Go.Proofs.Tryd.prog h 112 id off = @thn _ _ (h.blk id) ⟨fun b => b.get off⟩ := by kernel_rfl
attribute [go_sem] ld_112
theorem st_112 (h : H) (id off : Nat) (v : CV) : storeT Go.Proofs.Tryd.prog h 112 id off v = @thn _ _ (h.blk id) ⟨fun b => cond (Nat.beq v.cells.length 1 && !b.ro) ((b.storeA off v.cells).map fun b' => h.put id (.cells b')) none⟩ := by kernel_rfl
attribute [go_sem] st_112
theorem part_112 (cs : List CV) (off : Nat) : partT Go.Proofs.Tryd.prog 112 cs off = nth cs off := by kernel_rfl
attribute [go_sem] part_112
theorem ze_112 : zeroT Go.Proofs.Tryd.prog 112 = some (.nilf) := by kernel_rfl
attribute [go_sem] ze_112
theorem eq_112 (xo yo : Operand) (f : Fn) (a b : List CV) : binT Go.Proofs.Tryd.prog .eql 112 xo yo (.fn f a b) .nilf = some (.bool false) := by kernel_rfl
attribute [go_sem] eq_112
theorem eq_112_n (xo yo : Operand) : binT Go.Proofs.Tryd.prog .eql 112 xo yo .nilf .nilf = some (.bool true) := by kernel_rfl
attribute [go_sem] eq_112_n
theorem ne_112 (xo yo : Operand) (f : Fn) (a b : List CV) : binT Go.Proofs.Tryd.prog .neq 112 xo yo (.fn f a b) .nilf = some (.bool true) := by kernel_rfl
attribute [go_sem] ne_112
theorem ne_112_n (xo yo : Operand) : binT Go.Proofs.Tryd.prog .neq 112 xo yo .nilf .nilf = some (.bool false) := by kernel_rfl
attribute [go_sem] ne_112_n
theorem sz_115 : szOf Go.Proofs.Tryd.prog 115 = some 2 := by kernel_rfl
attribute [go_sem] sz_115
theorem ld_115 (h : H) (id off : Nat) : loadT Go.Proofs.Tryd.prog h 115 id off = @thn _ _ (h.blk id) ⟨fun b => (b.loadN off 2).map .agg⟩ := by kernel_rfl
attribute [go_sem] ld_115
theorem st_115 (h : H) (id off : Nat) (v : CV) : storeT Go.Proofs.Tryd.prog h 115 id off v = @thn _ _ (h.blk id) ⟨fun b => cond (Nat.beq v.cells.length 2 && !b.ro) ((b.storeA off v.cells).map fun b' => h.put id (.cells b')) none⟩ := by kernel_rfl
attribute [go_sem] st_115
theorem part_115 (cs : List CV) (off : Nat) : partT Go.Proofs.Tryd.prog 115 cs off = some (.agg ((cs.drop off).take 2)) := by kernel_rfl
attribute [go_sem] part_115
theorem ze_115 : zeroT Go.Proofs.Tryd.prog 115 = some (.agg [.nils, .bool false]) := by kernel_rfl
attribute [go_sem] ze_115
theorem bt_115 (parts : List (Nat × CV)) : buildT Go.Proofs.Tryd.prog 115 parts = finB (CV.cells (.agg [.nils, .bool false])) (nth [(0, 1), (1, 1)]) parts := by kernel_rfl
attribute [go_sem] bt_115
theorem fa_115_0 (id off : Nat) : fieldAddrT Go.Proofs.Tryd.prog 115 (.ptr id off) 0 = some (.ptr id (off)) := by kernel_rfl
attribute [go_sem] fa_115_0
theorem fd_115_0 (cs : List CV) : fieldT Go.Proofs.Tryd.prog 115 (.agg cs) 0 = partT Go.Proofs.Tryd.prog 101 cs 0 := by kernel_rfl
attribute [go_sem] fd_115_0
theorem fa_115_1 (id off : Nat) : fieldAddrT Go.Proofs.Tryd.prog 115 (.ptr id off) 1 = some (.ptr id (off + 1)) := by kernel_rfl
attribute [go_sem] fa_115_1
theorem fd_115_1 (cs : List CV) : fieldT Go.Proofs.Tryd.prog 115 (.agg cs) 1 = partT Go.Proofs.Tryd.prog 4 cs 1 := by kernel_rfl
attribute [go_sem] fd_115_1
theorem sz_122 : szOf Go.Proofs.Tryd.prog 122 = some 32 := by kernel_rfl
attribute [go_sem] sz_122
theorem ld_122 (h : H) (id off : Nat) : loadT Go.Proofs.Tryd.prog h 122 id off = @thn _ _ (h.blk id) ⟨fun b => (b.loadN off 32).map .agg⟩ := by kernel_rfl
attribute [go_sem] ld_122
theorem st_122 (h : H) (id off : Nat) (v : CV) : storeT Go.Proofs.Tryd.prog h 122 id off v = @thn _ _ (h.blk id) ⟨fun b => cond (Nat.beq v.cells.length 32 && !b.ro) ((b.storeA off v.cells).map fun b' => h.put id (.cells b')) none⟩ := by kernel_rfl
attribute [go_sem] st_122
theorem part_122 (cs : List CV) (off : Nat) : partT Go.Proofs.Tryd.prog 122 cs off = some (.agg ((cs.drop off).take 32)) := by kernel_rfl
attribute [go_sem] part_122
theorem ze_122 : zeroT Go.Proofs.Tryd.prog 122 = some (.agg [.int .u8 0, .int .u8 0, .int .u8 0, .int .u8 0, .int .u8 0, .int .u8 0, .int .u8 0, .int .u8 0, .int .u8 0, .int .u8 0, .int .u8 0, .int .u8 0, .int .u8 0, .int .u8 0, .int .u8 0, .int .u8 0, .int .u8 0, .int .u8 0, .int .u8 0, .int .u8 0, .int .u8 0, .int .u8 0, .int .u8 0, .int .u8 0, .int .u8 0, .int .u8 0, .int .u8 0, .int .u8 0, .int .u8 0, .int .u8 0, .int .u8 0, .int .u8 0]) := by kernel_rfl
attribute [go_sem] ze_122
theorem ia_122 (id off k : Nat) (kd : IntKind) : indexAddrT Go.Proofs.Tryd.prog 122 (.ptr id off) (.int kd (Int.ofNat k)) = cond (Nat.blt k 32) (some (.ptr id (off + k * 1))) none := by kernel_rfl
attribute [go_sem] ia_122
theorem ix_122 (cs : List CV) (k : Nat) (kd : IntKind) : indexT Go.Proofs.Tryd.prog 122 (.agg cs) (.int kd (Int.ofNat k)) = cond (Nat.blt k 32) (partT Go.Proofs.Tryd.prog 5 cs (k * 1)) none := by kernel_rfl
attribute [go_sem] ix_122
theorem len_122 (h : H) (ts : List TypeId) (az : List CV) (a : CV) : builtinT Go.Proofs.Tryd.prog h .len (122 :: ts) (a :: az) = some (.val (.int .i64 32)) := by kernel_rfl
attribute [go_sem] len_122
theorem bt_122 (parts : List (Nat × CV)) : buildT Go.Proofs.Tryd.prog 122 parts = finB (CV.cells (.agg [.int .u8 0, .int .u8 0, .int .u8 0, .int .u8 0, .int .u8 0, .int .u8 0, .int .u8 0, .int .u8 0, .int .u8 0, .int .u8 0, .int .u8 0, .int .u8 0, .int .u8 0, .int .u8 0, .int .u8 0, .int .u8 0, .int .u8 0, .int .u8 0, .int .u8 0, .int .u8 0, .int .u8 0, .int .u8 0, .int .u8 0, .int .u8 0, .int .u8 0, .int .u8 0, .int .u8 0, .int .u8 0, .int .u8 0, .int .u8 0, .int .u8 0, .int .u8 0])) (fun i => some (i * 1, 1)) parts := by kernel_rfl
attribute [go_sem] bt_122
theorem sz_123 : szOf Go.Proofs.Tryd.prog 123 = some 1 := by kernel_rfl
attribute [go_sem] sz_123
theorem ld_123 (h : H) (id off : Nat) : loadT Go.Proofs.Tryd.prog h 123 id off = @thn _ _ (h.blk id) ⟨fun b => b.get off⟩ := by kernel_rfl
attribute [go_sem] ld_123
theorem st_123 (h : H) (id off : Nat) (v : CV) : storeT Go.Proofs.Tryd.prog h 123 id off v = @thn _ _ (h.blk id) ⟨fun b => cond (Nat.beq v.cells.length 1 && !b.ro) ((b.storeA off v.cells).map fun b' => h.put id (.cells b')) none⟩ := by kernel_rfl
attribute [go_sem] st_123
theorem part_123 (cs : List CV) (off : Nat) : partT Go.Proofs.Tryd.prog 123 cs off = nth cs off := by kernel_rfl
attribute [go_sem] part_123
theorem ze_123 : zeroT Go.Proofs.Tryd.prog 123 = some (.nilf) := by kernel_rfl
attribute [go_sem] ze_123
theorem eq_123 (xo yo : Operand) (f : Fn) (a b : List CV) : binT Go.Proofs.Tryd.prog .eql 123 xo yo (.fn f a b) .nilf = some (.bool false) := by kernel_rfl
attribute [go_sem] eq_123
theorem eq_123_n (xo yo : Operand) : binT Go.Proofs.Tryd.prog .eql 123 xo yo .nilf .nilf = some (.bool true) := by kernel_rfl
attribute [go_sem] eq_123_n
theorem ne_123 (xo yo : Operand) (f : Fn) (a b : List CV) : binT Go.Proofs.Tryd.prog .neq 123 xo yo (.fn f a b) .nilf = some (.bool true) := by kernel_rfl
attribute [go_sem] ne_123
theorem ne_123_n (xo yo : Operand) : binT Go.Proofs.Tryd.prog .neq 123 xo yo .nilf .nilf = some (.bool false) := by kernel_rfl
attribute [go_sem] ne_123_n
theorem sz_124 : szOf Go.Proofs.Tryd.prog 124 = some 1 := by kernel_rfl
attribute [go_sem] sz_124
theorem ld_124 (h : H) (id off : Nat) : loadT Go.Proofs.Tryd.prog h 124 id off = @thn _ _ (h.blk id) ⟨fun b => b.get off⟩ := by kernel_rfl
attribute [go_sem] ld_124
theorem st_124 (h : H) (id off : Nat) (v : CV) : storeT Go.Proofs.Tryd.prog h 124 id off v = @thn _ _ (h.blk id) ⟨fun b => cond (Nat.beq v.cells.length 1 && !b.ro) ((b.storeA off v.cells).map fun b' => h.put id (.cells b')) none⟩ := by kernel_rfl
attribute [go_sem] st_124
theorem part_124 (cs : List CV) (off : Nat) : partT Go.Proofs.Tryd.prog 124 cs off = nth cs off := by kernel_rfl
attribute [go_sem] part_124
theorem ze_124 : zeroT Go.Proofs.Tryd.prog 124 = some (.int .u64 0) := by kernel_rfl
attribute [go_sem] ze_124
theorem sz_126 : szOf Go.Proofs.Tryd.prog 126 = some 1 := by kernel_rfl
attribute [go_sem] sz_126
theorem ld_126 (h : H) (id off : Nat) : loadT Go.Proofs.Tryd.prog h 126 id off = @thn _ _ (h.blk id) ⟨fun b => b.get off⟩ := by kernel_rfl
attribute [go_sem] ld_126
theorem st_126 (h : H) (id off : Nat) (v : CV) : storeT Go.Proofs.Tryd.prog h 126 id off v = @thn _ _ (h.blk id) ⟨fun b => cond (Nat.beq v.cells.length 1 && !b.ro) ((b.storeA off v.cells).map fun b' => h.put id (.cells b')) none⟩ := by kernel_rfl
attribute [go_sem] st_126
theorem part_126 (cs : List CV) (off : Nat) : partT Go.Proofs.Tryd.prog 126 cs off = nth cs off := by kernel_rfl
attribute [go_sem] part_126
theorem ze_126 : zeroT Go.Proofs.Tryd.prog 126 = some (.nilf) := by kernel_rfl
attribute [go_sem] ze_126
theorem eq_126 (xo yo : Operand) (f : Fn) (a b : List CV) : binT Go.Proofs.Tryd.prog .eql 126 xo yo (.fn f a b) .nilf = some (.bool false) := by kernel_rfl
attribute [go_sem] eq_126
theorem eq_126_n (xo yo : Operand) : binT Go.Proofs.Tryd.prog .eql 126 xo yo .nilf .nilf = some (.bool true) := by kernel_rfl
attribute [go_sem] eq_126_n
theorem ne_126 (xo yo : Operand) (f : Fn) (a b : List CV) : binT Go.Proofs.Tryd.prog .neq 126 xo yo (.fn f a b) .nilf = some (.bool true) := by kernel_rfl
attribute [go_sem] ne_126
theorem ne_126_n (xo yo : Operand) : binT Go.Proofs.Tryd.prog .neq 126 xo yo .nilf .nilf = some (.bool false) := by kernel_rfl
attribute [go_sem] ne_126_n
theorem sz_128 : szOf Go.Proofs.Tryd.prog 128 = some 1 := by kernel_rfl
attribute [go_sem] sz_128
theorem ld_128 (h : H) (id off : Nat) : loadT Go.Proofs.Tryd.prog h 128 id off = @thn _ _ (h.blk id) ⟨fun b => b.get off⟩ := by kernel_rfl
attribute [go_sem] ld_128
theorem st_128 (h : H) (id off : Nat) (v : CV) : storeT Go.Proofs.Tryd.prog h 128 id off v = @thn _ _ (h.blk id) ⟨fun b => cond (Nat.beq v.cells.length 1 && !b.ro) ((b.storeA off v.cells).map fun b' => h.put id (.cells b')) none⟩ := by kernel_rfl
attribute [go_sem] st_128
theorem part_128 (cs : List CV) (off : Nat) : partT Go.Proofs.Tryd.prog 128 cs off = nth cs off := by kernel_rfl
attribute [go_sem] part_128
theorem ze_128 : zeroT Go.Proofs.Tryd.prog 128 = some (.nilf) := by kernel_rfl
attribute [go_sem] ze_128
theorem eq_128 (xo yo : Operand) (f : Fn) (a b : List CV) : binT Go.Proofs.Tryd.prog .eql 128 xo yo (.fn f a b) .nilf = some (.bool false) := by kernel_rfl
attribute [go_sem] eq_128
theorem eq_128_n (xo yo : Operand) : binT Go.Proofs.Tryd.prog .eql 128 xo yo .nilf .nilf = some (.bool true) := by kernel_rfl
attribute [go_sem] eq_128_n
theorem ne_128 (xo yo : Operand) (f : Fn) (a b : List CV) : binT Go.Proofs.Tryd.prog .neq 128 xo yo (.fn f a b) .nilf = some (.bool true) := by kernel_rfl
attribute [go_sem] ne_128
theorem ne_128_n (xo yo : Operand) : binT Go.Proofs.Tryd.prog .neq 128 xo yo .nilf .nilf = some (.bool false) := by kernel_rfl
attribute [go_sem] ne_128_n
theorem sz_129 : szOf Go.Proofs.Tryd.prog 129 = some 1 := by kernel_rfl
attribute [go_sem] sz_129
theorem ld_129 (h : H) (id off : Nat) : loadT Go.Proofs.Tryd.prog h 129 id off = @thn _ _ (h.blk id) ⟨fun b => b.get off⟩ := by kernel_rfl
attribute [go_sem] ld_129
theorem st_129 (h : H) (id off : Nat) (v : CV) : storeT Go.Proofs.Tryd.prog h 129 id off v = @thn _ _ (h.blk id) ⟨fun b => cond (Nat.beq v.cells.length 1 && !b.ro) ((b.storeA off v.cells).map fun b' => h.put id (.cells b')) none⟩ := by kernel_rfl
attribute [go_sem] st_129
theorem part_129 (cs : List CV) (off : Nat) : partT Go.Proofs.Tryd.prog 129 cs off = nth cs off := by kernel_rfl
attribute [go_sem] part_129
theorem ze_129 : zeroT Go.Proofs.Tryd.prog 129 = some (.nilf) := by kernel_rfl
attribute [go_sem] ze_129
theorem eq_129 (xo yo : Operand) (f : Fn) (a b : List CV) : binT Go.Proofs.Tryd.prog .eql 129 xo yo (.fn f a b) .nilf = some (.bool false) := by kernel_rfl
attribute [go_sem] eq_129
theorem eq_129_n (xo yo : Operand) : binT Go.Proofs.Tryd.prog .eql 129 xo yo .nilf .nilf = some (.bool true) := by kernel_rfl
attribute [go_sem] eq_129_n
theorem ne_129 (xo yo : Operand) (f : Fn) (a b : List CV) : binT Go.Proofs.Tryd.prog .neq 129 xo yo (.fn f a b) .nilf = some (.bool true) := by kernel_rfl
attribute [go_sem] ne_129
theorem ne_129_n (xo yo : Operand) : binT Go.Proofs.Tryd.prog .neq 129 xo yo .nilf .nilf = some (.bool false) := by kernel_rfl
attribute [go_sem] ne_129_n
theorem sz_130 : szOf Go.Proofs.Tryd.prog 130 = some 3 := by kernel_rfl
attribute [go_sem] sz_130
theorem ld_130 (h : H) (id off : Nat) : loadT Go.Proofs.Tryd.prog h 130 id off = @thn _ _ (h.blk id) ⟨fun b => (b.loadN off 3).map .agg⟩ := by kernel_rfl
attribute [go_sem] ld_130
theorem st_130 (h : H) (id off : Nat) (v : CV) : storeT Go.Proofs.Tryd.prog h 130 id off v = @thn _ _ (h.blk id) ⟨fun b => cond (Nat.beq v.cells.length 3 && !b.ro) ((b.storeA off v.cells).map fun b' => h.put id (.cells b')) none⟩ := by kernel_rfl
attribute [go_sem] st_130
theorem part_130 (cs : List CV) (off : Nat) : partT Go.Proofs.Tryd.prog 130 cs off = some (.agg ((cs.drop off).take 3)) := by kernel_rfl
attribute [go_sem] part_130
theorem ze_130 : zeroT Go.Proofs.Tryd.prog 130 = some (.agg [.nils, .bool false, .bool false]) := by kernel_rfl
attribute [go_sem] ze_130
theorem bt_130 (parts : List (Nat × CV)) : buildT Go.Proofs.Tryd.prog 130 parts = finB (CV.cells (.agg [.nils, .bool false, .bool false])) (nth [(0, 1), (1, 1), (2, 1)]) parts := by kernel_rfl
attribute [go_sem] bt_130
theorem fa_130_0 (id off : Nat) : fieldAddrT Go.Proofs.Tryd.prog 130 (.ptr id off) 0 = some (.ptr id (off)) := by kernel_rfl
attribute [go_sem] fa_130_0
theorem fd_130_0 (cs : List CV) : fieldT Go.Proofs.Tryd.prog 130 (.agg cs) 0 = partT Go.Proofs.Tryd.prog 101 cs 0 := by kernel_rfl
attribute [go_sem] fd_130_0
theorem fa_130_1 (id off : Nat) : fieldAddrT Go.Proofs.Tryd.prog 130 (.ptr id off) 1 = some (.ptr id (off + 1)) := by kernel_rfl
attribute [go_sem] fa_130_1
theorem fd_130_1 (cs : List CV) : fieldT Go.Proofs.Tryd.prog 130 (.agg cs) 1 = partT Go.Proofs.Tryd.prog 4 cs 1 := by kernel_rfl
attribute [go_sem] fd_130_1
theorem fa_130_2 (id off : Nat) : fieldAddrT Go.Proofs.Tryd.prog 130 (.ptr id off) 2 = some (.ptr id (off + 2)) := by kernel_rfl
attribute [go_sem] fa_130_2
theorem fd_130_2 (cs : List CV) : fieldT Go.Proofs.Tryd.prog 130 (.agg cs) 2 = partT Go.Proofs.Tryd.prog 4 cs 2 := by kernel_rfl
attribute [go_sem] fd_130_2
theorem sz_132 : szOf Go.Proofs.Tryd.prog 132 = some 1 := by kernel_rfl
attribute [go_sem] sz_132
theorem ld_132 (h : H) (id off : Nat) : loadT Go.Proofs.Tryd.prog h 132 id off = @thn _ _ (h.blk id) ⟨fun b => b.get off⟩ := by kernel_rfl
attribute [go_sem] ld_132
theorem st_132 (h : H) (id off : Nat) (v : CV) : storeT Go.Proofs.Tryd.prog h 132 id off v = @thn _ _ (h.blk id) ⟨fun b => cond (Nat.beq v.cells.length 1 && !b.ro) ((b.storeA off v.cells).map fun b' => h.put id (.cells b')) none⟩ := by kernel_rfl
attribute [go_sem] st_132
theorem part_132 (cs : List CV) (off : Nat) : partT Go.Proofs.Tryd.prog 132 cs off = nth cs off := by kernel_rfl
attribute [go_sem] part_132
theorem sz_133 : szOf Go.Proofs.Tryd.prog 133 = some 1 := by kernel_rfl
attribute [go_sem] sz_133
theorem ld_133 (h : H) (id off : Nat) : loadT Go.Proofs.Tryd.prog h 133 id off = @thn _ _ (h.blk id) ⟨fun b => b.get off⟩ := by kernel_rfl
attribute [go_sem] ld_133
theorem st_133 (h : H) (id off : Nat) (v : CV) : storeT Go.Proofs.Tryd.prog h 133 id off v = @thn _ _ (h.blk id) ⟨fun b => cond (Nat.beq v.cells.length 1 && !b.ro) ((b.storeA off v.cells).map fun b' => h.put id (.cells b')) none⟩ := by kernel_rfl
attribute [go_sem] st_133
theorem part_133 (cs : List CV) (off : Nat) : partT Go.Proofs.Tryd.prog 133 cs off = nth cs off := by kernel_rfl
attribute [go_sem] part_133
theorem ze_133 : zeroT Go.Proofs.Tryd.prog 133 = some (.nilf) := by kernel_rfl
attribute [go_sem] ze_133
theorem eq_133 (xo yo : Operand) (f : Fn) (a b : List CV) : binT Go.Proofs.Tryd.prog .eql 133 xo yo (.fn f a b) .nilf = some (.bool false) := by kernel_rfl
attribute [go_sem] eq_133
theorem eq_133_n (xo yo : Operand) : binT Go.Proofs.Tryd.prog .eql 133 xo yo .nilf .nilf = some (.bool true) := by kernel_rfl
attribute [go_sem] eq_133_n
theorem ne_133 (xo yo : Operand) (f : Fn) (a b : List CV) : binT Go.Proofs.Tryd.prog .neq 133 xo yo (.fn f a b) .nilf = some (.bool true) := by kernel_rfl
attribute [go_sem] ne_133
theorem ne_133_n (xo yo : Operand) : binT Go.Proofs.Tryd.prog .neq 133 xo yo .nilf .nilf = some (.bool false) := by kernel_rfl
attribute [go_sem] ne_133_n
theorem sz_134 : szOf Go.Proofs.Tryd.prog 134 = some 1 := by kernel_rfl
attribute [go_sem] sz_134
theorem ld_134 (h : H) (id off : Nat) : loadT Go.Proofs.Tryd.prog h 134 id off = @thn _ _ (h.blk id) ⟨fun b => b.get off⟩ := by kernel_rfl
attribute [go_sem] ld_134
theorem st_134 (h : H) (id off : Nat) (v : CV) : storeT Go.Proofs.Tryd.prog h 134 id off v = @thn _ _ (h.blk id) ⟨fun b => cond (Nat.beq v.cells.length 1 && !b.ro) ((b.storeA off v.cells).map fun b' => h.put id (.cells b')) none⟩ := by kernel_rfl
attribute [go_sem] st_134
theorem part_134 (cs : List CV) (off : Nat) : partT Go.Proofs.Tryd.prog 134 cs off = nth cs off := by kernel_rfl
attribute [go_sem] part_134
theorem ze_134 : zeroT Go.Proofs.Tryd.prog 134 = some (.nilf) := by kernel_rfl
attribute [go_sem] ze_134
theorem eq_134 (xo yo : Operand) (f : Fn) (a b : List CV) : binT Go.Proofs.Tryd.prog .eql 134 xo yo (.fn f a b) .nilf = some (.bool false) := by kernel_rfl
attribute [go_sem] eq_134
theorem eq_134_n (xo yo : Operand) : binT Go.Proofs.Tryd.prog .eql 134 xo yo .nilf .nilf = some (.bool true) := by kernel_rfl
attribute [go_sem] eq_134_n
theorem ne_134 (xo yo : Operand) (f : Fn) (a b : List CV) : binT Go.Proofs.Tryd.prog .neq 134 xo yo (.fn f a b) .nilf = some (.bool true) := by kernel_rfl
attribute [go_sem] ne_134
theorem ne_134_n (xo yo : Operand) : binT Go.Proofs.Tryd.prog .neq 134 xo yo .nilf .nilf = some (.bool false) := by kernel_rfl
attribute [go_sem] ne_134_n
theorem sz_140 : szOf Go.Proofs.Tryd.prog 140 = some 1 := by kernel_rfl
attribute [go_sem] sz_140
theorem ld_140 (h : H) (id off : Nat) : loadT Go.Proofs.Tryd.prog h 140 id off = @thn _ _ (h.blk id) ⟨fun b => b.get off⟩ := by kernel_rfl
attribute [go_sem] ld_140
theorem st_140 (h : H) (id off : Nat) (v : CV) : storeT Go.Proofs.Tryd.prog h 140 id off v = @thn _ _ (h.blk id) ⟨fun b => cond (Nat.beq v.cells.length 1 && !b.ro) ((b.storeA off v.cells).map fun b' => h.put id (.cells b')) none⟩ := by kernel_rfl
attribute [go_sem] st_140
theorem part_140 (cs : List CV) (off : Nat) : partT Go.Proofs.Tryd.prog 140 cs off = nth cs off := by kernel_rfl
attribute [go_sem] part_140
theorem ze_140 : zeroT Go.Proofs.Tryd.prog 140 = some (.nilf) := by kernel_rfl
attribute [go_sem] ze_140
theorem eq_140 (xo yo : Operand) (f : Fn) (a b : List CV) : binT Go.Proofs.Tryd.prog .eql 140 xo yo (.fn f a b) .nilf = some (.bool false) := by kernel_rfl
attribute [go_sem] eq_140
theorem eq_140_n (xo yo : Operand) : binT Go.Proofs.Tryd.prog .eql 140 xo yo .nilf .nilf = some (.bool true) := by kernel_rfl
attribute [go_sem] eq_140_n
theorem ne_140 (xo yo : Operand) (f : Fn) (a b : List CV) : binT Go.Proofs.Tryd.prog .neq 140 xo yo (.fn f a b) .nilf = some (.bool true) := by kernel_rfl
attribute [go_sem] ne_140
theorem ne_140_n (xo yo : Operand) : binT Go.Proofs.Tryd.prog .neq 140 xo yo .nilf .nilf = some (.bool false) := by kernel_rfl
attribute [go_sem] ne_140_n
theorem sz_141 : szOf Go.Proofs.Tryd.prog 141 = some 1 := by kernel_rfl
attribute [go_sem] sz_141
theorem ld_141 (h : H) (id off : Nat) : loadT Go.Proofs.Tryd.prog h 141 id off = @thn _ _ (h.blk id) ⟨fun b => b.get off⟩ := by kernel_rfl
attribute [go_sem] ld_141
theorem st_141 (h : H) (id off : Nat) (v : CV) : storeT Go.Proofs.Tryd.prog h 141 id off v = @thn _ _ (h.blk id) ⟨fun b => cond (Nat.beq v.cells.length 1 && !b.ro) ((b.storeA off v.cells).map fun b' => h.put id (.cells b')) none⟩ := by kernel_rfl
attribute [go_sem] st_141
theorem part_141 (cs : List CV) (off : Nat) : partT Go.Proofs.Tryd.prog 141 cs off = nth cs off := by kernel_rfl
attribute [go_sem] part_141
theorem ze_141 : zeroT Go.Proofs.Tryd.prog 141 = some (.nils) := by kernel_rfl
attribute [go_sem] ze_141
theorem ia_141 (id off len k : Nat) (c : Cap) (kd : IntKind) : indexAddrT Go.Proofs.Tryd.prog 141 (.sl id off len c) (.int kd (Int.ofNat k)) = cond (Nat.blt k len) (some (.ptr id (off + k * 1))) none := by kernel_rfl
attribute [go_sem] ia_141
theorem len_141 (h : H) (id off len : Nat) (c : Cap) (ts : List TypeId) (az : List CV) : builtinT Go.Proofs.Tryd.prog h .len (141 :: ts) (.sl id off len c :: az) = some (.val (.int .i64 (Int.ofNat len))) := by kernel_rfl
attribute [go_sem] len_141
theorem len_141_n (h : H) (ts : List TypeId) (az : List CV) : builtinT Go.Proofs.Tryd.prog h .len (141 :: ts) (.nils :: az) = some (.val (.int .i64 0)) := by kernel_rfl
attribute [go_sem] len_141_n
theorem app_141 (h : H) (s : CV) (id off len : Nat) (c : Cap) (ts : List TypeId) (az : List CV) : builtinT Go.Proofs.Tryd.prog h .append (141 :: 141 :: ts) (s :: .sl id off len c :: az) = uv (appendT Go.Proofs.Tryd.prog h 141 s (.sl id off len c)) := by kernel_rfl
attribute [go_sem] app_141
theorem app_141_n (h : H) (s : CV) (ts : List TypeId) (az : List CV) : builtinT Go.Proofs.Tryd.prog h .append (141 :: 141 :: ts) (s :: .nils :: az) = uv (appendT Go.Proofs.Tryd.prog h 141 s .nils) := by kernel_rfl
attribute [go_sem] app_141_n
theorem ap_141 (h : H) (s : CV) (id off len : Nat) (c : Cap) : appendT Go.Proofs.Tryd.prog h 141 s (.sl id off len c) = appS h 1 8 1 s len (firstC h 1 len (.sl id off len c)) := by kernel_rfl
attribute [go_sem] ap_141
theorem ap_141_n (h : H) (s : CV) : appendT Go.Proofs.Tryd.prog h 141 s .nils = appS h 1 8 1 s 0 (some []) := by kernel_rfl
attribute [go_sem] ap_141_n
theorem ap_141_z (h : H) (s : CV) (a b c d : Nat) : appendT Go.Proofs.Tryd.prog h 141 s (.sl0 a b c d) = appS h 1 8 1 s 0 (some []) := by kernel_rfl
attribute [go_sem] ap_141_z
theorem bs_141 (h : H) (n : Nat) (parts : List (Nat × CV)) : buildSliceT Go.Proofs.Tryd.prog h 141 n parts = bslS h 1 (CV.cells (.int .u64 0)) n parts := by kernel_rfl
attribute [go_sem] bs_141
theorem ms_141 (h : H) (l c : Nat) (k k' : IntKind) : makeSliceT Go.Proofs.Tryd.prog h 141 (.int k (Int.ofNat l)) (.int k' (Int.ofNat c)) = mkS h 1 8 (zeroT Go.Proofs.Tryd.prog 23) l c := by kernel_rfl
attribute [go_sem] ms_141
theorem eq_141 (xo yo : Operand) (a b c : Nat) (d : Cap) : binT Go.Proofs.Tryd.prog .eql 141 xo yo (.sl a b c d) .nils = some (.bool false) := by kernel_rfl
attribute [go_sem] eq_141
theorem eq_141_n (xo yo : Operand) : binT Go.Proofs.Tryd.prog .eql 141 xo yo .nils .nils = some (.bool true) := by kernel_rfl
attribute [go_sem] eq_141_n
theorem eq_141_z (xo yo : Operand) (a b c d : Nat) : binT Go.Proofs.Tryd.prog .eql 141 xo yo (.sl0 a b c d) .nils = some (.bool false) := by kernel_rfl
attribute [go_sem] eq_141_z
theorem ne_141 (xo yo : Operand) (a b c : Nat) (d : Cap) : binT Go.Proofs.Tryd.prog .neq 141 xo yo (.sl a b c d) .nils = some (.bool true) := by kernel_rfl
attribute [go_sem] ne_141
theorem ne_141_n (xo yo : Operand) : binT Go.Proofs.Tryd.prog .neq 141 xo yo .nils .nils = some (.bool false) := by kernel_rfl
attribute [go_sem] ne_141_n
theorem ne_141_z (xo yo : Operand) (a b c d : Nat) : binT Go.Proofs.Tryd.prog .neq 141 xo yo (.sl0 a b c d) .nils = some (.bool true) := by kernel_rfl
attribute [go_sem] ne_141_z
theorem len_141_z (h : H) (a b c d : Nat) (ts : List TypeId) (az : List CV) : builtinT Go.Proofs.Tryd.prog h .len (141 :: ts) (.sl0 a b c d :: az) = some (.val (.int .i64 0)) := by kernel_rfl
attribute [go_sem] len_141_z
theorem app_141_z (h : H) (s : CV) (a b c d : Nat) (ts : List TypeId) (az : List CV) : builtinT Go.Proofs.Tryd.prog h .append (141 :: 141 :: ts) (s :: .sl0 a b c d :: az) = uv (appendT Go.Proofs.Tryd.prog h 141 s (.sl0 a b c d)) := by kernel_rfl
attribute [go_sem] app_141_z
theorem sz_142 : szOf Go.Proofs.Tryd.prog 142 = some 1 := by kernel_rfl
attribute [go_sem] sz_142
theorem ld_142 (h : H) (id off : Nat) : loadT Go.Proofs.Tryd.prog h 142 id off = @thn _ _ (h.blk id) ⟨fun b => b.get off⟩ := by kernel_rfl
attribute [go_sem] ld_142
theorem st_142 (h : H) (id off : Nat) (v : CV) : storeT Go.Proofs.Tryd.prog h 142 id off v = @thn _ _ (h.blk id) ⟨fun b => cond (Nat.beq v.cells.length 1 && !b.ro) ((b.storeA off v.cells).map fun b' => h.put id (.cells b')) none⟩ := by kernel_rfl
attribute [go_sem] st_142
theorem part_142 (cs : List CV) (off : Nat) : partT Go.Proofs.Tryd.prog 142 cs off = nth cs off := by kernel_rfl
attribute [go_sem] part_142
theorem ze_142 : zeroT Go.Proofs.Tryd.prog 142 = some (.int .u32 0) := by kernel_rfl
attribute [go_sem] ze_142
theorem sz_143 : szOf Go.Proofs.Tryd.prog 143 = some 8 := by kernel_rfl
attribute [go_sem] sz_143
theorem ld_143 (h : H) (id off : Nat) : loadT Go.Proofs.Tryd.prog h 143 id off = @thn _ _ (h.blk id) ⟨fun b => (b.loadN off 8).map .agg⟩ := by kernel_rfl
attribute [go_sem] ld_143
theorem st_143 (h : H) (id off : Nat) (v : CV) : storeT Go.Proofs.Tryd.prog h 143 id off v = @thn _ _ (h.blk id) ⟨fun b => cond (Nat.beq v.cells.length 8 && !b.ro) ((b.storeA off v.cells).map fun b' => h.put id (.cells b')) none⟩ := by kernel_rfl
attribute [go_sem] st_143
theorem part_143 (cs : List CV) (off : Nat) : partT Go.Proofs.Tryd.prog 143 cs off = some (.agg ((cs.drop off).take 8)) := by kernel_rfl
attribute [go_sem] part_143
theorem ze_143 : zeroT Go.Proofs.Tryd.prog 143 = some (.agg [.int .u32 0, .int .u32 0, .int .u32 0, .int .u32 0, .int .u32 0, .int .u32 0, .int .u32 0, .int .u32 0]) := by kernel_rfl
attribute [go_sem] ze_143
theorem ia_143 (id off k : Nat) (kd : IntKind) : indexAddrT Go.Proofs.Tryd.prog 143 (.ptr id off) (.int kd (Int.ofNat k)) = cond (Nat.blt k 8) (some (.ptr id (off + k * 1))) none := by kernel_rfl
attribute [go_sem] ia_143
theorem ix_143 (cs : List CV) (k : Nat) (kd : IntKind) : indexT Go.Proofs.Tryd.prog 143 (.agg cs) (.int kd (Int.ofNat k)) = cond (Nat.blt k 8) (partT Go.Proofs.Tryd.prog 142 cs (k * 1)) none := by kernel_rfl
attribute [go_sem] ix_143
theorem len_143 (h : H) (ts : List TypeId) (az : List CV) (a : CV) : builtinT Go.Proofs.Tryd.prog h .len (143 :: ts) (a :: az) = some (.val (.int .i64 8)) := by kernel_rfl
attribute [go_sem] len_143
theorem bt_143 (parts : List (Nat × CV)) : buildT Go.Proofs.Tryd.prog 143 parts = finB (CV.cells (.agg [.int .u32 0, .int .u32 0, .int .u32 0, .int .u32 0, .int .u32 0, .int .u32 0, .int .u32 0, .int .u32 0])) (fun i => some (i * 1, 1)) parts := by kernel_rfl
attribute [go_sem] bt_143
theorem sz_144 : szOf Go.Proofs.Tryd.prog 144 = some 64 := by kernel_rfl
attribute [go_sem] sz_144
theorem ld_144 (h : H) (id off : Nat) : loadT Go.Proofs.Tryd.prog h 144 id off = @thn _ _ (h.blk id) ⟨fun b => (b.loadN off 64).map .agg⟩ := by kernel_rfl
attribute [go_sem] ld_144
theorem st_144 (h : H) (id off : Nat) (v : CV) : storeT Go.Proofs.Tryd.prog h 144 id off v = @thn _ _ (h.blk id) ⟨fun b => cond (Nat.beq v.cells.length 64 && !b.ro) ((b.storeA off v.cells).map fun b' => h.put id (.cells b')) none⟩ := by kernel_rfl
attribute [go_sem] st_144
theorem part_144 (cs : List CV) (off : Nat) : partT Go.Proofs.Tryd.prog 144 cs off = some (.agg ((cs.drop off).take 64)) := by kernel_rfl
attribute [go_sem] part_144
theorem ze_144 : zeroT Go.Proofs.Tryd.prog 144 = some (.agg [.int .u32 0, .int .u32 0, .int .u32 0, .int .u32 0, .int .u32 0, .int .u32 0, .int .u32 0, .int .u32 0, .int .u32 0, .int .u32 0, .int .u32 0, .int .u32 0, .int .u32 0, .int .u32 0, .int .u32 0, .int .u32 0, .int .u32 0, .int .u32 0, .int .u32 0, .int .u32 0, .int .u32 0, .int .u32 0, .int .u32 0, .int .u32 0, .int .u32 0, .int .u32 0, .int .u32 0, .int .u32 0, .int .u32 0, .int .u32 0, .int .u32 0, .int .u32 0, .int .u32 0, .int .u32 0, .int .u32 0, .int .u32 0, .int .u32 0, .int .u32 0, .int .u32 0, .int .u32 0, .int .u32 0, .int .u32 0, .int .u32 0, .int .u32 0, .int .u32 0, .int .u32 0, .int .u32 0, .int .u32 0, .int .u32 0, .int .u32 0, .int .u32 0, .int .u32 0, .int .u32 0, .int .u32 0, .int .u32 0, .int .u32 0, .int .u32 0, .int .u32 0, .int .u32 0, .int .u32 0, .int .u32 0, .int .u32 0, .int .u32 0, .int .u32 0]) := by kernel_rfl
attribute [go_sem] ze_144
theorem ia_144 (id off k : Nat) (kd : IntKind) : indexAddrT Go.Proofs.Tryd.prog 144 (.ptr id off) (.int kd (Int.ofNat k)) = cond (Nat.blt k 64) (some (.ptr id (off + k * 1))) none := by kernel_rfl
attribute [go_sem] ia_144
theorem ix_144 (cs : List CV) (k : Nat) (kd : IntKind) : indexT Go.Proofs.Tryd.prog 144 (.agg cs) (.int kd (Int.ofNat k)) = cond (Nat.blt k 64) (partT Go.Proofs.Tryd.prog 142 cs (k * 1)) none := by kernel_rfl
attribute [go_sem] ix_144
theorem len_144 (h : H) (ts : List TypeId) (az : List CV) (a : CV) : builtinT Go.Proofs.Tryd.prog h .len (144 :: ts) (a :: az) = some (.val (.int .i64 64)) := by kernel_rfl
attribute [go_sem] len_144
theorem bt_144 (parts : List (Nat × CV)) : buildT Go.Proofs.Tryd.prog 144 parts = finB (CV.cells (.agg [.int .u32 0, .int .u32 0, .int .u32 0, .int .u32 0, .int .u32 0, .int .u32 0, .int .u32 0, .int .u32 0, .int .u32 0, .int .u32 0, .int .u32 0, .int .u32 0, .int .u32 0, .int .u32 0, .int .u32 0, .int .u32 0, .int .u32 0, .int .u32 0, .int .u32 0, .int .u32 0, .int .u32 0, .int .u32 0, .int .u32 0, .int .u32 0, .int .u32 0, .int .u32 0, .int .u32 0, .int .u32 0, .int .u32 0, .int .u32 0, .int .u32 0, .int .u32 0, .int .u32 0, .int .u32 0, .int .u32 0, .int .u32 0, .int .u32 0, .int .u32 0, .int .u32 0, .int .u32 0, .int .u32 0, .int .u32 0, .int .u32 0, .int .u32 0, .int .u32 0, .int .u32 0, .int .u32 0, .int .u32 0, .int .u32 0, .int .u32 0, .int .u32 0, .int .u32 0, .int .u32 0, .int .u32 0, .int .u32 0, .int .u32 0, .int .u32 0, .int .u32 0, .int .u32 0, .int .u32 0, .int .u32 0, .int .u32 0, .int .u32 0, .int .u32 0])) (fun i => some (i * 1, 1)) parts := by kernel_rfl
attribute [go_sem] bt_144
theorem sz_145 : szOf Go.Proofs.Tryd.prog 145 = some 1 := by kernel_rfl
attribute [go_sem] sz_145
theorem ld_145 (h : H) (id off : Nat) : loadT Go.Proofs.Tryd.prog h 145 id off = @thn _ _ (h.blk id) ⟨fun b => b.get off⟩ := by kernel_rfl
attribute [go_sem] ld_145
theorem st_145 (h : H) (id off : Nat) (v : CV) : storeT Go.Proofs.Tryd.prog h 145 id off v = @thn _ _ (h.blk id) ⟨fun b => cond (Nat.beq v.cells.length 1 && !b.ro) ((b.storeA off v.cells).map fun b' => h.put id (.cells b')) none⟩ := by kernel_rfl
attribute [go_sem] st_145
theorem part_145 (cs : List CV) (off : Nat) : partT Go.Proofs.Tryd.prog 145 cs off = nth cs off := by kernel_rfl
attribute [go_sem] part_145
theorem ze_145 : zeroT Go.Proofs.Tryd.prog 145 = some (.nilf) := by kernel_rfl
attribute [go_sem] ze_145
theorem eq_145 (xo yo : Operand) (f : Fn) (a b : List CV) : binT Go.Proofs.Tryd.prog .eql 145 xo yo (.fn f a b) .nilf = some (.bool false) := by kernel_rfl
attribute [go_sem] eq_145
theorem eq_145_n (xo yo : Operand) : binT Go.Proofs.Tryd.prog .eql 145 xo yo .nilf .nilf = some (.bool true) := by kernel_rfl
attribute [go_sem] eq_145_n
theorem ne_145 (xo yo : Operand) (f : Fn) (a b : List CV) : binT Go.Proofs.Tryd.prog .neq 145 xo yo (.fn f a b) .nilf = some (.bool true) := by kernel_rfl
attribute [go_sem] ne_145
theorem ne_145_n (xo yo : Operand) : binT Go.Proofs.Tryd.prog .neq 145 xo yo .nilf .nilf = some (.bool false) := by kernel_rfl
attribute [go_sem] ne_145_n
theorem sz_146 : szOf Go.Proofs.Tryd.prog 146 = some 1 := by kernel_rfl
attribute [go_sem] sz_146
theorem ld_146 (h : H) (id off : Nat) : loadT Go.Proofs.Tryd.prog h 146 id off = @thn _ _ (h.blk id) ⟨fun b => b.get off⟩ := by kernel_rfl
attribute [go_sem] ld_146
theorem st_146 (h : H) (id off : Nat) (v : CV) : storeT Go.Proofs.Tryd.prog h 146 id off v = @thn _ _ (h.blk id) ⟨fun b => cond (Nat.beq v.cells.length 1 && !b.ro) ((b.storeA off v.cells).map fun b' => h.put id (.cells b')) none⟩ := by kernel_rfl
attribute [go_sem] st_146
theorem part_146 (cs : List CV) (off : Nat) : partT Go.Proofs.Tryd.prog 146 cs off = nth cs off := by kernel_rfl
attribute [go_sem] part_146
theorem ze_146 : zeroT Go.Proofs.Tryd.prog 146 = some (.nilf) := by kernel_rfl
attribute [go_sem] ze_146
theorem eq_146 (xo yo : Operand) (f : Fn) (a b : List CV) : binT Go.Proofs.Tryd.prog .eql 146 xo yo (.fn f a b) .nilf = some (.bool false) := by kernel_rfl
attribute [go_sem] eq_146
theorem eq_146_n (xo yo : Operand) : binT Go.Proofs.Tryd.prog .eql 146 xo yo .nilf .nilf = some (.bool true) := by kernel_rfl
attribute [go_sem] eq_146_n
theorem ne_146 (xo yo : Operand) (f : Fn) (a b : List CV) : binT Go.Proofs.Tryd.prog .neq 146 xo yo (.fn f a b) .nilf = some (.bool true) := by kernel_rfl
attribute [go_sem] ne_146
theorem ne_146_n (xo yo : Operand) : binT Go.Proofs.Tryd.prog .neq 146 xo yo .nilf .nilf = some (.bool false) := by kernel_rfl
attribute [go_sem] ne_146_n
theorem sz_147 : szOf Go.Proofs.Tryd.prog 147 = some 1 := by kernel_rfl
attribute [go_sem] sz_147
theorem ld_147 (h : H) (id off : Nat) : loadT Go.Proofs.Tryd.prog h 147 id off = @thn _ _ (h.blk id) ⟨fun b => b.get off⟩ := by kernel_rfl
attribute [go_sem] ld_147
theorem st_147 (h : H) (id off : Nat) (v : CV) : storeT Go.Proofs.Tryd.prog h 147 id off v = @thn _ _ (h.blk id) ⟨fun b => cond (Nat.beq v.cells.length 1 && !b.ro) ((b.storeA off v.cells).map fun b' => h.put id (.cells b')) none⟩ := by kernel_rfl
attribute [go_sem] st_147
theorem part_147 (cs : List CV) (off : Nat) : partT Go.Proofs.Tryd.prog 147 cs off = nth cs off := by kernel_rfl
attribute [go_sem] part_147
theorem ze_147 : zeroT Go.Proofs.Tryd.prog 147 = some (.nilp) := by kernel_rfl
attribute [go_sem] ze_147
theorem eq_147 (xo yo : Operand) (a b : Nat) : binT Go.Proofs.Tryd.prog .eql 147 xo yo (.ptr a b) .nilp = some (.bool false) := by kernel_rfl
attribute [go_sem] eq_147
theorem eq_147_n (xo yo : Operand) : binT Go.Proofs.Tryd.prog .eql 147 xo yo .nilp .nilp = some (.bool true) := by kernel_rfl
attribute [go_sem] eq_147_n
theorem ne_147 (xo yo : Operand) (a b : Nat) : binT Go.Proofs.Tryd.prog .neq 147 xo yo (.ptr a b) .nilp = some (.bool true) := by kernel_rfl
attribute [go_sem] ne_147
theorem ne_147_n (xo yo : Operand) : binT Go.Proofs.Tryd.prog .neq 147 xo yo .nilp .nilp = some (.bool false) := by kernel_rfl
attribute [go_sem] ne_147_n
theorem sz_148 : szOf Go.Proofs.Tryd.prog 148 = some 1 := by kernel_rfl
attribute [go_sem] sz_148
theorem ld_148 (h : H) (id off : Nat) : loadT Go.Proofs.Tryd.prog h 148 id off = @thn _ _ (h.blk id) ⟨fun b => b.get off⟩ := by kernel_rfl
attribute [go_sem] ld_148
theorem st_148 (h : H) (id off : Nat) (v : CV) : storeT Go.Proofs.Tryd.prog h 148 id off v = @thn _ _ (h.blk id) ⟨fun b => cond (Nat.beq v.cells.length 1 && !b.ro) ((b.storeA off v.cells).map fun b' => h.put id (.cells b')) none⟩ := by kernel_rfl
attribute [go_sem] st_148
theorem part_148 (cs : List CV) (off : Nat) : partT Go.Proofs.Tryd.prog 148 cs off = nth cs off := by kernel_rfl
attribute [go_sem] part_148
theorem ze_148 : zeroT Go.Proofs.Tryd.prog 148 = some (.nilp) := by kernel_rfl
attribute [go_sem] ze_148
theorem eq_148 (xo yo : Operand) (a b : Nat) : binT Go.Proofs.Tryd.prog .eql 148 xo yo (.ptr a b) .nilp = some (.bool false) := by kernel_rfl
attribute [go_sem] eq_148
theorem eq_148_n (xo yo : Operand) : binT Go.Proofs.Tryd.prog .eql 148 xo yo .nilp .nilp = some (.bool true) := by kernel_rfl
attribute [go_sem] eq_148_n
theorem ne_148 (xo yo : Operand) (a b : Nat) : binT Go.Proofs.Tryd.prog .neq 148 xo yo (.ptr a b) .nilp = some (.bool true) := by kernel_rfl
attribute [go_sem] ne_148
theorem ne_148_n (xo yo : Operand) : binT Go.Proofs.Tryd.prog .neq 148 xo yo .nilp .nilp = some (.bool false) := by kernel_rfl
attribute [go_sem] ne_148_n
theorem sz_149 : szOf Go.Proofs.Tryd.prog 149 = some 1 := by kernel_rfl
attribute [go_sem] sz_149
theorem ld_149 (h : H) (id off : Nat) : loadT Go.Proofs.Tryd.prog h 149 id off = @thn _ _ (h.blk id) ⟨fun b => b.get off⟩ := by kernel_rfl
attribute [go_sem] ld_149
theorem st_149 (h : H) (id off : Nat) (v : CV) : storeT Go.Proofs.Tryd.prog h 149 id off v = @thn _ _ (h.blk id) ⟨fun b => cond (Nat.beq v.cells.length 1 && !b.ro) ((b.storeA off v.cells).map fun b' => h.put id (.cells b')) none⟩ := by kernel_rfl
attribute [go_sem] st_149
theorem part_149 (cs : List CV) (off : Nat) : partT Go.Proofs.Tryd.prog 149 cs off = nth cs off := by kernel_rfl
attribute [go_sem] part_149
theorem ze_149 : zeroT Go.Proofs.Tryd.prog 149 = some (.nilf) := by kernel_rfl
attribute [go_sem] ze_149
theorem eq_149 (xo yo : Operand) (f : Fn) (a b : List CV) : binT Go.Proofs.Tryd.prog .eql 149 xo yo (.fn f a b) .nilf = some (.bool false) := by kernel_rfl
attribute [go_sem] eq_149
theorem eq_149_n (xo yo : Operand) : binT Go.Proofs.Tryd.prog .eql 149 xo yo .nilf .nilf = some (.bool true) := by kernel_rfl
attribute [go_sem] eq_149_n
theorem ne_149 (xo yo : Operand) (f : Fn) (a b : List CV) : binT Go.Proofs.Tryd.prog .neq 149 xo yo (.fn f a b) .nilf = some (.bool true) := by kernel_rfl
attribute [go_sem] ne_149
theorem ne_149_n (xo yo : Operand) : binT Go.Proofs.Tryd.prog .neq 149 xo yo .nilf .nilf = some (.bool false) := by kernel_rfl
attribute [go_sem] ne_149_n
theorem sz_150 : szOf Go.Proofs.Tryd.prog 150 = some 1 := by kernel_rfl
attribute [go_sem] sz_150
theorem ld_150 (h : H) (id off : Nat) : loadT Go.Proofs.Tryd.prog h 150 id off = @thn _ _ (h.blk id) ⟨fun b => b.get off⟩ := by kernel_rfl
attribute [go_sem] ld_150
theorem st_150 (h : H) (id off : Nat) (v : CV) : storeT Go.Proofs.Tryd.prog h 150 id off v = @thn _ _ (h.blk id) ⟨fun b => cond (Nat.beq v.cells.length 1 && !b.ro) ((b.storeA off v.cells).map fun b' => h.put id (.cells b')) none⟩ := by kernel_rfl
attribute [go_sem] st_150
theorem part_150 (cs : List CV) (off : Nat) : partT Go.Proofs.Tryd.prog 150 cs off = nth cs off := by kernel_rfl
attribute [go_sem] part_150
theorem ze_150 : zeroT Go.Proofs.Tryd.prog 150 = some (.nilf) := by kernel_rfl
attribute [go_sem] ze_150
theorem eq_150 (xo yo : Operand) (f : Fn) (a b : List CV) : binT Go.Proofs.Tryd.prog .eql 150 xo yo (.fn f a b) .nilf = some (.bool false) := by kernel_rfl
attribute [go_sem] eq_150
theorem eq_150_n (xo yo : Operand) : binT Go.Proofs.Tryd.prog .eql 150 xo yo .nilf .nilf = some (.bool true) := by kernel_rfl
attribute [go_sem] eq_150_n
theorem ne_150 (xo yo : Operand) (f : Fn) (a b : List CV) : binT Go.Proofs.Tryd.prog .neq 150 xo yo (.fn f a b) .nilf = some (.bool true) := by kernel_rfl
attribute [go_sem] ne_150
theorem ne_150_n (xo yo : Operand) : binT Go.Proofs.Tryd.prog .neq 150 xo yo .nilf .nilf = some (.bool false) := by kernel_rfl
attribute [go_sem] ne_150_n
theorem sz_151 : szOf Go.Proofs.Tryd.prog 151 = some 1 := by kernel_rfl
attribute [go_sem] sz_151
theorem ld_151 (h : H) (id off : Nat) : loadT Go.Proofs.Tryd.prog h 151 id off = @thn _ _ (h.blk id) ⟨fun b => b.get off⟩ := by kernel_rfl
attribute [go_sem] ld_151
theorem st_151 (h : H) (id off : Nat) (v : CV) : storeT Go.Proofs.Tryd.prog h 151 id off v = @thn _ _ (h.blk id) ⟨fun b => cond (Nat.beq v.cells.length 1 && !b.ro) ((b.storeA off v.cells).map fun b' => h.put id (.cells b')) none⟩ := by kernel_rfl
attribute [go_sem] st_151
theorem part_151 (cs : List CV) (off : Nat) : partT Go.Proofs.Tryd.prog 151 cs off = nth cs off := by kernel_rfl
attribute [go_sem] part_151
theorem ze_151 : zeroT Go.Proofs.Tryd.prog 151 = some (.nilf) := by kernel_rfl
attribute [go_sem] ze_151
theorem eq_151 (xo yo : Operand) (f : Fn) (a b : List CV) : binT Go.Proofs.Tryd.prog .eql 151 xo yo (.fn f a b) .nilf = some (.bool false) := by kernel_rfl
attribute [go_sem] eq_151
theorem eq_151_n (xo yo : Operand) : binT Go.Proofs.Tryd.prog .eql 151 xo yo .nilf .nilf = some (.bool true) := by kernel_rfl
attribute [go_sem] eq_151_n
theorem ne_151 (xo yo : Operand) (f : Fn) (a b : List CV) : binT Go.Proofs.Tryd.prog .neq 151 xo yo (.fn f a b) .nilf = some (.bool true) := by kernel_rfl
attribute [go_sem] ne_151
theorem ne_151_n (xo yo : Operand) : binT Go.Proofs.Tryd.prog .neq 151 xo yo .nilf .nilf = some (.bool false) := by kernel_rfl
attribute [go_sem] ne_151_n
theorem sz_152 : szOf Go.Proofs.Tryd.prog 152 = some 1 := by kernel_rfl
attribute [go_sem] sz_152
theorem ld_152 (h : H) (id off : Nat) : loadT Go.Proofs.Tryd.prog h 152 id off = @thn _ _ (h.blk id) ⟨fun b => b.get off⟩ := by kernel_rfl
attribute [go_sem] ld_152
theorem st_152 (h : H) (id off : Nat) (v : CV) : storeT Go.Proofs.Tryd.prog h 152 id off v = @thn _ _ (h.blk id) ⟨fun b => cond (Nat.beq v.cells.length 1 && !b.ro) ((b.storeA off v.cells).map fun b' => h.put id (.cells b')) none⟩ := by kernel_rfl
attribute [go_sem] st_152
theorem part_152 (cs : List CV) (off : Nat) : partT Go.Proofs.Tryd.prog 152 cs off = nth cs off := by kernel_rfl
attribute [go_sem] part_152
theorem ze_152 : zeroT Go.Proofs.Tryd.prog 152 = some (.nilf) := by kernel_rfl
attribute [go_sem] ze_152
theorem eq_152 (xo yo : Operand) (f : Fn) (a b : List CV) : binT Go.Proofs.Tryd.prog .eql 152 xo yo (.fn f a b) .nilf = some (.bool false) := by kernel_rfl
attribute [go_sem] eq_152
theorem eq_152_n (xo yo : Operand) : binT Go.Proofs.Tryd.prog .eql 152 xo yo .nilf .nilf = some (.bool true) := by kernel_rfl
attribute [go_sem] eq_152_n
theorem ne_152 (xo yo : Operand) (f : Fn) (a b : List CV) : binT Go.Proofs.Tryd.prog .neq 152 xo yo (.fn f a b) .nilf = some (.bool true) := by kernel_rfl
attribute [go_sem] ne_152
theorem ne_152_n (xo yo : Operand) : binT Go.Proofs.Tryd.prog .neq 152 xo yo .nilf .nilf = some (.bool false) := by kernel_rfl
attribute [go_sem] ne_152_n
theorem sz_153 : szOf Go.Proofs.Tryd.prog 153 = some 64 := by kernel_rfl
attribute [go_sem] sz_153
theorem ld_153 (h : H) (id off : Nat) : loadT Go.Proofs.Tryd.prog h 153 id off = @thn _ _ (h.blk id) ⟨fun b => (b.loadN off 64).map .agg⟩ := by kernel_rfl
attribute [go_sem] ld_153
theorem st_153 (h : H) (id off : Nat) (v : CV) : storeT Go.Proofs.Tryd.prog h 153 id off v = @thn _ _ (h.blk id) ⟨fun b => cond (Nat.beq v.cells.length 64 && !b.ro) ((b.storeA off v.cells).map fun b' => h.put id (.cells b')) none⟩ := by kernel_rfl
attribute [go_sem] st_153
theorem part_153 (cs : List CV) (off : Nat) : partT Go.Proofs.Tryd.prog 153 cs off = some (.agg ((cs.drop off).take 64)) := by kernel_rfl
attribute [go_sem] part_153
theorem ze_153 : zeroT Go.Proofs.Tryd.prog 153 = some (.agg [.int .u64 0, .int .u64 0, .int .u64 0, .int .u64 0, .int .u64 0, .int .u64 0, .int .u64 0, .int .u64 0, .int .u64 0, .int .u64 0, .int .u64 0, .int .u64 0, .int .u64 0, .int .u64 0, .int .u64 0, .int .u64 0, .int .u64 0, .int .u64 0, .int .u64 0, .int .u64 0, .int .u64 0, .int .u64 0, .int .u64 0, .int .u64 0, .int .u64 0, .int .u64 0, .int .u64 0, .int .u64 0, .int .u64 0, .int .u64 0, .int .u64 0, .int .u64 0, .int .u64 0, .int .u64 0, .int .u64 0, .int .u64 0, .int .u64 0, .int .u64 0, .int .u64 0, .int .u64 0, .int .u64 0, .int .u64 0, .int .u64 0, .int .u64 0, .int .u64 0, .int .u64 0, .int .u64 0, .int .u64 0, .int .u64 0, .int .u64 0, .int .u64 0, .int .u64 0, .int .u64 0, .int .u64 0, .int .u64 0, .int .u64 0, .int .u64 0, .int .u64 0, .int .u64 0, .int .u64 0, .int .u64 0, .int .u64 0, .int .u64 0, .int .u64 0]) := by kernel_rfl
attribute [go_sem] ze_153
theorem ia_153 (id off k : Nat) (kd : IntKind) : indexAddrT Go.Proofs.Tryd.prog 153 (.ptr id off) (.int kd (Int.ofNat k)) = cond (Nat.blt k 64) (some (.ptr id (off + k * 1))) none := by kernel_rfl
attribute [go_sem] ia_153
theorem ix_153 (cs : List CV) (k : Nat) (kd : IntKind) : indexT Go.Proofs.Tryd.prog 153 (.agg cs) (.int kd (Int.ofNat k)) = cond (Nat.blt k 64) (partT Go.Proofs.Tryd.prog 23 cs (k * 1)) none := by kernel_rfl
attribute [go_sem] ix_153
theorem len_153 (h : H) (ts : List TypeId) (az : List CV) (a : CV) : builtinT Go.Proofs.Tryd.prog h .len (153 :: ts) (a :: az) = some (.val (.int .i64 64)) := by kernel_rfl
attribute [go_sem] len_153
theorem bt_153 (parts : List (Nat × CV)) : buildT Go.Proofs.Tryd.prog 153 parts = finB (CV.cells (.agg [.int .u64 0, .int .u64 0, .int .u64 0, .int .u64 0, .int .u64 0, .int .u64 0, .int .u64 0, .int .u64 0, .int .u64 0, .int .u64 0, .int .u64 0, .int .u64 0, .int .u64 0, .int .u64 0, .int .u64 0, .int .u64 0, .int .u64 0, .int .u64 0, .int .u64 0, .int .u64 0, .int .u64 0, .int .u64 0, .int .u64 0, .int .u64 0, .int .u64 0, .int .u64 0, .int .u64 0, .int .u64 0, .int .u64 0, .int .u64 0, .int .u64 0, .int .u64 0, .int .u64 0, .int .u64 0, .int .u64 0, .int .u64 0, .int .u64 0, .int .u64 0, .int .u64 0, .int .u64 0, .int .u64 0, .int .u64 0, .int .u64 0, .int .u64 0, .int .u64 0, .int .u64 0, .int .u64 0, .int .u64 0, .int .u64 0, .int .u64 0, .int .u64 0, .int .u64 0, .int .u64 0, .int .u64 0, .int .u64 0, .int .u64 0, .int .u64 0, .int .u64 0, .int .u64 0, .int .u64 0, .int .u64 0, .int .u64 0, .int .u64 0, .int .u64 0])) (fun i => some (i * 1, 1)) parts := by kernel_rfl
attribute [go_sem] bt_153
theorem sz_154 : szOf Go.Proofs.Tryd.prog 154 = some 1 := by kernel_rfl
attribute [go_sem] sz_154
theorem ld_154 (h : H) (id off : Nat) : loadT Go.Proofs.Tryd.prog h 154 id off = @thn _ _ (h.blk id) ⟨fun b => b.get off⟩ := by kernel_rfl
attribute [go_sem] ld_154
theorem st_154 (h : H) (id off : Nat) (v : CV) : storeT Go.Proofs.Tryd.prog h 154 id off v = @thn _ _ (h.blk id) ⟨fun b => cond (Nat.beq v.cells.length 1 && !b.ro) ((b.storeA off v.cells).map fun b' => h.put id (.cells b')) none⟩ := by kernel_rfl
attribute [go_sem] st_154
theorem part_154 (cs : List CV) (off : Nat) : partT Go.Proofs.Tryd.prog 154 cs off = nth cs off := by kernel_rfl
attribute [go_sem] part_154
theorem ze_154 : zeroT Go.Proofs.Tryd.prog 154 = some (.nilf) := by kernel_rfl
attribute [go_sem] ze_154
theorem eq_154 (xo yo : Operand) (f : Fn) (a b : List CV) : binT Go.Proofs.Tryd.prog .eql 154 xo yo (.fn f a b) .nilf = some (.bool false) := by kernel_rfl
attribute [go_sem] eq_154
theorem eq_154_n (xo yo : Operand) : binT Go.Proofs.Tryd.prog .eql 154 xo yo .nilf .nilf = some (.bool true) := by kernel_rfl
attribute [go_sem] eq_154_n
theorem ne_154 (xo yo : Operand) (f : Fn) (a b : List CV) : binT Go.Proofs.Tryd.prog .neq 154 xo yo (.fn f a b) .nilf = some (.bool true) := by kernel_rfl
attribute [go_sem] ne_154
theorem ne_154_n (xo yo : Operand) : binT Go.Proofs.Tryd.prog .neq 154 xo yo .nilf .nilf = some (.bool false) := by kernel_rfl
attribute [go_sem] ne_154_n
theorem sz_155 : szOf Go.Proofs.Tryd.prog 155 = some 1 := by kernel_rfl
attribute [go_sem] sz_155
theorem ld_155 (h : H) (id off : Nat) : loadT Go.Proofs.Tryd.prog h 155 id off = @thn _ _ (h.blk id) ⟨fun b => b.get off⟩ := by kernel_rfl
attribute [go_sem] ld_155
theorem st_155 (h : H) (id off : Nat) (v : CV) : storeT Go.Proofs.Tryd.prog h 155 id off v = @thn _ _ (h.blk id) ⟨fun b => cond (Nat.beq v.cells.length 1 && !b.ro) ((b.storeA off v.cells).map fun b' => h.put id (.cells b')) none⟩ := by kernel_rfl
attribute [go_sem] st_155
theorem part_155 (cs : List CV) (off : Nat) : partT Go.Proofs.Tryd.prog 155 cs off = nth cs off := by kernel_rfl
attribute [go_sem] part_155
theorem ze_155 : zeroT Go.Proofs.Tryd.prog 155 = some (.nilf) := by kernel_rfl
attribute [go_sem] ze_155
theorem eq_155 (xo yo : Operand) (f : Fn) (a b : List CV) : binT Go.Proofs.Tryd.prog .eql 155 xo yo (.fn f a b) .nilf = some (.bool false) := by kernel_rfl
attribute [go_sem] eq_155
theorem eq_155_n (xo yo : Operand) : binT Go.Proofs.Tryd.prog .eql 155 xo yo .nilf .nilf = some (.bool true) := by kernel_rfl
attribute [go_sem] eq_155_n
theorem ne_155 (xo yo : Operand) (f : Fn) (a b : List CV) : binT Go.Proofs.Tryd.prog .neq 155 xo yo (.fn f a b) .nilf = some (.bool true) := by kernel_rfl
attribute [go_sem] ne_155
theorem ne_155_n (xo yo : Operand) : binT Go.Proofs.Tryd.prog .neq 155 xo yo .nilf .nilf = some (.bool false) := by kernel_rfl
attribute [go_sem] ne_155_n
theorem sz_156 : szOf Go.Proofs.Tryd.prog 156 = some 1 := by kernel_rfl
attribute [go_sem] sz_156
theorem ld_156 (h : H) (id off : Nat) : loadT Go.Proofs.Tryd.prog h 156 id off = @thn _ _ (h.blk id) ⟨fun b => b.get off⟩ := by kernel_rfl
attribute [go_sem] ld_156
theorem st_156 (h : H) (id off : Nat) (v : CV) : storeT Go.Proofs.Tryd.prog h 156 id off v = @thn _ _ (h.blk id) ⟨fun b => cond (Nat.beq v.cells.length 1 && !b.ro) ((b.storeA off v.cells).map fun b' => h.put id (.cells b')) none⟩ := by kernel_rfl
attribute [go_sem] st_156
theorem part_156 (cs : List CV) (off : Nat) : partT Go.Proofs.Tryd.prog 156 cs off = nth cs off := by kernel_rfl
attribute [go_sem] part_156
theorem ze_156 : zeroT Go.Proofs.Tryd.prog 156 = some (.nilf) := by kernel_rfl
attribute [go_sem] ze_156
theorem eq_156 (xo yo : Operand) (f : Fn) (a b : List CV) : binT Go.Proofs.Tryd.prog .eql 156 xo yo (.fn f a b) .nilf = some (.bool false) := by kernel_rfl
attribute [go_sem] eq_156
theorem eq_156_n (xo yo : Operand) : binT Go.Proofs.Tryd.prog .eql 156 xo yo .nilf .nilf = some (.bool true) := by kernel_rfl
attribute [go_sem] eq_156_n
theorem ne_156 (xo yo : Operand) (f : Fn) (a b : List CV) : binT Go.Proofs.Tryd.prog .neq 156 xo yo (.fn f a b) .nilf = some (.bool true) := by kernel_rfl
attribute [go_sem] ne_156
theorem ne_156_n (xo yo : Operand) : binT Go.Proofs.Tryd.prog .neq 156 xo yo .nilf .nilf = some (.bool false) := by kernel_rfl
attribute [go_sem] ne_156_n
theorem sz_158 : szOf Go.Proofs.Tryd.prog 158 = some 1 := by kernel_rfl
attribute [go_sem] sz_158
theorem ld_158 (h : H) (id off : Nat) : loadT Go.Proofs.Tryd.prog h 158 id off = @thn _ _ (h.blk id) ⟨fun b => b.get off⟩ := by kernel_rfl
attribute [go_sem] ld_158
theorem st_158 (h : H) (id off : Nat) (v : CV) : storeT Go.Proofs.Tryd.prog h 158 id off v = @thn _ _ (h.blk id) ⟨fun b => cond (Nat.beq v.cells.length 1 && !b.ro) ((b.storeA off v.cells).map fun b' => h.put id (.cells b')) none⟩ := by kernel_rfl
attribute [go_sem] st_158
theorem part_158 (cs : List CV) (off : Nat) : partT Go.Proofs.Tryd.prog 158 cs off = nth cs off := by kernel_rfl
attribute [go_sem] part_158
theorem ze_158 : zeroT Go.Proofs.Tryd.prog 158 = some (.nilf) := by kernel_rfl
attribute [go_sem] ze_158
theorem eq_158 (xo yo : Operand) (f : Fn) (a b : List CV) : binT Go.Proofs.Tryd.prog .eql 158 xo yo (.fn f a b) .nilf = some (.bool false) := by kernel_rfl
attribute [go_sem] eq_158
theorem eq_158_n (xo yo : Operand) : binT Go.Proofs.Tryd.prog .eql 158 xo yo .nilf .nilf = some (.bool true) := by kernel_rfl
attribute [go_sem] eq_158_n
theorem ne_158 (xo yo : Operand) (f : Fn) (a b : List CV) : binT Go.Proofs.Tryd.prog .neq 158 xo yo (.fn f a b) .nilf = some (.bool true) := by kernel_rfl
attribute [go_sem] ne_158
theorem ne_158_n (xo yo : Operand) : binT Go.Proofs.Tryd.prog .neq 158 xo yo .nilf .nilf = some (.bool false) := by kernel_rfl
attribute [go_sem] ne_158_n
theorem sz_159 : szOf Go.Proofs.Tryd.prog 159 = some 1 := by kernel_rfl
attribute [go_sem] sz_159
theorem ld_159 (h : H) (id off : Nat) : loadT Go.Proofs.Tryd.prog h 159 id off = @thn _ _ (h.blk id) ⟨fun b => b.get off⟩ := by kernel_rfl
attribute [go_sem] ld_159
theorem st_159 (h : H) (id off : Nat) (v : CV) : storeT Go.Proofs.Tryd.prog h 159 id off v = @thn _ _ (h.blk id) ⟨fun b => cond (Nat.beq v.cells.length 1 && !b.ro) ((b.storeA off v.cells).map fun b' => h.put id (.cells b')) none⟩ := by kernel_rfl
attribute [go_sem] st_159
theorem part_159 (cs : List CV) (off : Nat) : partT Go.Proofs.Tryd.prog 159 cs off = nth cs off := by kernel_rfl
attribute [go_sem] part_159
theorem ze_159 : zeroT Go.Proofs.Tryd.prog 159 = some (.nilf) := by kernel_rfl
attribute [go_sem] ze_159
theorem eq_159 (xo yo : Operand) (f : Fn) (a b : List CV) : binT Go.Proofs.Tryd.prog .eql 159 xo yo (.fn f a b) .nilf = some (.bool false) := by kernel_rfl
attribute [go_sem] eq_159
theorem eq_159_n (xo yo : Operand) : binT Go.Proofs.Tryd.prog .eql 159 xo yo .nilf .nilf = some (.bool true) := by kernel_rfl
attribute [go_sem] eq_159_n
theorem ne_159 (xo yo : Operand) (f : Fn) (a b : List CV) : binT Go.Proofs.Tryd.prog .neq 159 xo yo (.fn f a b) .nilf = some (.bool true) := by kernel_rfl
attribute [go_sem] ne_159
theorem ne_159_n (xo yo : Operand) : binT Go.Proofs.Tryd.prog .neq 159 xo yo .nilf .nilf = some (.bool false) := by kernel_rfl
attribute [go_sem] ne_159_n
theorem sz_160 : szOf Go.Proofs.Tryd.prog 160 = some 1 := by kernel_rfl
attribute [go_sem] sz_160
theorem ld_160 (h : H) (id off : Nat) : loadT Go.Proofs.Tryd.prog h 160 id off = @thn _ _ (h.blk id) ⟨fun b => b.get off⟩ := by kernel_rfl
attribute [go_sem] ld_160
theorem st_160 (h : H) (id off : Nat) (v : CV) : storeT Go.Proofs.Tryd.prog h 160 id off v = @thn _ _ (h.blk id) ⟨fun b => cond (Nat.beq v.cells.length 1 && !b.ro) ((b.storeA off v.cells).map fun b' => h.put id (.cells b')) none⟩ := by kernel_rfl
attribute [go_sem] st_160
theorem part_160 (cs : List CV) (off : Nat) : partT Go.Proofs.Tryd.prog 160 cs off = nth cs off := by kernel_rfl
attribute [go_sem] part_160
theorem sz_161 : szOf Go.Proofs.Tryd.prog 161 = some 1 := by kernel_rfl
attribute [go_sem] sz_161
theorem ld_161 (h : H) (id off : Nat) : loadT Go.Proofs.Tryd.prog h 161 id off = @thn _ _ (h.blk id) ⟨fun b => b.get off⟩ := by kernel_rfl
attribute [go_sem] ld_161
theorem st_161 (h : H) (id off : Nat) (v : CV) : storeT Go.Proofs.Tryd.prog h 161 id off v = @thn _ _ (h.blk id) ⟨fun b => cond (Nat.beq v.cells.length 1 && !b.ro) ((b.storeA off v.cells).map fun b' => h.put id (.cells b')) none⟩ := by kernel_rfl
attribute [go_sem] st_161
theorem part_161 (cs : List CV) (off : Nat) : partT Go.Proofs.Tryd.prog 161 cs off = nth cs off := by kernel_rfl
attribute [go_sem] part_161
theorem ze_161 : zeroT Go.Proofs.Tryd.prog 161 = some (.nilf) := by kernel_rfl
attribute [go_sem] ze_161
theorem eq_161 (xo yo : Operand) (f : Fn) (a b : List CV) : binT Go.Proofs.Tryd.prog .eql 161 xo yo (.fn f a b) .nilf = some (.bool false) := by kernel_rfl
attribute [go_sem] eq_161
theorem eq_161_n (xo yo : Operand) : binT Go.Proofs.Tryd.prog .eql 161 xo yo .nilf .nilf = some (.bool true) := by kernel_rfl
attribute [go_sem] eq_161_n
theorem ne_161 (xo yo : Operand) (f : Fn) (a b : List CV) : binT Go.Proofs.Tryd.prog .neq 161 xo yo (.fn f a b) .nilf = some (.bool true) := by kernel_rfl
attribute [go_sem] ne_161
theorem ne_161_n (xo yo : Operand) : binT Go.Proofs.Tryd.prog .neq 161 xo yo .nilf .nilf = some (.bool false) := by kernel_rfl
attribute [go_sem] ne_161_n
theorem sz_162 : szOf Go.Proofs.Tryd.prog 162 = some 1 := by kernel_rfl
attribute [go_sem] sz_162
theorem ld_162 (h : H) (id off : Nat) : loadT Go.Proofs.Tryd.prog h 162 id off = @thn _ _ (h.blk id) ⟨fun b => b.get off⟩ := by kernel_rfl
attribute [go_sem] ld_162
theorem st_162 (h : H) (id off : Nat) (v : CV) : storeT Go.Proofs.Tryd.prog h 162 id off v = @thn _ _ (h.blk id) ⟨fun b => cond (Nat.beq v.cells.length 1 && !b.ro) ((b.storeA off v.cells).map fun b' => h.put id (.cells b')) none⟩ := by kernel_rfl
attribute [go_sem] st_162
theorem part_162 (cs : List CV) (off : Nat) : partT Go.Proofs.Tryd.prog 162 cs off = nth cs off := by kernel_rfl
attribute [go_sem] part_162
theorem ze_162 : zeroT Go.Proofs.Tryd.prog 162 = some (.nilf) := by kernel_rfl
attribute [go_sem] ze_162
theorem eq_162 (xo yo : Operand) (f : Fn) (a b : List CV) : binT Go.Proofs.Tryd.prog .eql 162 xo yo (.fn f a b) .nilf = some (.bool false) := by kernel_rfl
attribute [go_sem] eq_162
theorem eq_162_n (xo yo : Operand) : binT Go.Proofs.Tryd.prog .eql 162 xo yo .nilf .nilf = some (.bool true) := by kernel_rfl
attribute [go_sem] eq_162_n
theorem ne_162 (xo yo : Operand) (f : Fn) (a b : List CV) : binT Go.Proofs.Tryd.prog .neq 162 xo yo (.fn f a b) .nilf = some (.bool true) := by kernel_rfl
attribute [go_sem] ne_162
theorem ne_162_n (xo yo : Operand) : binT Go.Proofs.Tryd.prog .neq 162 xo yo .nilf .nilf = some (.bool false) := by kernel_rfl
attribute [go_sem] ne_162_n
theorem sz_163 : szOf Go.Proofs.Tryd.prog 163 = some 1 := by kernel_rfl
attribute [go_sem] sz_163
theorem ld_163 (h : H) (id off : Nat) : loadT Go.Proofs.Tryd.prog h 163 id off = @thn _ _ (h.blk id) ⟨fun b => b.get off⟩ := by kernel_rfl
attribute [go_sem] ld_163
theorem st_163 (h : H) (id off : Nat) (v : CV) : storeT Go.Proofs.Tryd.prog h 163 id off v = @thn _ _ (h.blk id) ⟨fun b => cond (Nat.beq v.cells.length 1 && !b.ro) ((b.storeA off v.cells).map fun b' => h.put id (.cells b')) none⟩ := by kernel_rfl
attribute [go_sem] st_163
theorem part_163 (cs : List CV) (off : Nat) : partT Go.Proofs.Tryd.prog 163 cs off = nth cs off := by kernel_rfl
attribute [go_sem] part_163
theorem ze_163 : zeroT Go.Proofs.Tryd.prog 163 = some (.nilf) := by kernel_rfl
attribute [go_sem] ze_163
theorem eq_163 (xo yo : Operand) (f : Fn) (a b : List CV) : binT Go.Proofs.Tryd.prog .eql 163 xo yo (.fn f a b) .nilf = some (.bool false) := by kernel_rfl
attribute [go_sem] eq_163
theorem eq_163_n (xo yo : Operand) : binT Go.Proofs.Tryd.prog .eql 163 xo yo .nilf .nilf = some (.bool true) := by kernel_rfl
attribute [go_sem] eq_163_n
theorem ne_163 (xo yo : Operand) (f : Fn) (a b : List CV) : binT Go.Proofs.Tryd.prog .neq 163 xo yo (.fn f a b) .nilf = some (.bool true) := by kernel_rfl
attribute [go_sem] ne_163
theorem ne_163_n (xo yo : Operand) : binT Go.Proofs.Tryd.prog .neq 163 xo yo .nilf .nilf = some (.bool false) := by kernel_rfl
attribute [go_sem] ne_163_n
theorem sz_167 : szOf Go.Proofs.Tryd.prog 167 = some 1 := by kernel_rfl
attribute [go_sem] sz_167
theorem ld_167 (h : H) (id off : Nat) : loadT Go.Proofs.Tryd.prog h 167 id off = @thn _ _ (h.blk id) ⟨fun b => b.get off⟩ := by kernel_rfl
attribute [go_sem] ld_167
theorem st_167 (h : H) (id off : Nat) (v : CV) : storeT Go.Proofs.Tryd.prog h 167 id off v = @thn _ _ (h.blk id) ⟨fun b => cond (Nat.beq v.cells.length 1 && !b.ro) ((b.storeA off v.cells).map fun b' => h.put id (.cells b')) none⟩ := by kernel_rfl
attribute [go_sem] st_167
theorem part_167 (cs : List CV) (off : Nat) : partT Go.Proofs.Tryd.prog 167 cs off = nth cs off := by kernel_rfl
attribute [go_sem] part_167
theorem ze_167 : zeroT Go.Proofs.Tryd.prog 167 = some (.nilf) := by kernel_rfl
attribute [go_sem] ze_167
theorem eq_167 (xo yo : Operand) (f : Fn) (a b : List CV) : binT Go.Proofs.Tryd.prog .eql 167 xo yo (.fn f a b) .nilf = some (.bool false) := by kernel_rfl
attribute [go_sem] eq_167
theorem eq_167_n (xo yo : Operand) : binT Go.Proofs.Tryd.prog .eql 167 xo yo .nilf .nilf = some (.bool true) := by kernel_rfl
attribute [go_sem] eq_167_n
theorem ne_167 (xo yo : Operand) (f : Fn) (a b : List CV) : binT Go.Proofs.Tryd.prog .neq 167 xo yo (.fn f a b) .nilf = some (.bool true) := by kernel_rfl
attribute [go_sem] ne_167
theorem ne_167_n (xo yo : Operand) : binT Go.Proofs.Tryd.prog .neq 167 xo yo .nilf .nilf = some (.bool false) := by kernel_rfl
attribute [go_sem] ne_167_n
theorem sz_168 : szOf Go.Proofs.Tryd.prog 168 = some 1 := by kernel_rfl
attribute [go_sem] sz_168
theorem ld_168 (h : H) (id off : Nat) : loadT Go.Proofs.Tryd.prog h 168 id off = @thn _ _ (h.blk id) ⟨fun b => b.get off⟩ := by kernel_rfl
attribute [go_sem] ld_168
theorem st_168 (h : H) (id off : Nat) (v : CV) : storeT Go.Proofs.Tryd.prog h 168 id off v = @thn _ _ (h.blk id) ⟨fun b => cond (Nat.beq v.cells.length 1 && !b.ro) ((b.storeA off v.cells).map fun b' => h.put id (.cells b')) none⟩ := by kernel_rfl
attribute [go_sem] st_168
theorem part_168 (cs : List CV) (off : Nat) : partT Go.Proofs.Tryd.prog 168 cs off = nth cs off := by kernel_rfl
attribute [go_sem] part_168
theorem ze_168 : zeroT Go.Proofs.Tryd.prog 168 = some (.nilf) := by kernel_rfl
attribute [go_sem] ze_168
theorem eq_168 (xo yo : Operand) (f : Fn) (a b : List CV) : binT Go.Proofs.Tryd.prog .eql 168 xo yo (.fn f a b) .nilf = some (.bool false) := by kernel_rfl
attribute [go_sem] eq_168
theorem eq_168_n (xo yo : Operand) : binT Go.Proofs.Tryd.prog .eql 168 xo yo .nilf .nilf = some (.bool true) := by kernel_rfl
attribute [go_sem] eq_168_n
theorem ne_168 (xo yo : Operand) (f : Fn) (a b : List CV) : binT Go.Proofs.Tryd.prog .neq 168 xo yo (.fn f a b) .nilf = some (.bool true) := by kernel_rfl
attribute [go_sem] ne_168
theorem ne_168_n (xo yo : Operand) : binT Go.Proofs.Tryd.prog .neq 168 xo yo .nilf .nilf = some (.bool false) := by kernel_rfl
attribute [go_sem] ne_168_n
theorem sz_169 : szOf Go.Proofs.Tryd.prog 169 = some 1 := by kernel_rfl
attribute [go_sem] sz_169
theorem ld_169 (h : H) (id off : Nat) : loadT Go.Proofs.Tryd.prog h 169 id off = @thn _ _ (h.blk id) ⟨fun b => b.get off⟩ := by kernel_rfl
attribute [go_sem] ld_169
theorem st_169 (h : H) (id off : Nat) (v : CV) : storeT Go.Proofs.Tryd.prog h 169 id off v = @thn _ _ (h.blk id) ⟨fun b => cond (Nat.beq v.cells.length 1 && !b.ro) ((b.storeA off v.cells).map fun b' => h.put id (.cells b')) none⟩ := by kernel_rfl
attribute [go_sem] st_169
theorem part_169 (cs : List CV) (off : Nat) : partT Go.Proofs.Tryd.prog 169 cs off = nth cs off := by kernel_rfl
attribute [go_sem] part_169
theorem ze_169 : zeroT Go.Proofs.Tryd.prog 169 = some (.nilf) := by kernel_rfl
attribute [go_sem] ze_169
theorem eq_169 (xo yo : Operand) (f : Fn) (a b : List CV) : binT Go.Proofs.Tryd.prog .eql 169 xo yo (.fn f a b) .nilf = some (.bool false) := by kernel_rfl
attribute [go_sem] eq_169
theorem eq_169_n (xo yo : Operand) : binT Go.Proofs.Tryd.prog .eql 169 xo yo .nilf .nilf = some (.bool true) := by kernel_rfl
attribute [go_sem] eq_169_n
theorem ne_169 (xo yo : Operand) (f : Fn) (a b : List CV) : binT Go.Proofs.Tryd.prog .neq 169 xo yo (.fn f a b) .nilf = some (.bool true) := by kernel_rfl
attribute [go_sem] ne_169
theorem ne_169_n (xo yo : Operand) : binT Go.Proofs.Tryd.prog .neq 169 xo yo .nilf .nilf = some (.bool false) := by kernel_rfl
attribute [go_sem] ne_169_n
theorem sz_170 : szOf Go.Proofs.Tryd.prog 170 = some 1 := by kernel_rfl
attribute [go_sem] sz_170
theorem ld_170 (h : H) (id off : Nat) : loadT Go.Proofs.Tryd.prog h 170 id off = @thn _ _ (h.blk id) ⟨fun b => b.get off⟩ := by kernel_rfl
attribute [go_sem] ld_170
theorem st_170 (h : H) (id off : Nat) (v : CV) : storeT Go.Proofs.Tryd.prog h 170 id off v = @thn _ _ (h.blk id) ⟨fun b => cond (Nat.beq v.cells.length 1 && !b.ro) ((b.storeA off v.cells).map fun b' => h.put id (.cells b')) none⟩ := by kernel_rfl
attribute [go_sem] st_170
theorem part_170 (cs : List CV) (off : Nat) : partT Go.Proofs.Tryd.prog 170 cs off = nth cs off := by kernel_rfl
attribute [go_sem] part_170
theorem ze_170 : zeroT Go.Proofs.Tryd.prog 170 = some (.nilf) := by kernel_rfl
attribute [go_sem] ze_170
theorem eq_170 (xo yo : Operand) (f : Fn) (a b : List CV) : binT Go.Proofs.Tryd.prog .eql 170 xo yo (.fn f a b) .nilf = some (.bool false) := by kernel_rfl
attribute [go_sem] eq_170
theorem eq_170_n (xo yo : Operand) : binT Go.Proofs.Tryd.prog .eql 170 xo yo .nilf .nilf = some (.bool true) := by kernel_rfl
attribute [go_sem] eq_170_n
theorem ne_170 (xo yo : Operand) (f : Fn) (a b : List CV) : binT Go.Proofs.Tryd.prog .neq 170 xo yo (.fn f a b) .nilf = some (.bool true) := by kernel_rfl
attribute [go_sem] ne_170
theorem ne_170_n (xo yo : Operand) : binT Go.Proofs.Tryd.prog .neq 170 xo yo .nilf .nilf = some (.bool false) := by kernel_rfl
attribute [go_sem] ne_170_n
theorem sz_171 : szOf Go.Proofs.Tryd.prog 171 = some 1 := by kernel_rfl
attribute [go_sem] sz_171
theorem ld_171 (h : H) (id off : Nat) : loadT Go.Proofs.Tryd.prog h 171 id off = @thn _ _ (h.blk id) ⟨fun b => b.get off⟩ := by kernel_rfl
attribute [go_sem] ld_171
theorem st_171 (h : H) (id off : Nat) (v : CV) : storeT Go.Proofs.Tryd.prog h 171 id off v = @thn _ _ (h.blk id) ⟨fun b => cond (Nat.beq v.cells.length 1 && !b.ro) ((b.storeA off v.cells).map fun b' => h.put id (.cells b')) none⟩ := by kernel_rfl
attribute [go_sem] st_171
theorem part_171 (cs : List CV) (off : Nat) : partT Go.Proofs.Tryd.prog 171 cs off = nth cs off := by kernel_rfl
attribute [go_sem] part_171
theorem ze_171 : zeroT Go.Proofs.Tryd.prog 171 = some (.nilf) := by kernel_rfl
attribute [go_sem] ze_171
theorem eq_171 (xo yo : Operand) (f : Fn) (a b : List CV) : binT Go.Proofs.Tryd.prog .eql 171 xo yo (.fn f a b) .nilf = some (.bool false) := by kernel_rfl
attribute [go_sem] eq_171
theorem eq_171_n (xo yo : Operand) : binT Go.Proofs.Tryd.prog .eql 171 xo yo .nilf .nilf = some (.bool true) := by kernel_rfl
attribute [go_sem] eq_171_n
theorem ne_171 (xo yo : Operand) (f : Fn) (a b : List CV) : binT Go.Proofs.Tryd.prog .neq 171 xo yo (.fn f a b) .nilf = some (.bool true) := by kernel_rfl
attribute [go_sem] ne_171
theorem ne_171_n (xo yo : Operand) : binT Go.Proofs.Tryd.prog .neq 171 xo yo .nilf .nilf = some (.bool false) := by kernel_rfl
attribute [go_sem] ne_171_n
theorem sz_172 : szOf Go.Proofs.Tryd.prog 172 = some 1 := by kernel_rfl
attribute [go_sem] sz_172
theorem ld_172 (h : H) (id off : Nat) : loadT Go.Proofs.Tryd.prog h 172 id off = @thn _ _ (h.blk id) ⟨fun b => b.get off⟩ := by kernel_rfl
attribute [go_sem] ld_172
theorem st_172 (h : H) (id off : Nat) (v : CV) : storeT Go.Proofs.Tryd.prog h 172 id off v = @thn _ _ (h.blk id) ⟨fun b => cond (Nat.beq v.cells.length 1 && !b.ro) ((b.storeA off v.cells).map fun b' => h.put id (.cells b')) none⟩ := by kernel_rfl
attribute [go_sem] st_172
theorem part_172 (cs : List CV) (off : Nat) : partT Go.Proofs.Tryd.prog 172 cs off = nth cs off := by kernel_rfl
attribute [go_sem] part_172
theorem ze_172 : zeroT Go.Proofs.Tryd.prog 172 = some (.nilf) := by kernel_rfl
attribute [go_sem] ze_172
theorem eq_172 (xo yo : Operand) (f : Fn) (a b : List CV) : binT Go.Proofs.Tryd.prog .eql 172 xo yo (.fn f a b) .nilf = some (.bool false) := by kernel_rfl
attribute [go_sem] eq_172
theorem eq_172_n (xo yo : Operand) : binT Go.Proofs.Tryd.prog .eql 172 xo yo .nilf .nilf = some (.bool true) := by kernel_rfl
attribute [go_sem] eq_172_n
theorem ne_172 (xo yo : Operand) (f : Fn) (a b : List CV) : binT Go.Proofs.Tryd.prog .neq 172 xo yo (.fn f a b) .nilf = some (.bool true) := by kernel_rfl
attribute [go_sem] ne_172
theorem ne_172_n (xo yo : Operand) : binT Go.Proofs.Tryd.prog .neq 172 xo yo .nilf .nilf = some (.bool false) := by kernel_rfl
attribute [go_sem] ne_172_n
theorem sz_174 : szOf Go.Proofs.Tryd.prog 174 = some 1 := by kernel_rfl
attribute [go_sem] sz_174
theorem ld_174 (h : H) (id off : Nat) : loadT Go.Proofs.Tryd.prog h 174 id off = @thn _ _ (h.blk id) ⟨fun b => b.get off⟩ := by kernel_rfl
attribute [go_sem] ld_174
theorem st_174 (h : H) (id off : Nat) (v : CV) : storeT Go.Proofs.Tryd.prog h 174 id off v = @thn _ _ (h.blk id) ⟨fun b => cond (Nat.beq v.cells.length 1 && !b.ro) ((b.storeA off v.cells).map fun b' => h.put id (.cells b')) none⟩ := by kernel_rfl
attribute [go_sem] st_174
theorem part_174 (cs : List CV) (off : Nat) : partT Go.Proofs.Tryd.prog 174 cs off = nth cs off := by kernel_rfl
attribute [go_sem] part_174
theorem ze_174 : zeroT Go.Proofs.Tryd.prog 174 = some (.nilf) := by kernel_rfl
attribute [go_sem] ze_174
theorem eq_174 (xo yo : Operand) (f : Fn) (a b : List CV) : binT Go.Proofs.Tryd.prog .eql 174 xo yo (.fn f a b) .nilf = some (.bool false) := by kernel_rfl
attribute [go_sem] eq_174
theorem eq_174_n (xo yo : Operand) : binT Go.Proofs.Tryd.prog .eql 174 xo yo .nilf .nilf = some (.bool true) := by kernel_rfl
attribute [go_sem] eq_174_n
theorem ne_174 (xo yo : Operand) (f : Fn) (a b : List CV) : binT Go.Proofs.Tryd.prog .neq 174 xo yo (.fn f a b) .nilf = some (.bool true) := by kernel_rfl
attribute [go_sem] ne_174
theorem ne_174_n (xo yo : Operand) : binT Go.Proofs.Tryd.prog .neq 174 xo yo .nilf .nilf = some (.bool false) := by kernel_rfl
attribute [go_sem] ne_174_n
theorem sz_175 : szOf Go.Proofs.Tryd.prog 175 = some 1 := by kernel_rfl
attribute [go_sem] sz_175
theorem ld_175 (h : H) (id off : Nat) : loadT Go.Proofs.Tryd.prog h 175 id off = @thn _ _ (h.blk id) ⟨fun b => b.get off⟩ := by kernel_rfl
attribute [go_sem] ld_175
theorem st_175 (h : H) (id off : Nat) (v : CV) : storeT Go.Proofs.Tryd.prog h 175 id off v = @thn _ _ (h.blk id) ⟨fun b => cond (Nat.beq v.cells.length 1 && !b.ro) ((b.storeA off v.cells).map fun b' => h.put id (.cells b')) none⟩ := by kernel_rfl
attribute [go_sem] st_175
theorem part_175 (cs : List CV) (off : Nat) : partT Go.Proofs.Tryd.prog 175 cs off = nth cs off := by kernel_rfl
attribute [go_sem] part_175
theorem ze_175 : zeroT Go.Proofs.Tryd.prog 175 = some (.nilf) := by kernel_rfl
attribute [go_sem] ze_175
theorem eq_175 (xo yo : Operand) (f : Fn) (a b : List CV) : binT Go.Proofs.Tryd.prog .eql 175 xo yo (.fn f a b) .nilf = some (.bool false) := by kernel_rfl
attribute [go_sem] eq_175
theorem eq_175_n (xo yo : Operand) : binT Go.Proofs.Tryd.prog .eql 175 xo yo .nilf .nilf = some (.bool true) := by kernel_rfl
attribute [go_sem] eq_175_n
theorem ne_175 (xo yo : Operand) (f : Fn) (a b : List CV) : binT Go.Proofs.Tryd.prog .neq 175 xo yo (.fn f a b) .nilf = some (.bool true) := by kernel_rfl
attribute [go_sem] ne_175
theorem ne_175_n (xo yo : Operand) : binT Go.Proofs.Tryd.prog .neq 175 xo yo .nilf .nilf = some (.bool false) := by kernel_rfl
attribute [go_sem] ne_175_n
theorem sz_176 : szOf Go.Proofs.Tryd.prog 176 = some 1 := by kernel_rfl
attribute [go_sem] sz_176
theorem ld_176 (h : H) (id off : Nat) : loadT Go.Proofs.Tryd.prog h 176 id off = @thn _ _ (h.blk id) ⟨fun b => b.get off⟩ := by kernel_rfl
attribute [go_sem] ld_176
theorem st_176 (h : H) (id off : Nat) (v : CV) : storeT Go.Proofs.Tryd.prog h 176 id off v = @thn _ _ (h.blk id) ⟨fun b => cond (Nat.beq v.cells.length 1 && !b.ro) ((b.storeA off v.cells).map fun b' => h.put id (.cells b')) none⟩ := by kernel_rfl
attribute [go_sem] st_176
theorem part_176 (cs : List CV) (off : Nat) : partT Go.Proofs.Tryd.prog 176 cs off = nth cs off := by kernel_rfl
attribute [go_sem] part_176
theorem ze_176 : zeroT Go.Proofs.Tryd.prog 176 = some (.nilp) := by kernel_rfl
attribute [go_sem] ze_176
theorem eq_176 (xo yo : Operand) (a b : Nat) : binT Go.Proofs.Tryd.prog .eql 176 xo yo (.ptr a b) .nilp = some (.bool false) := by kernel_rfl
attribute [go_sem] eq_176
theorem eq_176_n (xo yo : Operand) : binT Go.Proofs.Tryd.prog .eql 176 xo yo .nilp .nilp = some (.bool true) := by kernel_rfl
attribute [go_sem] eq_176_n
theorem ne_176 (xo yo : Operand) (a b : Nat) : binT Go.Proofs.Tryd.prog .neq 176 xo yo (.ptr a b) .nilp = some (.bool true) := by kernel_rfl
attribute [go_sem] ne_176
theorem ne_176_n (xo yo : Operand) : binT Go.Proofs.Tryd.prog .neq 176 xo yo .nilp .nilp = some (.bool false) := by kernel_rfl
attribute [go_sem] ne_176_n
theorem sz_177 : szOf Go.Proofs.Tryd.prog 177 = some 1 := by kernel_rfl
attribute [go_sem] sz_177
theorem ld_177 (h : H) (id off : Nat) : loadT Go.Proofs.Tryd.prog h 177 id off = @thn _ _ (h.blk id) ⟨fun b => b.get off⟩ := by kernel_rfl
attribute [go_sem] ld_177
theorem st_177 (h : H) (id off : Nat) (v : CV) : storeT Go.Proofs.Tryd.prog h 177 id off v = @thn _ _ (h.blk id) ⟨fun b => cond (Nat.beq v.cells.length 1 && !b.ro) ((b.storeA off v.cells).map fun b' => h.put id (.cells b')) none⟩ := by kernel_rfl
attribute [go_sem] st_177
theorem part_177 (cs : List CV) (off : Nat) : partT Go.Proofs.Tryd.prog 177 cs off = nth cs off := by kernel_rfl
attribute [go_sem] part_177
theorem ze_177 : zeroT Go.Proofs.Tryd.prog 177 = some (.nilf) := by kernel_rfl
attribute [go_sem] ze_177
theorem eq_177 (xo yo : Operand) (f : Fn) (a b : List CV) : binT Go.Proofs.Tryd.prog .eql 177 xo yo (.fn f a b) .nilf = some (.bool false) := by kernel_rfl
attribute [go_sem] eq_177
theorem eq_177_n (xo yo : Operand) : binT Go.Proofs.Tryd.prog .eql 177 xo yo .nilf .nilf = some (.bool true) := by kernel_rfl
attribute [go_sem] eq_177_n
theorem ne_177 (xo yo : Operand) (f : Fn) (a b : List CV) : binT Go.Proofs.Tryd.prog .neq 177 xo yo (.fn f a b) .nilf = some (.bool true) := by kernel_rfl
attribute [go_sem] ne_177
theorem ne_177_n (xo yo : Operand) : binT Go.Proofs.Tryd.prog .neq 177 xo yo .nilf .nilf = some (.bool false) := by kernel_rfl
attribute [go_sem] ne_177_n
theorem sz_179 : szOf Go.Proofs.Tryd.prog 179 = some 1 := by kernel_rfl
attribute [go_sem] sz_179
theorem ld_179 (h : H) (id off : Nat) : loadT Go.Proofs.Tryd.prog h 179 id off = @thn _ _ (h.blk id) ⟨fun b => b.get off⟩ := by kernel_rfl
attribute [go_sem] ld_179
theorem st_179 (h : H) (id off : Nat) (v : CV) : storeT Go.Proofs.Tryd.prog h 179 id off v = @thn _ _ (h.blk id) ⟨fun b => cond (Nat.beq v.cells.length 1 && !b.ro) ((b.storeA off v.cells).map fun b' => h.put id (.cells b')) none⟩ := by kernel_rfl
attribute [go_sem] st_179
theorem part_179 (cs : List CV) (off : Nat) : partT Go.Proofs.Tryd.prog 179 cs off = nth cs off := by kernel_rfl
attribute [go_sem] part_179
theorem sz_180 : szOf Go.Proofs.Tryd.prog 180 = some 1 := by kernel_rfl
attribute [go_sem] sz_180
theorem ld_180 (h : H) (id off : Nat) : loadT Go.Proofs.Tryd.prog h 180 id off = @thn _ _ (h.blk id) ⟨fun b => b.get off⟩ := by kernel_rfl
attribute [go_sem] ld_180
theorem st_180 (h : H) (id off : Nat) (v : CV) : storeT Go.Proofs.Tryd.prog h 180 id off v = @thn _ _ (h.blk id) ⟨fun b => cond (Nat.beq v.cells.length 1 && !b.ro) ((b.storeA off v.cells).map fun b' => h.put id (.cells b')) none⟩ := by kernel_rfl
attribute [go_sem] st_180
theorem part_180 (cs : List CV) (off : Nat) : partT Go.Proofs.Tryd.prog 180 cs off = nth cs off := by kernel_rfl
attribute [go_sem] part_180
theorem ze_180 : zeroT Go.Proofs.Tryd.prog 180 = some (.nilf) := by kernel_rfl
attribute [go_sem] ze_180
theorem eq_180 (xo yo : Operand) (f : Fn) (a b : List CV) : binT Go.Proofs.Tryd.prog .eql 180 xo yo (.fn f a b) .nilf = some (.bool false) := by kernel_rfl
attribute [go_sem] eq_180
theorem eq_180_n (xo yo : Operand) : binT Go.Proofs.Tryd.prog .eql 180 xo yo .nilf .nilf = some (.bool true) := by kernel_rfl
attribute [go_sem] eq_180_n
theorem ne_180 (xo yo : Operand) (f : Fn) (a b : List CV) : binT Go.Proofs.Tryd.prog .neq 180 xo yo (.fn f a b) .nilf = some (.bool true) := by kernel_rfl
attribute [go_sem] ne_180
theorem ne_180_n (xo yo : Operand) : binT Go.Proofs.Tryd.prog .neq 180 xo yo .nilf .nilf = some (.bool false) := by kernel_rfl
attribute [go_sem] ne_180_n
theorem sz_181 : szOf Go.Proofs.Tryd.prog 181 = some 1 := by kernel_rfl
attribute [go_sem] sz_181
theorem ld_181 (h : H) (id off : Nat) : loadT Go.Proofs.Tryd.prog h 181 id off = @thn _ _ (h.blk id) ⟨fun b => b.get off⟩ := by kernel_rfl
attribute [go_sem] ld_181
theorem st_181 (h : H) (id off : Nat) (v : CV) : storeT Go.Proofs.Tryd.prog h 181 id off v = @thn _ _ (h.blk id) ⟨fun b => cond (Nat.beq v.cells.length 1 && !b.ro) ((b.storeA off v.cells).map fun b' => h.put id (.cells b')) none⟩ := by kernel_rfl
attribute [go_sem] st_181
theorem part_181 (cs : List CV) (off : Nat) : partT Go.Proofs.Tryd.prog 181 cs off = nth cs off := by kernel_rfl
attribute [go_sem] part_181
theorem ze_181 : zeroT Go.Proofs.Tryd.prog 181 = some (.nilf) := by kernel_rfl
attribute [go_sem] ze_181
theorem eq_181 (xo yo : Operand) (f : Fn) (a b : List CV) : binT Go.Proofs.Tryd.prog .eql 181 xo yo (.fn f a b) .nilf = some (.bool false) := by kernel_rfl
attribute [go_sem] eq_181
theorem eq_181_n (xo yo : Operand) : binT Go.Proofs.Tryd.prog .eql 181 xo yo .nilf .nilf = some (.bool true) := by kernel_rfl
attribute [go_sem] eq_181_n
theorem ne_181 (xo yo : Operand) (f : Fn) (a b : List CV) : binT Go.Proofs.Tryd.prog .neq 181 xo yo (.fn f a b) .nilf = some (.bool true) := by kernel_rfl
attribute [go_sem] ne_181
theorem ne_181_n (xo yo : Operand) : binT Go.Proofs.Tryd.prog .neq 181 xo yo .nilf .nilf = some (.bool false) := by kernel_rfl
attribute [go_sem] ne_181_n
theorem sz_190 : szOf Go.Proofs.Tryd.prog 190 = some 1 := by kernel_rfl
attribute [go_sem] sz_190
theorem ld_190 (h : H) (id off : Nat) : loadT Go.Proofs.Tryd.prog h 190 id off = @thn _ _ (h.blk id) ⟨fun b => b.get off⟩ := by kernel_rfl
attribute [go_sem] ld_190
theorem st_190 (h : H) (id off : Nat) (v : CV) : storeT Go.Proofs.Tryd.prog h 190 id off v = @thn _ _ (h.blk id) ⟨fun b => cond (Nat.beq v.cells.length 1 && !b.ro) ((b.storeA off v.cells).map fun b' => h.put id (.cells b')) none⟩ := by kernel_rfl
attribute [go_sem] st_190
theorem part_190 (cs : List CV) (off : Nat) : partT Go.Proofs.Tryd.prog 190 cs off = nth cs off := by kernel_rfl
attribute [go_sem] part_190
theorem ze_190 : zeroT Go.Proofs.Tryd.prog 190 = some (.nilp) := by kernel_rfl
attribute [go_sem] ze_190
theorem eq_190 (xo yo : Operand) (a b : Nat) : binT Go.Proofs.Tryd.prog .eql 190 xo yo (.ptr a b) .nilp = some (.bool false) := by kernel_rfl
attribute [go_sem] eq_190
theorem eq_190_n (xo yo : Operand) : binT Go.Proofs.Tryd.prog .eql 190 xo yo .nilp .nilp = some (.bool true) := by kernel_rfl
attribute [go_sem] eq_190_n
theorem ne_190 (xo yo : Operand) (a b : Nat) : binT Go.Proofs.Tryd.prog .neq 190 xo yo (.ptr a b) .nilp = some (.bool true) := by kernel_rfl
attribute [go_sem] ne_190
theorem ne_190_n (xo yo : Operand) : binT Go.Proofs.Tryd.prog .neq 190 xo yo .nilp .nilp = some (.bool false) := by kernel_rfl
attribute [go_sem] ne_190_n
theorem cv_3_23 (h : H) (k : IntKind) (x : Int) : convT Go.Proofs.Tryd.prog h 3 23 (.int k x) = some (.val (.int .u64 (IntKind.wrap .u64 x))) := by kernel_rfl
attribute [go_sem] cv_3_23
theorem cv_23_3 (h : H) (k : IntKind) (x : Int) : convT Go.Proofs.Tryd.prog h 23 3 (.int k x) = some (.val (.int .i64 (IntKind.wrap .i64 x))) := by kernel_rfl
attribute [go_sem] cv_23_3
theorem cv_23_87 (h : H) (k : IntKind) (x : Int) : convT Go.Proofs.Tryd.prog h 23 87 (.int k x) = some (.val (.int .u16 (IntKind.wrap .u16 x))) := by kernel_rfl
attribute [go_sem] cv_23_87
theorem cv_23_5 (h : H) (k : IntKind) (x : Int) : convT Go.Proofs.Tryd.prog h 23 5 (.int k x) = some (.val (.int .u8 (IntKind.wrap .u8 x))) := by kernel_rfl
attribute [go_sem] cv_23_5
theorem cv_5_23 (h : H) (k : IntKind) (x : Int) : convT Go.Proofs.Tryd.prog h 5 23 (.int k x) = some (.val (.int .u64 (IntKind.wrap .u64 x))) := by kernel_rfl
attribute [go_sem] cv_5_23
theorem cv_87_23 (h : H) (k : IntKind) (x : Int) : convT Go.Proofs.Tryd.prog h 87 23 (.int k x) = some (.val (.int .u64 (IntKind.wrap .u64 x))) := by kernel_rfl
attribute [go_sem] cv_87_23
theorem cv_5_142 (h : H) (k : IntKind) (x : Int) : convT Go.Proofs.Tryd.prog h 5 142 (.int k x) = some (.val (.int .u32 (IntKind.wrap .u32 x))) := by kernel_rfl
attribute [go_sem] cv_5_142
theorem cv_23_142 (h : H) (k : IntKind) (x : Int) : convT Go.Proofs.Tryd.prog h 23 142 (.int k x) = some (.val (.int .u32 (IntKind.wrap .u32 x))) := by kernel_rfl
attribute [go_sem] cv_23_142
theorem cv_142_5 (h : H) (k : IntKind) (x : Int) : convT Go.Proofs.Tryd.prog h 142 5 (.int k x) = some (.val (.int .u8 (IntKind.wrap .u8 x))) := by kernel_rfl
attribute [go_sem] cv_142_5
theorem cv_3_124 (h : H) (k : IntKind) (x : Int) : convT Go.Proofs.Tryd.prog h 3 124 (.int k x) = some (.val (.int .u64 (IntKind.wrap .u64 x))) := by kernel_rfl
attribute [go_sem] cv_3_124
theorem cv_124_142 (h : H) (k : IntKind) (x : Int) : convT Go.Proofs.Tryd.prog h 124 142 (.int k x) = some (.val (.int .u32 (IntKind.wrap .u32 x))) := by kernel_rfl
attribute [go_sem] cv_124_142
theorem cv_124_3 (h : H) (k : IntKind) (x : Int) : convT Go.Proofs.Tryd.prog h 124 3 (.int k x) = some (.val (.int .i64 (IntKind.wrap .i64 x))) := by kernel_rfl
attribute [go_sem] cv_124_3
theorem cv_5_3 (h : H) (k : IntKind) (x : Int) : convT Go.Proofs.Tryd.prog h 5 3 (.int k x) = some (.val (.int .i64 (IntKind.wrap .i64 x))) := by kernel_rfl
attribute [go_sem] cv_5_3
theorem eq_20 (xo yo : Operand) (u : TypeId) (v : CV) : binT Go.Proofs.Tryd.prog .eql 20 xo yo (.ifc u v) .nili = some (.bool false) := by kernel_rfl
attribute [go_sem] eq_20
theorem eq_20_n (n : Nat) (v : Value) : binT Go.Proofs.Tryd.prog .eql 20 (.tmp n) (.const v) .nili .nili = some (.bool true) := by kernel_rfl
attribute [go_sem] eq_20_n
theorem ne_20 (xo yo : Operand) (u : TypeId) (v : CV) : binT Go.Proofs.Tryd.prog .neq 20 xo yo (.ifc u v) .nili = some (.bool true) := by kernel_rfl
attribute [go_sem] ne_20
theorem ne_20_n (n : Nat) (v : Value) : binT Go.Proofs.Tryd.prog .neq 20 (.tmp n) (.const v) .nili .nili = some (.bool false) := by kernel_rfl
attribute [go_sem] ne_20_n
theorem fn_2 : nth Go.Proofs.Tryd.prog.funcs.toList 2 = some Go.Proofs.Tryd.f2 := by kernel_rfl
attribute [go_sem] fn_2
theorem tx_2 : isTextO Go.Proofs.Tryd.prog 2 = some () := by kernel_rfl
attribute [go_sem] tx_2
theorem fn_3 : nth Go.Proofs.Tryd.prog.funcs.toList 3 = some Go.Proofs.Tryd.f3 := by kernel_rfl
attribute [go_sem] fn_3
theorem tx_3 : isTextO Go.Proofs.Tryd.prog 3 = some () := by kernel_rfl
attribute [go_sem] tx_3
theorem fn_4 : nth Go.Proofs.Tryd.prog.funcs.toList 4 = some Go.Proofs.Tryd.f4 := by kernel_rfl
attribute [go_sem] fn_4
theorem tx_4 : isTextO Go.Proofs.Tryd.prog 4 = some () := by kernel_rfl
attribute [go_sem] tx_4
theorem fn_5 : nth Go.Proofs.Tryd.prog.funcs.toList 5 = some Go.Proofs.Tryd.f5 := by kernel_rfl
attribute [go_sem] fn_5
theorem tx_5 : isTextO Go.Proofs.Tryd.prog 5 = some () := by kernel_rfl
attribute [go_sem] tx_5
theorem fn_6 : nth Go.Proofs.Tryd.prog.funcs.toList 6 = some Go.Proofs.Tryd.f6 := by kernel_rfl
attribute [go_sem] fn_6
theorem tx_6 : isTextO Go.Proofs.Tryd.prog 6 = some () := by kernel_rfl
attribute [go_sem] tx_6
theorem fn_7 : nth Go.Proofs.Tryd.prog.funcs.toList 7 = some Go.Proofs.Tryd.f7 := by kernel_rfl
attribute [go_sem] fn_7
theorem tx_7 : isTextO Go.Proofs.Tryd.prog 7 = some () := by kernel_rfl
attribute [go_sem] tx_7
theorem fn_8 : nth Go.Proofs.Tryd.prog.funcs.toList 8 = some Go.Proofs.Tryd.f8 := by kernel_rfl
attribute [go_sem] fn_8
theorem tx_8 : isTextO Go.Proofs.Tryd.prog 8 = some () := by kernel_rfl
attribute [go_sem] tx_8
theorem fn_9 : nth Go.Proofs.Tryd.prog.funcs.toList 9 = some Go.Proofs.Tryd.f9 := by kernel_rfl
attribute [go_sem] fn_9
theorem tx_9 : isTextO Go.Proofs.Tryd.prog 9 = some () := by kernel_rfl
attribute [go_sem] tx_9
theorem fn_10 : nth Go.Proofs.Tryd.prog.funcs.toList 10 = some Go.Proofs.Tryd.f10 := by kernel_rfl
attribute [go_sem] fn_10
theorem tx_10 : isTextO Go.Proofs.Tryd.prog 10 = some () := by kernel_rfl
attribute [go_sem] tx_10
theorem fn_11 : nth Go.Proofs.Tryd.prog.funcs.toList 11 = some Go.Proofs.Tryd.f11 := by kernel_rfl
attribute [go_sem] fn_11
theorem tx_11 : isTextO Go.Proofs.Tryd.prog 11 = some () := by kernel_rfl
attribute [go_sem] tx_11
theorem fn_12 : nth Go.Proofs.Tryd.prog.funcs.toList 12 = some Go.Proofs.Tryd.f12 := by kernel_rfl
attribute [go_sem] fn_12
theorem tx_12 : isTextO Go.Proofs.Tryd.prog 12 = some () := by kernel_rfl
attribute [go_sem] tx_12
theorem fn_13 : nth Go.Proofs.Tryd.prog.funcs.toList 13 = some Go.Proofs.Tryd.f13 := by kernel_rfl
attribute [go_sem] fn_13
theorem tx_13 : isTextO Go.Proofs.Tryd.prog 13 = some () := by kernel_rfl
attribute [go_sem] tx_13
theorem fn_14 : nth Go.Proofs.Tryd.prog.funcs.toList 14 = some Go.Proofs.Tryd.f14 := by kernel_rfl
attribute [go_sem] fn_14
theorem tx_14 : isTextO Go.Proofs.Tryd.prog 14 = some () := by kernel_rfl
attribute [go_sem] tx_14
theorem fn_15 : nth Go.Proofs.Tryd.prog.funcs.toList 15 = some Go.Proofs.Tryd.f15 := by kernel_rfl
attribute [go_sem] fn_15
theorem tx_15 : isTextO Go.Proofs.Tryd.prog 15 = some () := by kernel_rfl
attribute [go_sem] tx_15
theorem fn_16 : nth Go.Proofs.Tryd.prog.funcs.toList 16 = some Go.Proofs.Tryd.f16 := by kernel_rfl
attribute [go_sem] fn_16
theorem tx_16 : isTextO Go.Proofs.Tryd.prog 16 = some () := by kernel_rfl
attribute [go_sem] tx_16
theorem fn_17 : nth Go.Proofs.Tryd.prog.funcs.toList 17 = some Go.Proofs.Tryd.f17 := by kernel_rfl
attribute [go_sem] fn_17
theorem tx_17 : isTextO Go.Proofs.Tryd.prog 17 = some () := by kernel_rfl
attribute [go_sem] tx_17
theorem fn_18 : nth Go.Proofs.Tryd.prog.funcs.toList 18 = some Go.Proofs.Tryd.f18 := by kernel_rfl
attribute [go_sem] fn_18
theorem tx_18 : isTextO Go.Proofs.Tryd.prog 18 = some () := by kernel_rfl
attribute [go_sem] tx_18
theorem fn_19 : nth Go.Proofs.Tryd.prog.funcs.toList 19 = some Go.Proofs.Tryd.f19 := by kernel_rfl
attribute [go_sem] fn_19
theorem tx_19 : isTextO Go.Proofs.Tryd.prog 19 = some () := by kernel_rfl
attribute [go_sem] tx_19
theorem fn_20 : nth Go.Proofs.Tryd.prog.funcs.toList 20 = some Go.Proofs.Tryd.f20 := by kernel_rfl
attribute [go_sem] fn_20
theorem tx_20 : isTextO Go.Proofs.Tryd.prog 20 = some () := by kernel_rfl
attribute [go_sem] tx_20
theorem fn_21 : nth Go.Proofs.Tryd.prog.funcs.toList 21 = some Go.Proofs.Tryd.f21 := by kernel_rfl
attribute [go_sem] fn_21
theorem tx_21 : isTextO Go.Proofs.Tryd.prog 21 = some () := by kernel_rfl
attribute [go_sem] tx_21
theorem fn_22 : nth Go.Proofs.Tryd.prog.funcs.toList 22 = some Go.Proofs.Tryd.f22 := by kernel_rfl
attribute [go_sem] fn_22
theorem tx_22 : isTextO Go.Proofs.Tryd.prog 22 = some () := by kernel_rfl
attribute [go_sem] tx_22
theorem fn_23 : nth Go.Proofs.Tryd.prog.funcs.toList 23 = some Go.Proofs.Tryd.f23 := by kernel_rfl
attribute [go_sem] fn_23
theorem tx_23 : isTextO Go.Proofs.Tryd.prog 23 = some () := by kernel_rfl
attribute [go_sem] tx_23
theorem fn_24 : nth Go.Proofs.Tryd.prog.funcs.toList 24 = some Go.Proofs.Tryd.f24 := by kernel_rfl
attribute [go_sem] fn_24
theorem tx_24 : isTextO Go.Proofs.Tryd.prog 24 = some () := by kernel_rfl
attribute [go_sem] tx_24
theorem fn_25 : nth Go.Proofs.Tryd.prog.funcs.toList 25 = some Go.Proofs.Tryd.f25 := by kernel_rfl
attribute [go_sem] fn_25
theorem tx_25 : isTextO Go.Proofs.Tryd.prog 25 = some () := by kernel_rfl
attribute [go_sem] tx_25
theorem fn_26 : nth Go.Proofs.Tryd.prog.funcs.toList 26 = some Go.Proofs.Tryd.f26 := by kernel_rfl
attribute [go_sem] fn_26
theorem tx_26 : isTextO Go.Proofs.Tryd.prog 26 = some () := by kernel_rfl
attribute [go_sem] tx_26
theorem fn_27 : nth Go.Proofs.Tryd.prog.funcs.toList 27 = some Go.Proofs.Tryd.f27 := by kernel_rfl
attribute [go_sem] fn_27
theorem tx_27 : isTextO Go.Proofs.Tryd.prog 27 = some () := by kernel_rfl
attribute [go_sem] tx_27
theorem fn_28 : nth Go.Proofs.Tryd.prog.funcs.toList 28 = some Go.Proofs.Tryd.f28 := by kernel_rfl
attribute [go_sem] fn_28
theorem tx_28 : isTextO Go.Proofs.Tryd.prog 28 = some () := by kernel_rfl
attribute [go_sem] tx_28
theorem fn_29 : nth Go.Proofs.Tryd.prog.funcs.toList 29 = some Go.Proofs.Tryd.f29 := by kernel_rfl
attribute [go_sem] fn_29
theorem tx_29 : isTextO Go.Proofs.Tryd.prog 29 = some () := by kernel_rfl
attribute [go_sem] tx_29
theorem fn_30 : nth Go.Proofs.Tryd.prog.funcs.toList 30 = some Go.Proofs.Tryd.f30 := by kernel_rfl
attribute [go_sem] fn_30
theorem tx_30 : isTextO Go.Proofs.Tryd.prog 30 = some () := by kernel_rfl
attribute [go_sem] tx_30
theorem fn_31 : nth Go.Proofs.Tryd.prog.funcs.toList 31 = some Go.Proofs.Tryd.f31 := by kernel_rfl
attribute [go_sem] fn_31
theorem tx_31 : isTextO Go.Proofs.Tryd.prog 31 = some () := by kernel_rfl
attribute [go_sem] tx_31
theorem fn_32 : nth Go.Proofs.Tryd.prog.funcs.toList 32 = some Go.Proofs.Tryd.f32 := by kernel_rfl
attribute [go_sem] fn_32
theorem tx_32 : isTextO Go.Proofs.Tryd.prog 32 = some () := by kernel_rfl
attribute [go_sem] tx_32
theorem fn_33 : nth Go.Proofs.Tryd.prog.funcs.toList 33 = some Go.Proofs.Tryd.f33 := by kernel_rfl
attribute [go_sem] fn_33
theorem tx_33 : isTextO Go.Proofs.Tryd.prog 33 = some () := by kernel_rfl
attribute [go_sem] tx_33
theorem fn_34 : nth Go.Proofs.Tryd.prog.funcs.toList 34 = some Go.Proofs.Tryd.f34 := by kernel_rfl
attribute [go_sem] fn_34
theorem tx_34 : isTextO Go.Proofs.Tryd.prog 34 = some () := by kernel_rfl
attribute [go_sem] tx_34
theorem fn_35 : nth Go.Proofs.Tryd.prog.funcs.toList 35 = some Go.Proofs.Tryd.f35 := by kernel_rfl
attribute [go_sem] fn_35
theorem tx_35 : isTextO Go.Proofs.Tryd.prog 35 = some () := by kernel_rfl
attribute [go_sem] tx_35
theorem fn_36 : nth Go.Proofs.Tryd.prog.funcs.toList 36 = some Go.Proofs.Tryd.f36 := by kernel_rfl
attribute [go_sem] fn_36
theorem tx_36 : isTextO Go.Proofs.Tryd.prog 36 = some () := by kernel_rfl
attribute [go_sem] tx_36
theorem fn_37 : nth Go.Proofs.Tryd.prog.funcs.toList 37 = some Go.Proofs.Tryd.f37 := by kernel_rfl
attribute [go_sem] fn_37
theorem tx_37 : isTextO Go.Proofs.Tryd.prog 37 = some () := by kernel_rfl
attribute [go_sem] tx_37
theorem fn_38 : nth Go.Proofs.Tryd.prog.funcs.toList 38 = some Go.Proofs.Tryd.f38 := by kernel_rfl
attribute [go_sem] fn_38
theorem tx_38 : isTextO Go.Proofs.Tryd.prog 38 = some () := by kernel_rfl
attribute [go_sem] tx_38
theorem fn_39 : nth Go.Proofs.Tryd.prog.funcs.toList 39 = some Go.Proofs.Tryd.f39 := by kernel_rfl
attribute [go_sem] fn_39
theorem tx_39 : isTextO Go.Proofs.Tryd.prog 39 = some () := by kernel_rfl
attribute [go_sem] tx_39
theorem fn_40 : nth Go.Proofs.Tryd.prog.funcs.toList 40 = some Go.Proofs.Tryd.f40 := by kernel_rfl
attribute [go_sem] fn_40
theorem tx_40 : isTextO Go.Proofs.Tryd.prog 40 = some () := by kernel_rfl
attribute [go_sem] tx_40
theorem fn_41 : nth Go.Proofs.Tryd.prog.funcs.toList 41 = some Go.Proofs.Tryd.f41 := by kernel_rfl
attribute [go_sem] fn_41
theorem tx_41 : isTextO Go.Proofs.Tryd.prog 41 = some () := by kernel_rfl
attribute [go_sem] tx_41
theorem fn_42 : nth Go.Proofs.Tryd.prog.funcs.toList 42 = some Go.Proofs.Tryd.f42 := by kernel_rfl
attribute [go_sem] fn_42
theorem tx_42 : isTextO Go.Proofs.Tryd.prog 42 = some () := by kernel_rfl
attribute [go_sem] tx_42
theorem fn_43 : nth Go.Proofs.Tryd.prog.funcs.toList 43 = some Go.Proofs.Tryd.f43 := by kernel_rfl
attribute [go_sem] fn_43
theorem tx_43 : isTextO Go.Proofs.Tryd.prog 43 = some () := by kernel_rfl
attribute [go_sem] tx_43
theorem fn_44 : nth Go.Proofs.Tryd.prog.funcs.toList 44 = some Go.Proofs.Tryd.f44 := by kernel_rfl
attribute [go_sem] fn_44
theorem tx_44 : isTextO Go.Proofs.Tryd.prog 44 = some () := by kernel_rfl
attribute [go_sem] tx_44
theorem fn_45 : nth Go.Proofs.Tryd.prog.funcs.toList 45 = some Go.Proofs.Tryd.f45 := by kernel_rfl
attribute [go_sem] fn_45
theorem tx_45 : isTextO Go.Proofs.Tryd.prog 45 = some () := by kernel_rfl
attribute [go_sem] tx_45
theorem fn_46 : nth Go.Proofs.Tryd.prog.funcs.toList 46 = some Go.Proofs.Tryd.f46 := by kernel_rfl
attribute [go_sem] fn_46
theorem tx_46 : isTextO Go.Proofs.Tryd.prog 46 = some () := by kernel_rfl
attribute [go_sem] tx_46
theorem fn_47 : nth Go.Proofs.Tryd.prog.funcs.toList 47 = some Go.Proofs.Tryd.f47 := by kernel_rfl
attribute [go_sem] fn_47
theorem tx_47 : isTextO Go.Proofs.Tryd.prog 47 = some () := by kernel_rfl
attribute [go_sem] tx_47
theorem fn_48 : nth Go.Proofs.Tryd.prog.funcs.toList 48 = some Go.Proofs.Tryd.f48 := by kernel_rfl
attribute [go_sem] fn_48
theorem tx_48 : isTextO Go.Proofs.Tryd.prog 48 = some () := by kernel_rfl
attribute [go_sem] tx_48
theorem fn_49 : nth Go.Proofs.Tryd.prog.funcs.toList 49 = some Go.Proofs.Tryd.f49 := by kernel_rfl
attribute [go_sem] fn_49
theorem tx_49 : isTextO Go.Proofs.Tryd.prog 49 = some () := by kernel_rfl
attribute [go_sem] tx_49
theorem fn_50 : nth Go.Proofs.Tryd.prog.funcs.toList 50 = some Go.Proofs.Tryd.f50 := by kernel_rfl
attribute [go_sem] fn_50
theorem tx_50 : isTextO Go.Proofs.Tryd.prog 50 = some () := by kernel_rfl
attribute [go_sem] tx_50
theorem fn_51 : nth Go.Proofs.Tryd.prog.funcs.toList 51 = some Go.Proofs.Tryd.f51 := by kernel_rfl
attribute [go_sem] fn_51
theorem tx_51 : isTextO Go.Proofs.Tryd.prog 51 = some () := by kernel_rfl
attribute [go_sem] tx_51
theorem fn_52 : nth Go.Proofs.Tryd.prog.funcs.toList 52 = some Go.Proofs.Tryd.f52 := by kernel_rfl
attribute [go_sem] fn_52
theorem tx_52 : isTextO Go.Proofs.Tryd.prog 52 = some () := by kernel_rfl
attribute [go_sem] tx_52
theorem fn_53 : nth Go.Proofs.Tryd.prog.funcs.toList 53 = some Go.Proofs.Tryd.f53 := by kernel_rfl
attribute [go_sem] fn_53
theorem tx_53 : isTextO Go.Proofs.Tryd.prog 53 = some () := by kernel_rfl
attribute [go_sem] tx_53
theorem fn_54 : nth Go.Proofs.Tryd.prog.funcs.toList 54 = some Go.Proofs.Tryd.f54 := by kernel_rfl
attribute [go_sem] fn_54
theorem tx_54 : isTextO Go.Proofs.Tryd.prog 54 = some () := by kernel_rfl
attribute [go_sem] tx_54
theorem fn_55 : nth Go.Proofs.Tryd.prog.funcs.toList 55 = some Go.Proofs.Tryd.f55 := by kernel_rfl
attribute [go_sem] fn_55
theorem tx_55 : isTextO Go.Proofs.Tryd.prog 55 = some () := by kernel_rfl
attribute [go_sem] tx_55
theorem fn_56 : nth Go.Proofs.Tryd.prog.funcs.toList 56 = some Go.Proofs.Tryd.f56 := by kernel_rfl
attribute [go_sem] fn_56
theorem tx_56 : isTextO Go.Proofs.Tryd.prog 56 = some () := by kernel_rfl
attribute [go_sem] tx_56
theorem fn_57 : nth Go.Proofs.Tryd.prog.funcs.toList 57 = some Go.Proofs.Tryd.f57 := by kernel_rfl
attribute [go_sem] fn_57
theorem tx_57 : isTextO Go.Proofs.Tryd.prog 57 = some () := by kernel_rfl
attribute [go_sem] tx_57
theorem fn_58 : nth Go.Proofs.Tryd.prog.funcs.toList 58 = some Go.Proofs.Tryd.f58 := by kernel_rfl
attribute [go_sem] fn_58
theorem tx_58 : isTextO Go.Proofs.Tryd.prog 58 = some () := by kernel_rfl
attribute [go_sem] tx_58
theorem fn_59 : nth Go.Proofs.Tryd.prog.funcs.toList 59 = some Go.Proofs.Tryd.f59 := by kernel_rfl
attribute [go_sem] fn_59
theorem tx_59 : isTextO Go.Proofs.Tryd.prog 59 = some () := by kernel_rfl
attribute [go_sem] tx_59
theorem fn_60 : nth Go.Proofs.Tryd.prog.funcs.toList 60 = some Go.Proofs.Tryd.f60 := by kernel_rfl
attribute [go_sem] fn_60
theorem tx_60 : isTextO Go.Proofs.Tryd.prog 60 = some () := by kernel_rfl
attribute [go_sem] tx_60
theorem fn_61 : nth Go.Proofs.Tryd.prog.funcs.toList 61 = some Go.Proofs.Tryd.f61 := by kernel_rfl
attribute [go_sem] fn_61
theorem tx_61 : isTextO Go.Proofs.Tryd.prog 61 = some () := by kernel_rfl
attribute [go_sem] tx_61
theorem fn_62 : nth Go.Proofs.Tryd.prog.funcs.toList 62 = some Go.Proofs.Tryd.f62 := by kernel_rfl
attribute [go_sem] fn_62
theorem tx_62 : isTextO Go.Proofs.Tryd.prog 62 = some () := by kernel_rfl
attribute [go_sem] tx_62
theorem fn_63 : nth Go.Proofs.Tryd.prog.funcs.toList 63 = some Go.Proofs.Tryd.f63 := by kernel_rfl
attribute [go_sem] fn_63
theorem tx_63 : isTextO Go.Proofs.Tryd.prog 63 = some () := by kernel_rfl
attribute [go_sem] tx_63
theorem fn_64 : nth Go.Proofs.Tryd.prog.funcs.toList 64 = some Go.Proofs.Tryd.f64 := by kernel_rfl
attribute [go_sem] fn_64
theorem tx_64 : isTextO Go.Proofs.Tryd.prog 64 = some () := by kernel_rfl
attribute [go_sem] tx_64
theorem fn_65 : nth Go.Proofs.Tryd.prog.funcs.toList 65 = some Go.Proofs.Tryd.f65 := by kernel_rfl
attribute [go_sem] fn_65
theorem tx_65 : isTextO Go.Proofs.Tryd.prog 65 = some () := by kernel_rfl
attribute [go_sem] tx_65
theorem fn_66 : nth Go.Proofs.Tryd.prog.funcs.toList 66 = some Go.Proofs.Tryd.f66 := by kernel_rfl
attribute [go_sem] fn_66
theorem tx_66 : isTextO Go.Proofs.Tryd.prog 66 = some () := by kernel_rfl
attribute [go_sem] tx_66
theorem fn_67 : nth Go.Proofs.Tryd.prog.funcs.toList 67 = some Go.Proofs.Tryd.f67 := by kernel_rfl
attribute [go_sem] fn_67
theorem tx_67 : isTextO Go.Proofs.Tryd.prog 67 = some () := by kernel_rfl
attribute [go_sem] tx_67
theorem fn_68 : nth Go.Proofs.Tryd.prog.funcs.toList 68 = some Go.Proofs.Tryd.f68 := by kernel_rfl
attribute [go_sem] fn_68
theorem tx_68 : isTextO Go.Proofs.Tryd.prog 68 = some () := by kernel_rfl
attribute [go_sem] tx_68
theorem fn_69 : nth Go.Proofs.Tryd.prog.funcs.toList 69 = some Go.Proofs.Tryd.f69 := by kernel_rfl
attribute [go_sem] fn_69
theorem tx_69 : isTextO Go.Proofs.Tryd.prog 69 = some () := by kernel_rfl
attribute [go_sem] tx_69
theorem fn_70 : nth Go.Proofs.Tryd.prog.funcs.toList 70 = some Go.Proofs.Tryd.f70 := by kernel_rfl
attribute [go_sem] fn_70
theorem tx_70 : isTextO Go.Proofs.Tryd.prog 70 = some () := by kernel_rfl
attribute [go_sem] tx_70
theorem fn_71 : nth Go.Proofs.Tryd.prog.funcs.toList 71 = some Go.Proofs.Tryd.f71 := by kernel_rfl
attribute [go_sem] fn_71
theorem tx_71 : isTextO Go.Proofs.Tryd.prog 71 = some () := by kernel_rfl
attribute [go_sem] tx_71
theorem fn_72 : nth Go.Proofs.Tryd.prog.funcs.toList 72 = some Go.Proofs.Tryd.f72 := by kernel_rfl
attribute [go_sem] fn_72
theorem tx_72 : isTextO Go.Proofs.Tryd.prog 72 = some () := by kernel_rfl
attribute [go_sem] tx_72
theorem fn_73 : nth Go.Proofs.Tryd.prog.funcs.toList 73 = some Go.Proofs.Tryd.f73 := by kernel_rfl
attribute [go_sem] fn_73
theorem tx_73 : isTextO Go.Proofs.Tryd.prog 73 = some () := by kernel_rfl
attribute [go_sem] tx_73
theorem fn_74 : nth Go.Proofs.Tryd.prog.funcs.toList 74 = some Go.Proofs.Tryd.f74 := by kernel_rfl
attribute [go_sem] fn_74
theorem tx_74 : isTextO Go.Proofs.Tryd.prog 74 = some () := by kernel_rfl
attribute [go_sem] tx_74
theorem fn_75 : nth Go.Proofs.Tryd.prog.funcs.toList 75 = some Go.Proofs.Tryd.f75 := by kernel_rfl
attribute [go_sem] fn_75
theorem tx_75 : isTextO Go.Proofs.Tryd.prog 75 = some () := by kernel_rfl
attribute [go_sem] tx_75
theorem fn_76 : nth Go.Proofs.Tryd.prog.funcs.toList 76 = some Go.Proofs.Tryd.f76 := by kernel_rfl
attribute [go_sem] fn_76
theorem tx_76 : isTextO Go.Proofs.Tryd.prog 76 = some () := by kernel_rfl
attribute [go_sem] tx_76
theorem fn_77 : nth Go.Proofs.Tryd.prog.funcs.toList 77 = some Go.Proofs.Tryd.f77 := by kernel_rfl
attribute [go_sem] fn_77
theorem tx_77 : isTextO Go.Proofs.Tryd.prog 77 = some () := by kernel_rfl
attribute [go_sem] tx_77
theorem fn_78 : nth Go.Proofs.Tryd.prog.funcs.toList 78 = some Go.Proofs.Tryd.f78 := by kernel_rfl
attribute [go_sem] fn_78
theorem tx_78 : isTextO Go.Proofs.Tryd.prog 78 = some () := by kernel_rfl
attribute [go_sem] tx_78
theorem fn_79 : nth Go.Proofs.Tryd.prog.funcs.toList 79 = some Go.Proofs.Tryd.f79 := by kernel_rfl
attribute [go_sem] fn_79
theorem tx_79 : isTextO Go.Proofs.Tryd.prog 79 = some () := by kernel_rfl
attribute [go_sem] tx_79
theorem fn_80 : nth Go.Proofs.Tryd.prog.funcs.toList 80 = some Go.Proofs.Tryd.f80 := by kernel_rfl
attribute [go_sem] fn_80
theorem tx_80 : isTextO Go.Proofs.Tryd.prog 80 = some () := by kernel_rfl
attribute [go_sem] tx_80
theorem fn_81 : nth Go.Proofs.Tryd.prog.funcs.toList 81 = some Go.Proofs.Tryd.f81 := by kernel_rfl
attribute [go_sem] fn_81
theorem tx_81 : isTextO Go.Proofs.Tryd.prog 81 = some () := by kernel_rfl
attribute [go_sem] tx_81
theorem fn_82 : nth Go.Proofs.Tryd.prog.funcs.toList 82 = some Go.Proofs.Tryd.f82 := by kernel_rfl
attribute [go_sem] fn_82
theorem tx_82 : isTextO Go.Proofs.Tryd.prog 82 = some () := by kernel_rfl
attribute [go_sem] tx_82
theorem fn_83 : nth Go.Proofs.Tryd.prog.funcs.toList 83 = some Go.Proofs.Tryd.f83 := by kernel_rfl
attribute [go_sem] fn_83
theorem tx_83 : isTextO Go.Proofs.Tryd.prog 83 = some () := by kernel_rfl
attribute [go_sem] tx_83
theorem fn_84 : nth Go.Proofs.Tryd.prog.funcs.toList 84 = some Go.Proofs.Tryd.f84 := by kernel_rfl
attribute [go_sem] fn_84
theorem tx_84 : isTextO Go.Proofs.Tryd.prog 84 = some () := by kernel_rfl
attribute [go_sem] tx_84
theorem fn_85 : nth Go.Proofs.Tryd.prog.funcs.toList 85 = some Go.Proofs.Tryd.f85 := by kernel_rfl
attribute [go_sem] fn_85
theorem tx_85 : isTextO Go.Proofs.Tryd.prog 85 = some () := by kernel_rfl
attribute [go_sem] tx_85
theorem fn_86 : nth Go.Proofs.Tryd.prog.funcs.toList 86 = some Go.Proofs.Tryd.f86 := by kernel_rfl
attribute [go_sem] fn_86
theorem tx_86 : isTextO Go.Proofs.Tryd.prog 86 = some () := by kernel_rfl
attribute [go_sem] tx_86
theorem fn_87 : nth Go.Proofs.Tryd.prog.funcs.toList 87 = some Go.Proofs.Tryd.f87 := by kernel_rfl
attribute [go_sem] fn_87
theorem tx_87 : isTextO Go.Proofs.Tryd.prog 87 = some () := by kernel_rfl
attribute [go_sem] tx_87
theorem fn_88 : nth Go.Proofs.Tryd.prog.funcs.toList 88 = some Go.Proofs.Tryd.f88 := by kernel_rfl
attribute [go_sem] fn_88
theorem tx_88 : isTextO Go.Proofs.Tryd.prog 88 = some () := by kernel_rfl
attribute [go_sem] tx_88
theorem fn_89 : nth Go.Proofs.Tryd.prog.funcs.toList 89 = some Go.Proofs.Tryd.f89 := by kernel_rfl
attribute [go_sem] fn_89
theorem tx_89 : isTextO Go.Proofs.Tryd.prog 89 = some () := by kernel_rfl
attribute [go_sem] tx_89
theorem fn_90 : nth Go.Proofs.Tryd.prog.funcs.toList 90 = some Go.Proofs.Tryd.f90 := by kernel_rfl
attribute [go_sem] fn_90
theorem tx_90 : isTextO Go.Proofs.Tryd.prog 90 = some () := by kernel_rfl
attribute [go_sem] tx_90
theorem fn_91 : nth Go.Proofs.Tryd.prog.funcs.toList 91 = some Go.Proofs.Tryd.f91 := by kernel_rfl
attribute [go_sem] fn_91
theorem tx_91 : isTextO Go.Proofs.Tryd.prog 91 = some () := by kernel_rfl
attribute [go_sem] tx_91
theorem fn_92 : nth Go.Proofs.Tryd.prog.funcs.toList 92 = some Go.Proofs.Tryd.f92 := by kernel_rfl
attribute [go_sem] fn_92
theorem tx_92 : isTextO Go.Proofs.Tryd.prog 92 = some () := by kernel_rfl
attribute [go_sem] tx_92
theorem fn_93 : nth Go.Proofs.Tryd.prog.funcs.toList 93 = some Go.Proofs.Tryd.f93 := by kernel_rfl
attribute [go_sem] fn_93
theorem tx_93 : isTextO Go.Proofs.Tryd.prog 93 = some () := by kernel_rfl
attribute [go_sem] tx_93
theorem fn_94 : nth Go.Proofs.Tryd.prog.funcs.toList 94 = some Go.Proofs.Tryd.f94 := by kernel_rfl
attribute [go_sem] fn_94
theorem tx_94 : isTextO Go.Proofs.Tryd.prog 94 = some () := by kernel_rfl
attribute [go_sem] tx_94
theorem fn_95 : nth Go.Proofs.Tryd.prog.funcs.toList 95 = some Go.Proofs.Tryd.f95 := by kernel_rfl
attribute [go_sem] fn_95
theorem tx_95 : isTextO Go.Proofs.Tryd.prog 95 = some () := by kernel_rfl
attribute [go_sem] tx_95
theorem fn_96 : nth Go.Proofs.Tryd.prog.funcs.toList 96 = some Go.Proofs.Tryd.f96 := by kernel_rfl
attribute [go_sem] fn_96
theorem tx_96 : isTextO Go.Proofs.Tryd.prog 96 = some () := by kernel_rfl
attribute [go_sem] tx_96
theorem fn_97 : nth Go.Proofs.Tryd.prog.funcs.toList 97 = some Go.Proofs.Tryd.f97 := by kernel_rfl
attribute [go_sem] fn_97
theorem tx_97 : isTextO Go.Proofs.Tryd.prog 97 = some () := by kernel_rfl
attribute [go_sem] tx_97
theorem fn_98 : nth Go.Proofs.Tryd.prog.funcs.toList 98 = some Go.Proofs.Tryd.f98 := by kernel_rfl
attribute [go_sem] fn_98
theorem tx_98 : isTextO Go.Proofs.Tryd.prog 98 = some () := by kernel_rfl
attribute [go_sem] tx_98
theorem fn_99 : nth Go.Proofs.Tryd.prog.funcs.toList 99 = some Go.Proofs.Tryd.f99 := by kernel_rfl
attribute [go_sem] fn_99
theorem tx_99 : isTextO Go.Proofs.Tryd.prog 99 = some () := by kernel_rfl
attribute [go_sem] tx_99
theorem fn_100 : nth Go.Proofs.Tryd.prog.funcs.toList 100 = some Go.Proofs.Tryd.f100 := by kernel_rfl
attribute [go_sem] fn_100
theorem tx_100 : isTextO Go.Proofs.Tryd.prog 100 = some () := by kernel_rfl
attribute [go_sem] tx_100
theorem fn_101 : nth Go.Proofs.Tryd.prog.funcs.toList 101 = some Go.Proofs.Tryd.f101 := by kernel_rfl
attribute [go_sem] fn_101
theorem tx_101 : isTextO Go.Proofs.Tryd.prog 101 = some () := by kernel_rfl
attribute [go_sem] tx_101
theorem fn_102 : nth Go.Proofs.Tryd.prog.funcs.toList 102 = some Go.Proofs.Tryd.f102 := by kernel_rfl
attribute [go_sem] fn_102
theorem tx_102 : isTextO Go.Proofs.Tryd.prog 102 = some () := by kernel_rfl
attribute [go_sem] tx_102
theorem fn_103 : nth Go.Proofs.Tryd.prog.funcs.toList 103 = some Go.Proofs.Tryd.f103 := by kernel_rfl
attribute [go_sem] fn_103
theorem tx_103 : isTextO Go.Proofs.Tryd.prog 103 = some () := by kernel_rfl
attribute [go_sem] tx_103
theorem fn_104 : nth Go.Proofs.Tryd.prog.funcs.toList 104 = some Go.Proofs.Tryd.f104 := by kernel_rfl
attribute [go_sem] fn_104
theorem tx_104 : isTextO Go.Proofs.Tryd.prog 104 = some () := by kernel_rfl
attribute [go_sem] tx_104
theorem fn_105 : nth Go.Proofs.Tryd.prog.funcs.toList 105 = some Go.Proofs.Tryd.f105 := by kernel_rfl
attribute [go_sem] fn_105
theorem tx_105 : isTextO Go.Proofs.Tryd.prog 105 = some () := by kernel_rfl
attribute [go_sem] tx_105
theorem fn_106 : nth Go.Proofs.Tryd.prog.funcs.toList 106 = some Go.Proofs.Tryd.f106 := by kernel_rfl
attribute [go_sem] fn_106
theorem tx_106 : isTextO Go.Proofs.Tryd.prog 106 = some () := by kernel_rfl
attribute [go_sem] tx_106
theorem fn_107 : nth Go.Proofs.Tryd.prog.funcs.toList 107 = some Go.Proofs.Tryd.f107 := by kernel_rfl
attribute [go_sem] fn_107
theorem tx_107 : isTextO Go.Proofs.Tryd.prog 107 = some () := by kernel_rfl
attribute [go_sem] tx_107
theorem fn_108 : nth Go.Proofs.Tryd.prog.funcs.toList 108 = some Go.Proofs.Tryd.f108 := by kernel_rfl
attribute [go_sem] fn_108
theorem tx_108 : isTextO Go.Proofs.Tryd.prog 108 = some () := by kernel_rfl
attribute [go_sem] tx_108
theorem fn_109 : nth Go.Proofs.Tryd.prog.funcs.toList 109 = some Go.Proofs.Tryd.f109 := by kernel_rfl
attribute [go_sem] fn_109
theorem tx_109 : isTextO Go.Proofs.Tryd.prog 109 = some () := by kernel_rfl
attribute [go_sem] tx_109
theorem fn_110 : nth Go.Proofs.Tryd.prog.funcs.toList 110 = some Go.Proofs.Tryd.f110 := by kernel_rfl
attribute [go_sem] fn_110
theorem tx_110 : isTextO Go.Proofs.Tryd.prog 110 = some () := by kernel_rfl
attribute [go_sem] tx_110
theorem fn_111 : nth Go.Proofs.Tryd.prog.funcs.toList 111 = some Go.Proofs.Tryd.f111 := by kernel_rfl
attribute [go_sem] fn_111
theorem tx_111 : isTextO Go.Proofs.Tryd.prog 111 = some () := by kernel_rfl
attribute [go_sem] tx_111
theorem fn_112 : nth Go.Proofs.Tryd.prog.funcs.toList 112 = some Go.Proofs.Tryd.f112 := by kernel_rfl
attribute [go_sem] fn_112
theorem tx_112 : isTextO Go.Proofs.Tryd.prog 112 = some () := by kernel_rfl
attribute [go_sem] tx_112
theorem fn_113 : nth Go.Proofs.Tryd.prog.funcs.toList 113 = some Go.Proofs.Tryd.f113 := by kernel_rfl
attribute [go_sem] fn_113
theorem tx_113 : isTextO Go.Proofs.Tryd.prog 113 = some () := by kernel_rfl
attribute [go_sem] tx_113
theorem fn_114 : nth Go.Proofs.Tryd.prog.funcs.toList 114 = some Go.Proofs.Tryd.f114 := by kernel_rfl
attribute [go_sem] fn_114
theorem tx_114 : isTextO Go.Proofs.Tryd.prog 114 = some () := by kernel_rfl
attribute [go_sem] tx_114
theorem fn_115 : nth Go.Proofs.Tryd.prog.funcs.toList 115 = some Go.Proofs.Tryd.f115 := by kernel_rfl
attribute [go_sem] fn_115
theorem tx_115 : isTextO Go.Proofs.Tryd.prog 115 = some () := by kernel_rfl
attribute [go_sem] tx_115
theorem fn_116 : nth Go.Proofs.Tryd.prog.funcs.toList 116 = some Go.Proofs.Tryd.f116 := by kernel_rfl
attribute [go_sem] fn_116
theorem tx_116 : isTextO Go.Proofs.Tryd.prog 116 = some () := by kernel_rfl
attribute [go_sem] tx_116
theorem fn_117 : nth Go.Proofs.Tryd.prog.funcs.toList 117 = some Go.Proofs.Tryd.f117 := by kernel_rfl
attribute [go_sem] fn_117
theorem tx_117 : isTextO Go.Proofs.Tryd.prog 117 = some () := by kernel_rfl
attribute [go_sem] tx_117
theorem fn_118 : nth Go.Proofs.Tryd.prog.funcs.toList 118 = some Go.Proofs.Tryd.f118 := by kernel_rfl
attribute [go_sem] fn_118
theorem tx_118 : isTextO Go.Proofs.Tryd.prog 118 = some () := by kernel_rfl
attribute [go_sem] tx_118
theorem fn_119 : nth Go.Proofs.Tryd.prog.funcs.toList 119 = some Go.Proofs.Tryd.f119 := by kernel_rfl
attribute [go_sem] fn_119
theorem tx_119 : isTextO Go.Proofs.Tryd.prog 119 = some () := by kernel_rfl
attribute [go_sem] tx_119
theorem fn_120 : nth Go.Proofs.Tryd.prog.funcs.toList 120 = some Go.Proofs.Tryd.f120 := by kernel_rfl
attribute [go_sem] fn_120
theorem tx_120 : isTextO Go.Proofs.Tryd.prog 120 = some () := by kernel_rfl
attribute [go_sem] tx_120
theorem fn_121 : nth Go.Proofs.Tryd.prog.funcs.toList 121 = some Go.Proofs.Tryd.f121 := by kernel_rfl
attribute [go_sem] fn_121
theorem tx_121 : isTextO Go.Proofs.Tryd.prog 121 = some () := by kernel_rfl
attribute [go_sem] tx_121
theorem fn_122 : nth Go.Proofs.Tryd.prog.funcs.toList 122 = some Go.Proofs.Tryd.f122 := by kernel_rfl
attribute [go_sem] fn_122
theorem tx_122 : isTextO Go.Proofs.Tryd.prog 122 = some () := by kernel_rfl
attribute [go_sem] tx_122
theorem fn_123 : nth Go.Proofs.Tryd.prog.funcs.toList 123 = some Go.Proofs.Tryd.f123 := by kernel_rfl
attribute [go_sem] fn_123
theorem tx_123 : isTextO Go.Proofs.Tryd.prog 123 = some () := by kernel_rfl
attribute [go_sem] tx_123
theorem fn_124 : nth Go.Proofs.Tryd.prog.funcs.toList 124 = some Go.Proofs.Tryd.f124 := by kernel_rfl
attribute [go_sem] fn_124
theorem tx_124 : isTextO Go.Proofs.Tryd.prog 124 = some () := by kernel_rfl
attribute [go_sem] tx_124
theorem fn_125 : nth Go.Proofs.Tryd.prog.funcs.toList 125 = some Go.Proofs.Tryd.f125 := by kernel_rfl
attribute [go_sem] fn_125
theorem tx_125 : isTextO Go.Proofs.Tryd.prog 125 = some () := by kernel_rfl
attribute [go_sem] tx_125
theorem fn_146 : nth Go.Proofs.Tryd.prog.funcs.toList 146 = some Go.Proofs.Tryd.f146 := by kernel_rfl
attribute [go_sem] fn_146
theorem tx_146 : isTextO Go.Proofs.Tryd.prog 146 = some () := by kernel_rfl
attribute [go_sem] tx_146
end Go.Cl.Sh
