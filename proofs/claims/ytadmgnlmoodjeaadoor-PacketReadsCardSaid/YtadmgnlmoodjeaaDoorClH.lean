/- Facts of the program's tables, each read off by the kernel. -/
import Derived.Attr
import Derived.KernelRfl
import Derived.Test.YtadmgnlmoodjeaaDoorProg
import Derived.Test.YtadmgnlmoodjeaaDoorClG
set_option linter.all false
namespace Go.Cl.Sh
open Go Go.Cl
theorem sz_0 : szOf Go.Proofs.Tryd.prog 0 = some 1 := by kernel_rfl
attribute [go_sem] sz_0
theorem ld_0 (h : H) (id off : Nat) : loadT Go.Proofs.Tryd.prog h 0 id off = @thn _ _ (h.blk id) ⟨fun b => b.get off⟩ := by kernel_rfl
attribute [go_sem] ld_0
theorem st_0 (h : H) (id off : Nat) (v : CV) : storeT Go.Proofs.Tryd.prog h 0 id off v = @thn _ _ (h.blk id) ⟨fun b => cond (Nat.beq v.cells.length 1 && !b.ro) ((b.storeA off v.cells).map fun b' => h.put id (.cells b')) none⟩ := by kernel_rfl
attribute [go_sem] st_0
theorem part_0 (cs : List CV) (off : Nat) : partT Go.Proofs.Tryd.prog 0 cs off = nth cs off := by kernel_rfl
attribute [go_sem] part_0
theorem sz_1 : szOf Go.Proofs.Tryd.prog 1 = some 1 := by kernel_rfl
attribute [go_sem] sz_1
theorem ld_1 (h : H) (id off : Nat) : loadT Go.Proofs.Tryd.prog h 1 id off = @thn _ _ (h.blk id) ⟨fun b => b.get off⟩ := by kernel_rfl
attribute [go_sem] ld_1
theorem st_1 (h : H) (id off : Nat) (v : CV) : storeT Go.Proofs.Tryd.prog h 1 id off v = @thn _ _ (h.blk id) ⟨fun b => cond (Nat.beq v.cells.length 1 && !b.ro) ((b.storeA off v.cells).map fun b' => h.put id (.cells b')) none⟩ := by kernel_rfl
attribute [go_sem] st_1
theorem part_1 (cs : List CV) (off : Nat) : partT Go.Proofs.Tryd.prog 1 cs off = nth cs off := by kernel_rfl
attribute [go_sem] part_1
theorem ze_1 : zeroT Go.Proofs.Tryd.prog 1 = some (.nilf) := by kernel_rfl
attribute [go_sem] ze_1
theorem eq_1 (xo yo : Operand) (f : Fn) (a b : List CV) : binT Go.Proofs.Tryd.prog .eql 1 xo yo (.fn f a b) .nilf = some (.bool false) := by kernel_rfl
attribute [go_sem] eq_1
theorem eq_1_n (xo yo : Operand) : binT Go.Proofs.Tryd.prog .eql 1 xo yo .nilf .nilf = some (.bool true) := by kernel_rfl
attribute [go_sem] eq_1_n
theorem ne_1 (xo yo : Operand) (f : Fn) (a b : List CV) : binT Go.Proofs.Tryd.prog .neq 1 xo yo (.fn f a b) .nilf = some (.bool true) := by kernel_rfl
attribute [go_sem] ne_1
theorem ne_1_n (xo yo : Operand) : binT Go.Proofs.Tryd.prog .neq 1 xo yo .nilf .nilf = some (.bool false) := by kernel_rfl
attribute [go_sem] ne_1_n
theorem sz_2 : szOf Go.Proofs.Tryd.prog 2 = some 1 := by kernel_rfl
attribute [go_sem] sz_2
theorem ld_2 (h : H) (id off : Nat) : loadT Go.Proofs.Tryd.prog h 2 id off = @thn _ _ (h.blk id) ⟨fun b => b.get off⟩ := by kernel_rfl
attribute [go_sem] ld_2
theorem st_2 (h : H) (id off : Nat) (v : CV) : storeT Go.Proofs.Tryd.prog h 2 id off v = @thn _ _ (h.blk id) ⟨fun b => cond (Nat.beq v.cells.length 1 && !b.ro) ((b.storeA off v.cells).map fun b' => h.put id (.cells b')) none⟩ := by kernel_rfl
attribute [go_sem] st_2
theorem part_2 (cs : List CV) (off : Nat) : partT Go.Proofs.Tryd.prog 2 cs off = nth cs off := by kernel_rfl
attribute [go_sem] part_2
theorem ze_2 : zeroT Go.Proofs.Tryd.prog 2 = some (.int .i64 0) := by kernel_rfl
attribute [go_sem] ze_2
theorem sz_3 : szOf Go.Proofs.Tryd.prog 3 = some 1 := by kernel_rfl
attribute [go_sem] sz_3
theorem ld_3 (h : H) (id off : Nat) : loadT Go.Proofs.Tryd.prog h 3 id off = @thn _ _ (h.blk id) ⟨fun b => b.get off⟩ := by kernel_rfl
attribute [go_sem] ld_3
theorem st_3 (h : H) (id off : Nat) (v : CV) : storeT Go.Proofs.Tryd.prog h 3 id off v = @thn _ _ (h.blk id) ⟨fun b => cond (Nat.beq v.cells.length 1 && !b.ro) ((b.storeA off v.cells).map fun b' => h.put id (.cells b')) none⟩ := by kernel_rfl
attribute [go_sem] st_3
theorem part_3 (cs : List CV) (off : Nat) : partT Go.Proofs.Tryd.prog 3 cs off = nth cs off := by kernel_rfl
attribute [go_sem] part_3
theorem ze_3 : zeroT Go.Proofs.Tryd.prog 3 = some (.int .i64 0) := by kernel_rfl
attribute [go_sem] ze_3
theorem sz_4 : szOf Go.Proofs.Tryd.prog 4 = some 1 := by kernel_rfl
attribute [go_sem] sz_4
theorem ld_4 (h : H) (id off : Nat) : loadT Go.Proofs.Tryd.prog h 4 id off = @thn _ _ (h.blk id) ⟨fun b => b.get off⟩ := by kernel_rfl
attribute [go_sem] ld_4
theorem st_4 (h : H) (id off : Nat) (v : CV) : storeT Go.Proofs.Tryd.prog h 4 id off v = @thn _ _ (h.blk id) ⟨fun b => cond (Nat.beq v.cells.length 1 && !b.ro) ((b.storeA off v.cells).map fun b' => h.put id (.cells b')) none⟩ := by kernel_rfl
attribute [go_sem] st_4
theorem part_4 (cs : List CV) (off : Nat) : partT Go.Proofs.Tryd.prog 4 cs off = nth cs off := by kernel_rfl
attribute [go_sem] part_4
theorem ze_4 : zeroT Go.Proofs.Tryd.prog 4 = some (.bool false) := by kernel_rfl
attribute [go_sem] ze_4
theorem eq_4 (xo yo : Operand) (a b : Bool) : binT Go.Proofs.Tryd.prog .eql 4 xo yo (.bool a) (.bool b) = some (.bool (a == b)) := by kernel_rfl
attribute [go_sem] eq_4
theorem ne_4 (xo yo : Operand) (a b : Bool) : binT Go.Proofs.Tryd.prog .neq 4 xo yo (.bool a) (.bool b) = some (.bool (!(a == b))) := by kernel_rfl
attribute [go_sem] ne_4
theorem sz_5 : szOf Go.Proofs.Tryd.prog 5 = some 1 := by kernel_rfl
attribute [go_sem] sz_5
theorem ld_5 (h : H) (id off : Nat) : loadT Go.Proofs.Tryd.prog h 5 id off = @thn _ _ (h.blk id) ⟨fun b => b.get off⟩ := by kernel_rfl
attribute [go_sem] ld_5
theorem st_5 (h : H) (id off : Nat) (v : CV) : storeT Go.Proofs.Tryd.prog h 5 id off v = @thn _ _ (h.blk id) ⟨fun b => cond (Nat.beq v.cells.length 1 && !b.ro) ((b.storeA off v.cells).map fun b' => h.put id (.cells b')) none⟩ := by kernel_rfl
attribute [go_sem] st_5
theorem part_5 (cs : List CV) (off : Nat) : partT Go.Proofs.Tryd.prog 5 cs off = nth cs off := by kernel_rfl
attribute [go_sem] part_5
theorem ze_5 : zeroT Go.Proofs.Tryd.prog 5 = some (.int .u8 0) := by kernel_rfl
attribute [go_sem] ze_5
theorem sz_9 : szOf Go.Proofs.Tryd.prog 9 = some 1 := by kernel_rfl
attribute [go_sem] sz_9
theorem ld_9 (h : H) (id off : Nat) : loadT Go.Proofs.Tryd.prog h 9 id off = @thn _ _ (h.blk id) ⟨fun b => b.get off⟩ := by kernel_rfl
attribute [go_sem] ld_9
theorem st_9 (h : H) (id off : Nat) (v : CV) : storeT Go.Proofs.Tryd.prog h 9 id off v = @thn _ _ (h.blk id) ⟨fun b => cond (Nat.beq v.cells.length 1 && !b.ro) ((b.storeA off v.cells).map fun b' => h.put id (.cells b')) none⟩ := by kernel_rfl
attribute [go_sem] st_9
theorem part_9 (cs : List CV) (off : Nat) : partT Go.Proofs.Tryd.prog 9 cs off = nth cs off := by kernel_rfl
attribute [go_sem] part_9
theorem ze_9 : zeroT Go.Proofs.Tryd.prog 9 = some (.str []) := by kernel_rfl
attribute [go_sem] ze_9
theorem ix_9 (s : List Nat) (k : Nat) (kd : IntKind) : indexT Go.Proofs.Tryd.prog 9 (.str s) (.int kd (Int.ofNat k)) = (nth s k).map fun b => .int .u8 (Int.ofNat b) := by kernel_rfl
attribute [go_sem] ix_9
theorem len_9 (h : H) (ts : List TypeId) (az : List CV) (s : List Nat) : builtinT Go.Proofs.Tryd.prog h .len (9 :: ts) (.str s :: az) = some (.val (.int .i64 (Int.ofNat s.length))) := by kernel_rfl
attribute [go_sem] len_9
theorem sz_12 : szOf Go.Proofs.Tryd.prog 12 = some 1 := by kernel_rfl
attribute [go_sem] sz_12
theorem ld_12 (h : H) (id off : Nat) : loadT Go.Proofs.Tryd.prog h 12 id off = @thn _ _ (h.blk id) ⟨fun b => b.get off⟩ := by kernel_rfl
attribute [go_sem] ld_12
theorem st_12 (h : H) (id off : Nat) (v : CV) : storeT Go.Proofs.Tryd.prog h 12 id off v = @thn _ _ (h.blk id) ⟨fun b => cond (Nat.beq v.cells.length 1 && !b.ro) ((b.storeA off v.cells).map fun b' => h.put id (.cells b')) none⟩ := by kernel_rfl
attribute [go_sem] st_12
theorem part_12 (cs : List CV) (off : Nat) : partT Go.Proofs.Tryd.prog 12 cs off = nth cs off := by kernel_rfl
attribute [go_sem] part_12
theorem ze_12 : zeroT Go.Proofs.Tryd.prog 12 = some (.int .u64 0) := by kernel_rfl
attribute [go_sem] ze_12
theorem sz_13 : szOf Go.Proofs.Tryd.prog 13 = some 2 := by kernel_rfl
attribute [go_sem] sz_13
theorem ld_13 (h : H) (id off : Nat) : loadT Go.Proofs.Tryd.prog h 13 id off = @thn _ _ (h.blk id) ⟨fun b => (b.loadN off 2).map .agg⟩ := by kernel_rfl
attribute [go_sem] ld_13
theorem st_13 (h : H) (id off : Nat) (v : CV) : storeT Go.Proofs.Tryd.prog h 13 id off v = @thn _ _ (h.blk id) ⟨fun b => cond (Nat.beq v.cells.length 2 && !b.ro) ((b.storeA off v.cells).map fun b' => h.put id (.cells b')) none⟩ := by kernel_rfl
attribute [go_sem] st_13
theorem part_13 (cs : List CV) (off : Nat) : partT Go.Proofs.Tryd.prog 13 cs off = some (.agg ((cs.drop off).take 2)) := by kernel_rfl
attribute [go_sem] part_13
theorem ze_13 : zeroT Go.Proofs.Tryd.prog 13 = some (.agg [.str [], .int .u64 0]) := by kernel_rfl
attribute [go_sem] ze_13
theorem bt_13 (parts : List (Nat × CV)) : buildT Go.Proofs.Tryd.prog 13 parts = finB (CV.cells (.agg [.str [], .int .u64 0])) (nth [(0, 1), (1, 1)]) parts := by kernel_rfl
attribute [go_sem] bt_13
theorem fa_13_0 (id off : Nat) : fieldAddrT Go.Proofs.Tryd.prog 13 (.ptr id off) 0 = some (.ptr id (off)) := by kernel_rfl
attribute [go_sem] fa_13_0
theorem fd_13_0 (cs : List CV) : fieldT Go.Proofs.Tryd.prog 13 (.agg cs) 0 = partT Go.Proofs.Tryd.prog 9 cs 0 := by kernel_rfl
attribute [go_sem] fd_13_0
theorem fa_13_1 (id off : Nat) : fieldAddrT Go.Proofs.Tryd.prog 13 (.ptr id off) 1 = some (.ptr id (off + 1)) := by kernel_rfl
attribute [go_sem] fa_13_1
theorem fd_13_1 (cs : List CV) : fieldT Go.Proofs.Tryd.prog 13 (.agg cs) 1 = partT Go.Proofs.Tryd.prog 12 cs 1 := by kernel_rfl
attribute [go_sem] fd_13_1
theorem sz_20 : szOf Go.Proofs.Tryd.prog 20 = some 1 := by kernel_rfl
attribute [go_sem] sz_20
theorem ld_20 (h : H) (id off : Nat) : loadT Go.Proofs.Tryd.prog h 20 id off = @thn _ _ (h.blk id) ⟨fun b => b.get off⟩ := by kernel_rfl
attribute [go_sem] ld_20
theorem st_20 (h : H) (id off : Nat) (v : CV) : storeT Go.Proofs.Tryd.prog h 20 id off v = @thn _ _ (h.blk id) ⟨fun b => cond (Nat.beq v.cells.length 1 && !b.ro) ((b.storeA off v.cells).map fun b' => h.put id (.cells b')) none⟩ := by kernel_rfl
attribute [go_sem] st_20
theorem part_20 (cs : List CV) (off : Nat) : partT Go.Proofs.Tryd.prog 20 cs off = nth cs off := by kernel_rfl
attribute [go_sem] part_20
theorem ze_20 : zeroT Go.Proofs.Tryd.prog 20 = some (.nili) := by kernel_rfl
attribute [go_sem] ze_20
theorem sz_21 : szOf Go.Proofs.Tryd.prog 21 = some 1 := by kernel_rfl
attribute [go_sem] sz_21
theorem ld_21 (h : H) (id off : Nat) : loadT Go.Proofs.Tryd.prog h 21 id off = @thn _ _ (h.blk id) ⟨fun b => b.get off⟩ := by kernel_rfl
attribute [go_sem] ld_21
theorem st_21 (h : H) (id off : Nat) (v : CV) : storeT Go.Proofs.Tryd.prog h 21 id off v = @thn _ _ (h.blk id) ⟨fun b => cond (Nat.beq v.cells.length 1 && !b.ro) ((b.storeA off v.cells).map fun b' => h.put id (.cells b')) none⟩ := by kernel_rfl
attribute [go_sem] st_21
theorem part_21 (cs : List CV) (off : Nat) : partT Go.Proofs.Tryd.prog 21 cs off = nth cs off := by kernel_rfl
attribute [go_sem] part_21
theorem ze_21 : zeroT Go.Proofs.Tryd.prog 21 = some (.int .i32 0) := by kernel_rfl
attribute [go_sem] ze_21
theorem sz_22 : szOf Go.Proofs.Tryd.prog 22 = some 1 := by kernel_rfl
attribute [go_sem] sz_22
theorem ld_22 (h : H) (id off : Nat) : loadT Go.Proofs.Tryd.prog h 22 id off = @thn _ _ (h.blk id) ⟨fun b => b.get off⟩ := by kernel_rfl
attribute [go_sem] ld_22
theorem st_22 (h : H) (id off : Nat) (v : CV) : storeT Go.Proofs.Tryd.prog h 22 id off v = @thn _ _ (h.blk id) ⟨fun b => cond (Nat.beq v.cells.length 1 && !b.ro) ((b.storeA off v.cells).map fun b' => h.put id (.cells b')) none⟩ := by kernel_rfl
attribute [go_sem] st_22
theorem part_22 (cs : List CV) (off : Nat) : partT Go.Proofs.Tryd.prog 22 cs off = nth cs off := by kernel_rfl
attribute [go_sem] part_22
theorem ze_22 : zeroT Go.Proofs.Tryd.prog 22 = some (.int .i64 0) := by kernel_rfl
attribute [go_sem] ze_22
theorem sz_23 : szOf Go.Proofs.Tryd.prog 23 = some 1 := by kernel_rfl
attribute [go_sem] sz_23
theorem ld_23 (h : H) (id off : Nat) : loadT Go.Proofs.Tryd.prog h 23 id off = @thn _ _ (h.blk id) ⟨fun b => b.get off⟩ := by kernel_rfl
attribute [go_sem] ld_23
theorem st_23 (h : H) (id off : Nat) (v : CV) : storeT Go.Proofs.Tryd.prog h 23 id off v = @thn _ _ (h.blk id) ⟨fun b => cond (Nat.beq v.cells.length 1 && !b.ro) ((b.storeA off v.cells).map fun b' => h.put id (.cells b')) none⟩ := by kernel_rfl
attribute [go_sem] st_23
theorem part_23 (cs : List CV) (off : Nat) : partT Go.Proofs.Tryd.prog 23 cs off = nth cs off := by kernel_rfl
attribute [go_sem] part_23
theorem ze_23 : zeroT Go.Proofs.Tryd.prog 23 = some (.int .u64 0) := by kernel_rfl
attribute [go_sem] ze_23
theorem sz_24 : szOf Go.Proofs.Tryd.prog 24 = some 1 := by kernel_rfl
attribute [go_sem] sz_24
theorem ld_24 (h : H) (id off : Nat) : loadT Go.Proofs.Tryd.prog h 24 id off = @thn _ _ (h.blk id) ⟨fun b => b.get off⟩ := by kernel_rfl
attribute [go_sem] ld_24
theorem st_24 (h : H) (id off : Nat) (v : CV) : storeT Go.Proofs.Tryd.prog h 24 id off v = @thn _ _ (h.blk id) ⟨fun b => cond (Nat.beq v.cells.length 1 && !b.ro) ((b.storeA off v.cells).map fun b' => h.put id (.cells b')) none⟩ := by kernel_rfl
attribute [go_sem] st_24
theorem part_24 (cs : List CV) (off : Nat) : partT Go.Proofs.Tryd.prog 24 cs off = nth cs off := by kernel_rfl
attribute [go_sem] part_24
theorem ze_24 : zeroT Go.Proofs.Tryd.prog 24 = some (.nils) := by kernel_rfl
attribute [go_sem] ze_24
theorem ia_24 (id off len k : Nat) (c : Cap) (kd : IntKind) : indexAddrT Go.Proofs.Tryd.prog 24 (.sl id off len c) (.int kd (Int.ofNat k)) = cond (Nat.blt k len) (some (.ptr id (off + k * 1))) none := by kernel_rfl
attribute [go_sem] ia_24
theorem len_24 (h : H) (id off len : Nat) (c : Cap) (ts : List TypeId) (az : List CV) : builtinT Go.Proofs.Tryd.prog h .len (24 :: ts) (.sl id off len c :: az) = some (.val (.int .i64 (Int.ofNat len))) := by kernel_rfl
attribute [go_sem] len_24
theorem len_24_n (h : H) (ts : List TypeId) (az : List CV) : builtinT Go.Proofs.Tryd.prog h .len (24 :: ts) (.nils :: az) = some (.val (.int .i64 0)) := by kernel_rfl
attribute [go_sem] len_24_n
theorem app_24 (h : H) (s : CV) (id off len : Nat) (c : Cap) (ts : List TypeId) (az : List CV) : builtinT Go.Proofs.Tryd.prog h .append (24 :: 24 :: ts) (s :: .sl id off len c :: az) = uv (appendT Go.Proofs.Tryd.prog h 24 s (.sl id off len c)) := by kernel_rfl
attribute [go_sem] app_24
theorem app_24_n (h : H) (s : CV) (ts : List TypeId) (az : List CV) : builtinT Go.Proofs.Tryd.prog h .append (24 :: 24 :: ts) (s :: .nils :: az) = uv (appendT Go.Proofs.Tryd.prog h 24 s .nils) := by kernel_rfl
attribute [go_sem] app_24_n
theorem ap_24 (h : H) (s : CV) (id off len : Nat) (c : Cap) : appendT Go.Proofs.Tryd.prog h 24 s (.sl id off len c) = appS h 1 1 1 s len (firstC h 1 len (.sl id off len c)) := by kernel_rfl
attribute [go_sem] ap_24
theorem ap_24_n (h : H) (s : CV) : appendT Go.Proofs.Tryd.prog h 24 s .nils = appS h 1 1 1 s 0 (some []) := by kernel_rfl
attribute [go_sem] ap_24_n
theorem ap_24_z (h : H) (s : CV) (a b c d : Nat) : appendT Go.Proofs.Tryd.prog h 24 s (.sl0 a b c d) = appS h 1 1 1 s 0 (some []) := by kernel_rfl
attribute [go_sem] ap_24_z
theorem bs_24 (h : H) (n : Nat) (parts : List (Nat × CV)) : buildSliceT Go.Proofs.Tryd.prog h 24 n parts = bslS h 1 (CV.cells (.int .u8 0)) n parts := by kernel_rfl
attribute [go_sem] bs_24
theorem ms_24 (h : H) (l c : Nat) (k k' : IntKind) : makeSliceT Go.Proofs.Tryd.prog h 24 (.int k (Int.ofNat l)) (.int k' (Int.ofNat c)) = mkS h 1 1 (zeroT Go.Proofs.Tryd.prog 5) l c := by kernel_rfl
attribute [go_sem] ms_24
theorem eq_24 (xo yo : Operand) (a b c : Nat) (d : Cap) : binT Go.Proofs.Tryd.prog .eql 24 xo yo (.sl a b c d) .nils = some (.bool false) := by kernel_rfl
attribute [go_sem] eq_24
theorem eq_24_n (xo yo : Operand) : binT Go.Proofs.Tryd.prog .eql 24 xo yo .nils .nils = some (.bool true) := by kernel_rfl
attribute [go_sem] eq_24_n
theorem eq_24_z (xo yo : Operand) (a b c d : Nat) : binT Go.Proofs.Tryd.prog .eql 24 xo yo (.sl0 a b c d) .nils = some (.bool false) := by kernel_rfl
attribute [go_sem] eq_24_z
theorem ne_24 (xo yo : Operand) (a b c : Nat) (d : Cap) : binT Go.Proofs.Tryd.prog .neq 24 xo yo (.sl a b c d) .nils = some (.bool true) := by kernel_rfl
attribute [go_sem] ne_24
theorem ne_24_n (xo yo : Operand) : binT Go.Proofs.Tryd.prog .neq 24 xo yo .nils .nils = some (.bool false) := by kernel_rfl
attribute [go_sem] ne_24_n
theorem ne_24_z (xo yo : Operand) (a b c d : Nat) : binT Go.Proofs.Tryd.prog .neq 24 xo yo (.sl0 a b c d) .nils = some (.bool true) := by kernel_rfl
attribute [go_sem] ne_24_z
theorem len_24_z (h : H) (a b c d : Nat) (ts : List TypeId) (az : List CV) : builtinT Go.Proofs.Tryd.prog h .len (24 :: ts) (.sl0 a b c d :: az) = some (.val (.int .i64 0)) := by kernel_rfl
attribute [go_sem] len_24_z
theorem app_24_z (h : H) (s : CV) (a b c d : Nat) (ts : List TypeId) (az : List CV) : builtinT Go.Proofs.Tryd.prog h .append (24 :: 24 :: ts) (s :: .sl0 a b c d :: az) = uv (appendT Go.Proofs.Tryd.prog h 24 s (.sl0 a b c d)) := by kernel_rfl
attribute [go_sem] app_24_z
theorem sz_25 : szOf Go.Proofs.Tryd.prog 25 = some 6 := by kernel_rfl
attribute [go_sem] sz_25
theorem ld_25 (h : H) (id off : Nat) : loadT Go.Proofs.Tryd.prog h 25 id off = @thn _ _ (h.blk id) ⟨fun b => (b.loadN off 6).map .agg⟩ := by kernel_rfl
attribute [go_sem] ld_25
theorem st_25 (h : H) (id off : Nat) (v : CV) : storeT Go.Proofs.Tryd.prog h 25 id off v = @thn _ _ (h.blk id) ⟨fun b => cond (Nat.beq v.cells.length 6 && !b.ro) ((b.storeA off v.cells).map fun b' => h.put id (.cells b')) none⟩ := by kernel_rfl
attribute [go_sem] st_25
theorem part_25 (cs : List CV) (off : Nat) : partT Go.Proofs.Tryd.prog 25 cs off = some (.agg ((cs.drop off).take 6)) := by kernel_rfl
attribute [go_sem] part_25
theorem ze_25 : zeroT Go.Proofs.Tryd.prog 25 = some (.agg [.int .i64 0, .int .u64 0, .int .u64 0, .int .u64 0, .int .u64 0, .nils]) := by kernel_rfl
attribute [go_sem] ze_25
theorem bt_25 (parts : List (Nat × CV)) : buildT Go.Proofs.Tryd.prog 25 parts = finB (CV.cells (.agg [.int .i64 0, .int .u64 0, .int .u64 0, .int .u64 0, .int .u64 0, .nils])) (nth [(0, 1), (1, 1), (2, 1), (3, 1), (4, 1), (5, 1)]) parts := by kernel_rfl
attribute [go_sem] bt_25
theorem fa_25_0 (id off : Nat) : fieldAddrT Go.Proofs.Tryd.prog 25 (.ptr id off) 0 = some (.ptr id (off)) := by kernel_rfl
attribute [go_sem] fa_25_0
theorem fd_25_0 (cs : List CV) : fieldT Go.Proofs.Tryd.prog 25 (.agg cs) 0 = partT Go.Proofs.Tryd.prog 22 cs 0 := by kernel_rfl
attribute [go_sem] fd_25_0
theorem fa_25_1 (id off : Nat) : fieldAddrT Go.Proofs.Tryd.prog 25 (.ptr id off) 1 = some (.ptr id (off + 1)) := by kernel_rfl
attribute [go_sem] fa_25_1
theorem fd_25_1 (cs : List CV) : fieldT Go.Proofs.Tryd.prog 25 (.agg cs) 1 = partT Go.Proofs.Tryd.prog 23 cs 1 := by kernel_rfl
attribute [go_sem] fd_25_1
theorem fa_25_2 (id off : Nat) : fieldAddrT Go.Proofs.Tryd.prog 25 (.ptr id off) 2 = some (.ptr id (off + 2)) := by kernel_rfl
attribute [go_sem] fa_25_2
theorem fd_25_2 (cs : List CV) : fieldT Go.Proofs.Tryd.prog 25 (.agg cs) 2 = partT Go.Proofs.Tryd.prog 23 cs 2 := by kernel_rfl
attribute [go_sem] fd_25_2
theorem fa_25_3 (id off : Nat) : fieldAddrT Go.Proofs.Tryd.prog 25 (.ptr id off) 3 = some (.ptr id (off + 3)) := by kernel_rfl
attribute [go_sem] fa_25_3
theorem fd_25_3 (cs : List CV) : fieldT Go.Proofs.Tryd.prog 25 (.agg cs) 3 = partT Go.Proofs.Tryd.prog 23 cs 3 := by kernel_rfl
attribute [go_sem] fd_25_3
theorem fa_25_4 (id off : Nat) : fieldAddrT Go.Proofs.Tryd.prog 25 (.ptr id off) 4 = some (.ptr id (off + 4)) := by kernel_rfl
attribute [go_sem] fa_25_4
theorem fd_25_4 (cs : List CV) : fieldT Go.Proofs.Tryd.prog 25 (.agg cs) 4 = partT Go.Proofs.Tryd.prog 23 cs 4 := by kernel_rfl
attribute [go_sem] fd_25_4
theorem fa_25_5 (id off : Nat) : fieldAddrT Go.Proofs.Tryd.prog 25 (.ptr id off) 5 = some (.ptr id (off + 5)) := by kernel_rfl
attribute [go_sem] fa_25_5
theorem fd_25_5 (cs : List CV) : fieldT Go.Proofs.Tryd.prog 25 (.agg cs) 5 = partT Go.Proofs.Tryd.prog 24 cs 5 := by kernel_rfl
attribute [go_sem] fd_25_5
theorem sz_26 : szOf Go.Proofs.Tryd.prog 26 = some 6 := by kernel_rfl
attribute [go_sem] sz_26
theorem ld_26 (h : H) (id off : Nat) : loadT Go.Proofs.Tryd.prog h 26 id off = @thn _ _ (h.blk id) ⟨fun b => (b.loadN off 6).map .agg⟩ := by kernel_rfl
attribute [go_sem] ld_26
theorem st_26 (h : H) (id off : Nat) (v : CV) : storeT Go.Proofs.Tryd.prog h 26 id off v = @thn _ _ (h.blk id) ⟨fun b => cond (Nat.beq v.cells.length 6 && !b.ro) ((b.storeA off v.cells).map fun b' => h.put id (.cells b')) none⟩ := by kernel_rfl
attribute [go_sem] st_26
theorem part_26 (cs : List CV) (off : Nat) : partT Go.Proofs.Tryd.prog 26 cs off = some (.agg ((cs.drop off).take 6)) := by kernel_rfl
attribute [go_sem] part_26
theorem ze_26 : zeroT Go.Proofs.Tryd.prog 26 = some (.agg [.int .i64 0, .int .u64 0, .int .u64 0, .int .u64 0, .int .u64 0, .nils]) := by kernel_rfl
attribute [go_sem] ze_26
theorem bt_26 (parts : List (Nat × CV)) : buildT Go.Proofs.Tryd.prog 26 parts = finB (CV.cells (.agg [.int .i64 0, .int .u64 0, .int .u64 0, .int .u64 0, .int .u64 0, .nils])) (nth [(0, 1), (1, 1), (2, 1), (3, 1), (4, 1), (5, 1)]) parts := by kernel_rfl
attribute [go_sem] bt_26
theorem fa_26_0 (id off : Nat) : fieldAddrT Go.Proofs.Tryd.prog 26 (.ptr id off) 0 = some (.ptr id (off)) := by kernel_rfl
attribute [go_sem] fa_26_0
theorem fd_26_0 (cs : List CV) : fieldT Go.Proofs.Tryd.prog 26 (.agg cs) 0 = partT Go.Proofs.Tryd.prog 22 cs 0 := by kernel_rfl
attribute [go_sem] fd_26_0
theorem fa_26_1 (id off : Nat) : fieldAddrT Go.Proofs.Tryd.prog 26 (.ptr id off) 1 = some (.ptr id (off + 1)) := by kernel_rfl
attribute [go_sem] fa_26_1
theorem fd_26_1 (cs : List CV) : fieldT Go.Proofs.Tryd.prog 26 (.agg cs) 1 = partT Go.Proofs.Tryd.prog 23 cs 1 := by kernel_rfl
attribute [go_sem] fd_26_1
theorem fa_26_2 (id off : Nat) : fieldAddrT Go.Proofs.Tryd.prog 26 (.ptr id off) 2 = some (.ptr id (off + 2)) := by kernel_rfl
attribute [go_sem] fa_26_2
theorem fd_26_2 (cs : List CV) : fieldT Go.Proofs.Tryd.prog 26 (.agg cs) 2 = partT Go.Proofs.Tryd.prog 23 cs 2 := by kernel_rfl
attribute [go_sem] fd_26_2
theorem fa_26_3 (id off : Nat) : fieldAddrT Go.Proofs.Tryd.prog 26 (.ptr id off) 3 = some (.ptr id (off + 3)) := by kernel_rfl
attribute [go_sem] fa_26_3
theorem fd_26_3 (cs : List CV) : fieldT Go.Proofs.Tryd.prog 26 (.agg cs) 3 = partT Go.Proofs.Tryd.prog 23 cs 3 := by kernel_rfl
attribute [go_sem] fd_26_3
theorem fa_26_4 (id off : Nat) : fieldAddrT Go.Proofs.Tryd.prog 26 (.ptr id off) 4 = some (.ptr id (off + 4)) := by kernel_rfl
attribute [go_sem] fa_26_4
theorem fd_26_4 (cs : List CV) : fieldT Go.Proofs.Tryd.prog 26 (.agg cs) 4 = partT Go.Proofs.Tryd.prog 23 cs 4 := by kernel_rfl
attribute [go_sem] fd_26_4
theorem fa_26_5 (id off : Nat) : fieldAddrT Go.Proofs.Tryd.prog 26 (.ptr id off) 5 = some (.ptr id (off + 5)) := by kernel_rfl
attribute [go_sem] fa_26_5
theorem fd_26_5 (cs : List CV) : fieldT Go.Proofs.Tryd.prog 26 (.agg cs) 5 = partT Go.Proofs.Tryd.prog 24 cs 5 := by kernel_rfl
attribute [go_sem] fd_26_5
theorem sz_27 : szOf Go.Proofs.Tryd.prog 27 = some 1 := by kernel_rfl
attribute [go_sem] sz_27
theorem ld_27 (h : H) (id off : Nat) : loadT Go.Proofs.Tryd.prog h 27 id off = @thn _ _ (h.blk id) ⟨fun b => b.get off⟩ := by kernel_rfl
attribute [go_sem] ld_27
theorem st_27 (h : H) (id off : Nat) (v : CV) : storeT Go.Proofs.Tryd.prog h 27 id off v = @thn _ _ (h.blk id) ⟨fun b => cond (Nat.beq v.cells.length 1 && !b.ro) ((b.storeA off v.cells).map fun b' => h.put id (.cells b')) none⟩ := by kernel_rfl
attribute [go_sem] st_27
theorem part_27 (cs : List CV) (off : Nat) : partT Go.Proofs.Tryd.prog 27 cs off = nth cs off := by kernel_rfl
attribute [go_sem] part_27
theorem ze_27 : zeroT Go.Proofs.Tryd.prog 27 = some (.int .i64 0) := by kernel_rfl
attribute [go_sem] ze_27
theorem sz_28 : szOf Go.Proofs.Tryd.prog 28 = some 1 := by kernel_rfl
attribute [go_sem] sz_28
theorem ld_28 (h : H) (id off : Nat) : loadT Go.Proofs.Tryd.prog h 28 id off = @thn _ _ (h.blk id) ⟨fun b => b.get off⟩ := by kernel_rfl
attribute [go_sem] ld_28
theorem st_28 (h : H) (id off : Nat) (v : CV) : storeT Go.Proofs.Tryd.prog h 28 id off v = @thn _ _ (h.blk id) ⟨fun b => cond (Nat.beq v.cells.length 1 && !b.ro) ((b.storeA off v.cells).map fun b' => h.put id (.cells b')) none⟩ := by kernel_rfl
attribute [go_sem] st_28
theorem part_28 (cs : List CV) (off : Nat) : partT Go.Proofs.Tryd.prog 28 cs off = nth cs off := by kernel_rfl
attribute [go_sem] part_28
theorem sz_29 : szOf Go.Proofs.Tryd.prog 29 = some 1 := by kernel_rfl
attribute [go_sem] sz_29
theorem ld_29 (h : H) (id off : Nat) : loadT Go.Proofs.Tryd.prog h 29 id off = @thn _ _ (h.blk id) ⟨fun b => b.get off⟩ := by kernel_rfl
attribute [go_sem] ld_29
theorem st_29 (h : H) (id off : Nat) (v : CV) : storeT Go.Proofs.Tryd.prog h 29 id off v = @thn _ _ (h.blk id) ⟨fun b => cond (Nat.beq v.cells.length 1 && !b.ro) ((b.storeA off v.cells).map fun b' => h.put id (.cells b')) none⟩ := by kernel_rfl
attribute [go_sem] st_29
theorem part_29 (cs : List CV) (off : Nat) : partT Go.Proofs.Tryd.prog 29 cs off = nth cs off := by kernel_rfl
attribute [go_sem] part_29
theorem ze_29 : zeroT Go.Proofs.Tryd.prog 29 = some (.nilf) := by kernel_rfl
attribute [go_sem] ze_29
theorem eq_29 (xo yo : Operand) (f : Fn) (a b : List CV) : binT Go.Proofs.Tryd.prog .eql 29 xo yo (.fn f a b) .nilf = some (.bool false) := by kernel_rfl
attribute [go_sem] eq_29
theorem eq_29_n (xo yo : Operand) : binT Go.Proofs.Tryd.prog .eql 29 xo yo .nilf .nilf = some (.bool true) := by kernel_rfl
attribute [go_sem] eq_29_n
theorem ne_29 (xo yo : Operand) (f : Fn) (a b : List CV) : binT Go.Proofs.Tryd.prog .neq 29 xo yo (.fn f a b) .nilf = some (.bool true) := by kernel_rfl
attribute [go_sem] ne_29
theorem ne_29_n (xo yo : Operand) : binT Go.Proofs.Tryd.prog .neq 29 xo yo .nilf .nilf = some (.bool false) := by kernel_rfl
attribute [go_sem] ne_29_n
theorem sz_30 : szOf Go.Proofs.Tryd.prog 30 = some 1 := by kernel_rfl
attribute [go_sem] sz_30
theorem ld_30 (h : H) (id off : Nat) : loadT Go.Proofs.Tryd.prog h 30 id off = @thn _ _ (h.blk id) ⟨fun b => b.get off⟩ := by kernel_rfl
attribute [go_sem] ld_30
theorem st_30 (h : H) (id off : Nat) (v : CV) : storeT Go.Proofs.Tryd.prog h 30 id off v = @thn _ _ (h.blk id) ⟨fun b => cond (Nat.beq v.cells.length 1 && !b.ro) ((b.storeA off v.cells).map fun b' => h.put id (.cells b')) none⟩ := by kernel_rfl
attribute [go_sem] st_30
theorem part_30 (cs : List CV) (off : Nat) : partT Go.Proofs.Tryd.prog 30 cs off = nth cs off := by kernel_rfl
attribute [go_sem] part_30
theorem ze_30 : zeroT Go.Proofs.Tryd.prog 30 = some (.nilf) := by kernel_rfl
attribute [go_sem] ze_30
theorem eq_30 (xo yo : Operand) (f : Fn) (a b : List CV) : binT Go.Proofs.Tryd.prog .eql 30 xo yo (.fn f a b) .nilf = some (.bool false) := by kernel_rfl
attribute [go_sem] eq_30
theorem eq_30_n (xo yo : Operand) : binT Go.Proofs.Tryd.prog .eql 30 xo yo .nilf .nilf = some (.bool true) := by kernel_rfl
attribute [go_sem] eq_30_n
theorem ne_30 (xo yo : Operand) (f : Fn) (a b : List CV) : binT Go.Proofs.Tryd.prog .neq 30 xo yo (.fn f a b) .nilf = some (.bool true) := by kernel_rfl
attribute [go_sem] ne_30
theorem ne_30_n (xo yo : Operand) : binT Go.Proofs.Tryd.prog .neq 30 xo yo .nilf .nilf = some (.bool false) := by kernel_rfl
attribute [go_sem] ne_30_n
theorem sz_31 : szOf Go.Proofs.Tryd.prog 31 = some 1 := by kernel_rfl
attribute [go_sem] sz_31
theorem ld_31 (h : H) (id off : Nat) : loadT Go.Proofs.Tryd.prog h 31 id off = @thn _ _ (h.blk id) ⟨fun b => b.get off⟩ := by kernel_rfl
attribute [go_sem] ld_31
theorem st_31 (h : H) (id off : Nat) (v : CV) : storeT Go.Proofs.Tryd.prog h 31 id off v = @thn _ _ (h.blk id) ⟨fun b => cond (Nat.beq v.cells.length 1 && !b.ro) ((b.storeA off v.cells).map fun b' => h.put id (.cells b')) none⟩ := by kernel_rfl
attribute [go_sem] st_31
theorem part_31 (cs : List CV) (off : Nat) : partT Go.Proofs.Tryd.prog 31 cs off = nth cs off := by kernel_rfl
attribute [go_sem] part_31
theorem ze_31 : zeroT Go.Proofs.Tryd.prog 31 = some (.nilf) := by kernel_rfl
attribute [go_sem] ze_31
theorem eq_31 (xo yo : Operand) (f : Fn) (a b : List CV) : binT Go.Proofs.Tryd.prog .eql 31 xo yo (.fn f a b) .nilf = some (.bool false) := by kernel_rfl
attribute [go_sem] eq_31
theorem eq_31_n (xo yo : Operand) : binT Go.Proofs.Tryd.prog .eql 31 xo yo .nilf .nilf = some (.bool true) := by kernel_rfl
attribute [go_sem] eq_31_n
theorem ne_31 (xo yo : Operand) (f : Fn) (a b : List CV) : binT Go.Proofs.Tryd.prog .neq 31 xo yo (.fn f a b) .nilf = some (.bool true) := by kernel_rfl
attribute [go_sem] ne_31
theorem ne_31_n (xo yo : Operand) : binT Go.Proofs.Tryd.prog .neq 31 xo yo .nilf .nilf = some (.bool false) := by kernel_rfl
attribute [go_sem] ne_31_n
theorem sz_32 : szOf Go.Proofs.Tryd.prog 32 = some 1 := by kernel_rfl
attribute [go_sem] sz_32
theorem ld_32 (h : H) (id off : Nat) : loadT Go.Proofs.Tryd.prog h 32 id off = @thn _ _ (h.blk id) ⟨fun b => b.get off⟩ := by kernel_rfl
attribute [go_sem] ld_32
theorem st_32 (h : H) (id off : Nat) (v : CV) : storeT Go.Proofs.Tryd.prog h 32 id off v = @thn _ _ (h.blk id) ⟨fun b => cond (Nat.beq v.cells.length 1 && !b.ro) ((b.storeA off v.cells).map fun b' => h.put id (.cells b')) none⟩ := by kernel_rfl
attribute [go_sem] st_32
theorem part_32 (cs : List CV) (off : Nat) : partT Go.Proofs.Tryd.prog 32 cs off = nth cs off := by kernel_rfl
attribute [go_sem] part_32
theorem ze_32 : zeroT Go.Proofs.Tryd.prog 32 = some (.nilf) := by kernel_rfl
attribute [go_sem] ze_32
theorem eq_32 (xo yo : Operand) (f : Fn) (a b : List CV) : binT Go.Proofs.Tryd.prog .eql 32 xo yo (.fn f a b) .nilf = some (.bool false) := by kernel_rfl
attribute [go_sem] eq_32
theorem eq_32_n (xo yo : Operand) : binT Go.Proofs.Tryd.prog .eql 32 xo yo .nilf .nilf = some (.bool true) := by kernel_rfl
attribute [go_sem] eq_32_n
theorem ne_32 (xo yo : Operand) (f : Fn) (a b : List CV) : binT Go.Proofs.Tryd.prog .neq 32 xo yo (.fn f a b) .nilf = some (.bool true) := by kernel_rfl
attribute [go_sem] ne_32
theorem ne_32_n (xo yo : Operand) : binT Go.Proofs.Tryd.prog .neq 32 xo yo .nilf .nilf = some (.bool false) := by kernel_rfl
attribute [go_sem] ne_32_n
theorem sz_33 : szOf Go.Proofs.Tryd.prog 33 = some 1 := by kernel_rfl
attribute [go_sem] sz_33
theorem ld_33 (h : H) (id off : Nat) : loadT Go.Proofs.Tryd.prog h 33 id off = @thn _ _ (h.blk id) ⟨fun b => b.get off⟩ := by kernel_rfl
attribute [go_sem] ld_33
theorem st_33 (h : H) (id off : Nat) (v : CV) : storeT Go.Proofs.Tryd.prog h 33 id off v = @thn _ _ (h.blk id) ⟨fun b => cond (Nat.beq v.cells.length 1 && !b.ro) ((b.storeA off v.cells).map fun b' => h.put id (.cells b')) none⟩ := by kernel_rfl
attribute [go_sem] st_33
theorem part_33 (cs : List CV) (off : Nat) : partT Go.Proofs.Tryd.prog 33 cs off = nth cs off := by kernel_rfl
attribute [go_sem] part_33
theorem sz_34 : szOf Go.Proofs.Tryd.prog 34 = some 1 := by kernel_rfl
attribute [go_sem] sz_34
theorem ld_34 (h : H) (id off : Nat) : loadT Go.Proofs.Tryd.prog h 34 id off = @thn _ _ (h.blk id) ⟨fun b => b.get off⟩ := by kernel_rfl
attribute [go_sem] ld_34
theorem st_34 (h : H) (id off : Nat) (v : CV) : storeT Go.Proofs.Tryd.prog h 34 id off v = @thn _ _ (h.blk id) ⟨fun b => cond (Nat.beq v.cells.length 1 && !b.ro) ((b.storeA off v.cells).map fun b' => h.put id (.cells b')) none⟩ := by kernel_rfl
attribute [go_sem] st_34
theorem part_34 (cs : List CV) (off : Nat) : partT Go.Proofs.Tryd.prog 34 cs off = nth cs off := by kernel_rfl
attribute [go_sem] part_34
theorem ze_34 : zeroT Go.Proofs.Tryd.prog 34 = some (.nilf) := by kernel_rfl
attribute [go_sem] ze_34
theorem eq_34 (xo yo : Operand) (f : Fn) (a b : List CV) : binT Go.Proofs.Tryd.prog .eql 34 xo yo (.fn f a b) .nilf = some (.bool false) := by kernel_rfl
attribute [go_sem] eq_34
theorem eq_34_n (xo yo : Operand) : binT Go.Proofs.Tryd.prog .eql 34 xo yo .nilf .nilf = some (.bool true) := by kernel_rfl
attribute [go_sem] eq_34_n
theorem ne_34 (xo yo : Operand) (f : Fn) (a b : List CV) : binT Go.Proofs.Tryd.prog .neq 34 xo yo (.fn f a b) .nilf = some (.bool true) := by kernel_rfl
attribute [go_sem] ne_34
theorem ne_34_n (xo yo : Operand) : binT Go.Proofs.Tryd.prog .neq 34 xo yo .nilf .nilf = some (.bool false) := by kernel_rfl
attribute [go_sem] ne_34_n
theorem sz_35 : szOf Go.Proofs.Tryd.prog 35 = some 1 := by kernel_rfl
attribute [go_sem] sz_35
theorem ld_35 (h : H) (id off : Nat) : loadT Go.Proofs.Tryd.prog h 35 id off = @thn _ _ (h.blk id) ⟨fun b => b.get off⟩ := by kernel_rfl
attribute [go_sem] ld_35
theorem st_35 (h : H) (id off : Nat) (v : CV) : storeT Go.Proofs.Tryd.prog h 35 id off v = @thn _ _ (h.blk id) ⟨fun b => cond (Nat.beq v.cells.length 1 && !b.ro) ((b.storeA off v.cells).map fun b' => h.put id (.cells b')) none⟩ := by kernel_rfl
attribute [go_sem] st_35
theorem part_35 (cs : List CV) (off : Nat) : partT Go.Proofs.Tryd.prog 35 cs off = nth cs off := by kernel_rfl
attribute [go_sem] part_35
theorem sz_36 : szOf Go.Proofs.Tryd.prog 36 = some 1 := by kernel_rfl
attribute [go_sem] sz_36
theorem ld_36 (h : H) (id off : Nat) : loadT Go.Proofs.Tryd.prog h 36 id off = @thn _ _ (h.blk id) ⟨fun b => b.get off⟩ := by kernel_rfl
attribute [go_sem] ld_36
theorem st_36 (h : H) (id off : Nat) (v : CV) : storeT Go.Proofs.Tryd.prog h 36 id off v = @thn _ _ (h.blk id) ⟨fun b => cond (Nat.beq v.cells.length 1 && !b.ro) ((b.storeA off v.cells).map fun b' => h.put id (.cells b')) none⟩ := by kernel_rfl
attribute [go_sem] st_36
theorem part_36 (cs : List CV) (off : Nat) : partT Go.Proofs.Tryd.prog 36 cs off = nth cs off := by kernel_rfl
attribute [go_sem] part_36
theorem ze_36 : zeroT Go.Proofs.Tryd.prog 36 = some (.nilf) := by kernel_rfl
attribute [go_sem] ze_36
theorem eq_36 (xo yo : Operand) (f : Fn) (a b : List CV) : binT Go.Proofs.Tryd.prog .eql 36 xo yo (.fn f a b) .nilf = some (.bool false) := by kernel_rfl
attribute [go_sem] eq_36
theorem eq_36_n (xo yo : Operand) : binT Go.Proofs.Tryd.prog .eql 36 xo yo .nilf .nilf = some (.bool true) := by kernel_rfl
attribute [go_sem] eq_36_n
theorem ne_36 (xo yo : Operand) (f : Fn) (a b : List CV) : binT Go.Proofs.Tryd.prog .neq 36 xo yo (.fn f a b) .nilf = some (.bool true) := by kernel_rfl
attribute [go_sem] ne_36
theorem ne_36_n (xo yo : Operand) : binT Go.Proofs.Tryd.prog .neq 36 xo yo .nilf .nilf = some (.bool false) := by kernel_rfl
attribute [go_sem] ne_36_n
theorem sz_37 : szOf Go.Proofs.Tryd.prog 37 = some 1 := by kernel_rfl
attribute [go_sem] sz_37
theorem ld_37 (h : H) (id off : Nat) : loadT Go.Proofs.Tryd.prog h 37 id off = @thn _ _ (h.blk id) ⟨fun b => b.get off⟩ := by kernel_rfl
attribute [go_sem] ld_37
theorem st_37 (h : H) (id off : Nat) (v : CV) : storeT Go.Proofs.Tryd.prog h 37 id off v = @thn _ _ (h.blk id) ⟨fun b => cond (Nat.beq v.cells.length 1 && !b.ro) ((b.storeA off v.cells).map fun b' => h.put id (.cells b')) none⟩ := by kernel_rfl
attribute [go_sem] st_37
theorem part_37 (cs : List CV) (off : Nat) : partT Go.Proofs.Tryd.prog 37 cs off = nth cs off := by kernel_rfl
attribute [go_sem] part_37
theorem ze_37 : zeroT Go.Proofs.Tryd.prog 37 = some (.nilf) := by kernel_rfl
attribute [go_sem] ze_37
theorem eq_37 (xo yo : Operand) (f : Fn) (a b : List CV) : binT Go.Proofs.Tryd.prog .eql 37 xo yo (.fn f a b) .nilf = some (.bool false) := by kernel_rfl
attribute [go_sem] eq_37
theorem eq_37_n (xo yo : Operand) : binT Go.Proofs.Tryd.prog .eql 37 xo yo .nilf .nilf = some (.bool true) := by kernel_rfl
attribute [go_sem] eq_37_n
theorem ne_37 (xo yo : Operand) (f : Fn) (a b : List CV) : binT Go.Proofs.Tryd.prog .neq 37 xo yo (.fn f a b) .nilf = some (.bool true) := by kernel_rfl
attribute [go_sem] ne_37
theorem ne_37_n (xo yo : Operand) : binT Go.Proofs.Tryd.prog .neq 37 xo yo .nilf .nilf = some (.bool false) := by kernel_rfl
attribute [go_sem] ne_37_n
theorem sz_38 : szOf Go.Proofs.Tryd.prog 38 = some 1 := by kernel_rfl
attribute [go_sem] sz_38
theorem ld_38 (h : H) (id off : Nat) : loadT Go.Proofs.Tryd.prog h 38 id off = @thn _ _ (h.blk id) ⟨fun b => b.get off⟩ := by kernel_rfl
attribute [go_sem] ld_38
theorem st_38 (h : H) (id off : Nat) (v : CV) : storeT Go.Proofs.Tryd.prog h 38 id off v = @thn _ _ (h.blk id) ⟨fun b => cond (Nat.beq v.cells.length 1 && !b.ro) ((b.storeA off v.cells).map fun b' => h.put id (.cells b')) none⟩ := by kernel_rfl
attribute [go_sem] st_38
theorem part_38 (cs : List CV) (off : Nat) : partT Go.Proofs.Tryd.prog 38 cs off = nth cs off := by kernel_rfl
attribute [go_sem] part_38
theorem ze_38 : zeroT Go.Proofs.Tryd.prog 38 = some (.nilf) := by kernel_rfl
attribute [go_sem] ze_38
theorem eq_38 (xo yo : Operand) (f : Fn) (a b : List CV) : binT Go.Proofs.Tryd.prog .eql 38 xo yo (.fn f a b) .nilf = some (.bool false) := by kernel_rfl
attribute [go_sem] eq_38
theorem eq_38_n (xo yo : Operand) : binT Go.Proofs.Tryd.prog .eql 38 xo yo .nilf .nilf = some (.bool true) := by kernel_rfl
attribute [go_sem] eq_38_n
theorem ne_38 (xo yo : Operand) (f : Fn) (a b : List CV) : binT Go.Proofs.Tryd.prog .neq 38 xo yo (.fn f a b) .nilf = some (.bool true) := by kernel_rfl
attribute [go_sem] ne_38
theorem ne_38_n (xo yo : Operand) : binT Go.Proofs.Tryd.prog .neq 38 xo yo .nilf .nilf = some (.bool false) := by kernel_rfl
attribute [go_sem] ne_38_n
theorem sz_39 : szOf Go.Proofs.Tryd.prog 39 = some 256 := by kernel_rfl
attribute [go_sem] sz_39
theorem ld_39 (h : H) (id off : Nat) : loadT Go.Proofs.Tryd.prog h 39 id off = @thn _ _ (h.blk id) ⟨fun b => (b.loadN off 256).map .agg⟩ := by kernel_rfl
attribute [go_sem] ld_39
theorem st_39 (h : H) (id off : Nat) (v : CV) : storeT Go.Proofs.Tryd.prog h 39 id off v = @thn _ _ (h.blk id) ⟨fun b => cond (Nat.beq v.cells.length 256 && !b.ro) ((b.storeA off v.cells).map fun b' => h.put id (.cells b')) none⟩ := by kernel_rfl
attribute [go_sem] st_39
theorem part_39 (cs : List CV) (off : Nat) : partT Go.Proofs.Tryd.prog 39 cs off = some (.agg ((cs.drop off).take 256)) := by kernel_rfl
attribute [go_sem] part_39
theorem ia_39 (id off k : Nat) (kd : IntKind) : indexAddrT Go.Proofs.Tryd.prog 39 (.ptr id off) (.int kd (Int.ofNat k)) = cond (Nat.blt k 256) (some (.ptr id (off + k * 1))) none := by kernel_rfl
attribute [go_sem] ia_39
theorem ix_39 (cs : List CV) (k : Nat) (kd : IntKind) : indexT Go.Proofs.Tryd.prog 39 (.agg cs) (.int kd (Int.ofNat k)) = cond (Nat.blt k 256) (partT Go.Proofs.Tryd.prog 5 cs (k * 1)) none := by kernel_rfl
attribute [go_sem] ix_39
theorem len_39 (h : H) (ts : List TypeId) (az : List CV) (a : CV) : builtinT Go.Proofs.Tryd.prog h .len (39 :: ts) (a :: az) = some (.val (.int .i64 256)) := by kernel_rfl
attribute [go_sem] len_39
theorem sz_40 : szOf Go.Proofs.Tryd.prog 40 = some 256 := by kernel_rfl
attribute [go_sem] sz_40
theorem ld_40 (h : H) (id off : Nat) : loadT Go.Proofs.Tryd.prog h 40 id off = @thn _ _ (h.blk id) ⟨fun b => (b.loadN off 256).map .agg⟩ := by kernel_rfl
attribute [go_sem] ld_40
theorem st_40 (h : H) (id off : Nat) (v : CV) : storeT Go.Proofs.Tryd.prog h 40 id off v = @thn _ _ (h.blk id) ⟨fun b => cond (Nat.beq v.cells.length 256 && !b.ro) ((b.storeA off v.cells).map fun b' => h.put id (.cells b')) none⟩ := by kernel_rfl
attribute [go_sem] st_40
theorem part_40 (cs : List CV) (off : Nat) : partT Go.Proofs.Tryd.prog 40 cs off = some (.agg ((cs.drop off).take 256)) := by kernel_rfl
attribute [go_sem] part_40
theorem ia_40 (id off k : Nat) (kd : IntKind) : indexAddrT Go.Proofs.Tryd.prog 40 (.ptr id off) (.int kd (Int.ofNat k)) = cond (Nat.blt k 256) (some (.ptr id (off + k * 1))) none := by kernel_rfl
attribute [go_sem] ia_40
theorem ix_40 (cs : List CV) (k : Nat) (kd : IntKind) : indexT Go.Proofs.Tryd.prog 40 (.agg cs) (.int kd (Int.ofNat k)) = cond (Nat.blt k 256) (partT Go.Proofs.Tryd.prog 5 cs (k * 1)) none := by kernel_rfl
attribute [go_sem] ix_40
theorem len_40 (h : H) (ts : List TypeId) (az : List CV) (a : CV) : builtinT Go.Proofs.Tryd.prog h .len (40 :: ts) (a :: az) = some (.val (.int .i64 256)) := by kernel_rfl
attribute [go_sem] len_40
theorem sz_41 : szOf Go.Proofs.Tryd.prog 41 = some 1 := by kernel_rfl
attribute [go_sem] sz_41
theorem ld_41 (h : H) (id off : Nat) : loadT Go.Proofs.Tryd.prog h 41 id off = @thn _ _ (h.blk id) ⟨fun b => b.get off⟩ := by kernel_rfl
attribute [go_sem] ld_41
theorem st_41 (h : H) (id off : Nat) (v : CV) : storeT Go.Proofs.Tryd.prog h 41 id off v = @thn _ _ (h.blk id) ⟨fun b => cond (Nat.beq v.cells.length 1 && !b.ro) ((b.storeA off v.cells).map fun b' => h.put id (.cells b')) none⟩ := by kernel_rfl
attribute [go_sem] st_41
theorem part_41 (cs : List CV) (off : Nat) : partT Go.Proofs.Tryd.prog 41 cs off = nth cs off := by kernel_rfl
attribute [go_sem] part_41
theorem ze_41 : zeroT Go.Proofs.Tryd.prog 41 = some (.nilf) := by kernel_rfl
attribute [go_sem] ze_41
theorem eq_41 (xo yo : Operand) (f : Fn) (a b : List CV) : binT Go.Proofs.Tryd.prog .eql 41 xo yo (.fn f a b) .nilf = some (.bool false) := by kernel_rfl
attribute [go_sem] eq_41
theorem eq_41_n (xo yo : Operand) : binT Go.Proofs.Tryd.prog .eql 41 xo yo .nilf .nilf = some (.bool true) := by kernel_rfl
attribute [go_sem] eq_41_n
theorem ne_41 (xo yo : Operand) (f : Fn) (a b : List CV) : binT Go.Proofs.Tryd.prog .neq 41 xo yo (.fn f a b) .nilf = some (.bool true) := by kernel_rfl
attribute [go_sem] ne_41
theorem ne_41_n (xo yo : Operand) : binT Go.Proofs.Tryd.prog .neq 41 xo yo .nilf .nilf = some (.bool false) := by kernel_rfl
attribute [go_sem] ne_41_n
theorem sz_42 : szOf Go.Proofs.Tryd.prog 42 = some 1 := by kernel_rfl
attribute [go_sem] sz_42
theorem ld_42 (h : H) (id off : Nat) : loadT Go.Proofs.Tryd.prog h 42 id off = @thn _ _ (h.blk id) ⟨fun b => b.get off⟩ := by kernel_rfl
attribute [go_sem] ld_42
theorem st_42 (h : H) (id off : Nat) (v : CV) : storeT Go.Proofs.Tryd.prog h 42 id off v = @thn _ _ (h.blk id) ⟨fun b => cond (Nat.beq v.cells.length 1 && !b.ro) ((b.storeA off v.cells).map fun b' => h.put id (.cells b')) none⟩ := by kernel_rfl
attribute [go_sem] st_42
theorem part_42 (cs : List CV) (off : Nat) : partT Go.Proofs.Tryd.prog 42 cs off = nth cs off := by kernel_rfl
attribute [go_sem] part_42
theorem sz_43 : szOf Go.Proofs.Tryd.prog 43 = some 1 := by kernel_rfl
attribute [go_sem] sz_43
theorem ld_43 (h : H) (id off : Nat) : loadT Go.Proofs.Tryd.prog h 43 id off = @thn _ _ (h.blk id) ⟨fun b => b.get off⟩ := by kernel_rfl
attribute [go_sem] ld_43
theorem st_43 (h : H) (id off : Nat) (v : CV) : storeT Go.Proofs.Tryd.prog h 43 id off v = @thn _ _ (h.blk id) ⟨fun b => cond (Nat.beq v.cells.length 1 && !b.ro) ((b.storeA off v.cells).map fun b' => h.put id (.cells b')) none⟩ := by kernel_rfl
attribute [go_sem] st_43
theorem part_43 (cs : List CV) (off : Nat) : partT Go.Proofs.Tryd.prog 43 cs off = nth cs off := by kernel_rfl
attribute [go_sem] part_43
theorem ze_43 : zeroT Go.Proofs.Tryd.prog 43 = some (.nilf) := by kernel_rfl
attribute [go_sem] ze_43
theorem eq_43 (xo yo : Operand) (f : Fn) (a b : List CV) : binT Go.Proofs.Tryd.prog .eql 43 xo yo (.fn f a b) .nilf = some (.bool false) := by kernel_rfl
attribute [go_sem] eq_43
theorem eq_43_n (xo yo : Operand) : binT Go.Proofs.Tryd.prog .eql 43 xo yo .nilf .nilf = some (.bool true) := by kernel_rfl
attribute [go_sem] eq_43_n
theorem ne_43 (xo yo : Operand) (f : Fn) (a b : List CV) : binT Go.Proofs.Tryd.prog .neq 43 xo yo (.fn f a b) .nilf = some (.bool true) := by kernel_rfl
attribute [go_sem] ne_43
theorem ne_43_n (xo yo : Operand) : binT Go.Proofs.Tryd.prog .neq 43 xo yo .nilf .nilf = some (.bool false) := by kernel_rfl
attribute [go_sem] ne_43_n
theorem sz_44 : szOf Go.Proofs.Tryd.prog 44 = some 1 := by kernel_rfl
attribute [go_sem] sz_44
theorem ld_44 (h : H) (id off : Nat) : loadT Go.Proofs.Tryd.prog h 44 id off = @thn _ _ (h.blk id) ⟨fun b => b.get off⟩ := by kernel_rfl
attribute [go_sem] ld_44
theorem st_44 (h : H) (id off : Nat) (v : CV) : storeT Go.Proofs.Tryd.prog h 44 id off v = @thn _ _ (h.blk id) ⟨fun b => cond (Nat.beq v.cells.length 1 && !b.ro) ((b.storeA off v.cells).map fun b' => h.put id (.cells b')) none⟩ := by kernel_rfl
attribute [go_sem] st_44
theorem part_44 (cs : List CV) (off : Nat) : partT Go.Proofs.Tryd.prog 44 cs off = nth cs off := by kernel_rfl
attribute [go_sem] part_44
theorem sz_45 : szOf Go.Proofs.Tryd.prog 45 = some 1 := by kernel_rfl
attribute [go_sem] sz_45
theorem ld_45 (h : H) (id off : Nat) : loadT Go.Proofs.Tryd.prog h 45 id off = @thn _ _ (h.blk id) ⟨fun b => b.get off⟩ := by kernel_rfl
attribute [go_sem] ld_45
theorem st_45 (h : H) (id off : Nat) (v : CV) : storeT Go.Proofs.Tryd.prog h 45 id off v = @thn _ _ (h.blk id) ⟨fun b => cond (Nat.beq v.cells.length 1 && !b.ro) ((b.storeA off v.cells).map fun b' => h.put id (.cells b')) none⟩ := by kernel_rfl
attribute [go_sem] st_45
theorem part_45 (cs : List CV) (off : Nat) : partT Go.Proofs.Tryd.prog 45 cs off = nth cs off := by kernel_rfl
attribute [go_sem] part_45
theorem ze_45 : zeroT Go.Proofs.Tryd.prog 45 = some (.nilf) := by kernel_rfl
attribute [go_sem] ze_45
theorem eq_45 (xo yo : Operand) (f : Fn) (a b : List CV) : binT Go.Proofs.Tryd.prog .eql 45 xo yo (.fn f a b) .nilf = some (.bool false) := by kernel_rfl
attribute [go_sem] eq_45
theorem eq_45_n (xo yo : Operand) : binT Go.Proofs.Tryd.prog .eql 45 xo yo .nilf .nilf = some (.bool true) := by kernel_rfl
attribute [go_sem] eq_45_n
theorem ne_45 (xo yo : Operand) (f : Fn) (a b : List CV) : binT Go.Proofs.Tryd.prog .neq 45 xo yo (.fn f a b) .nilf = some (.bool true) := by kernel_rfl
attribute [go_sem] ne_45
theorem ne_45_n (xo yo : Operand) : binT Go.Proofs.Tryd.prog .neq 45 xo yo .nilf .nilf = some (.bool false) := by kernel_rfl
attribute [go_sem] ne_45_n
theorem sz_46 : szOf Go.Proofs.Tryd.prog 46 = some 1 := by kernel_rfl
attribute [go_sem] sz_46
theorem ld_46 (h : H) (id off : Nat) : loadT Go.Proofs.Tryd.prog h 46 id off = @thn _ _ (h.blk id) ⟨fun b => b.get off⟩ := by kernel_rfl
attribute [go_sem] ld_46
theorem st_46 (h : H) (id off : Nat) (v : CV) : storeT Go.Proofs.Tryd.prog h 46 id off v = @thn _ _ (h.blk id) ⟨fun b => cond (Nat.beq v.cells.length 1 && !b.ro) ((b.storeA off v.cells).map fun b' => h.put id (.cells b')) none⟩ := by kernel_rfl
attribute [go_sem] st_46
theorem part_46 (cs : List CV) (off : Nat) : partT Go.Proofs.Tryd.prog 46 cs off = nth cs off := by kernel_rfl
attribute [go_sem] part_46
theorem ze_46 : zeroT Go.Proofs.Tryd.prog 46 = some (.nilf) := by kernel_rfl
attribute [go_sem] ze_46
theorem eq_46 (xo yo : Operand) (f : Fn) (a b : List CV) : binT Go.Proofs.Tryd.prog .eql 46 xo yo (.fn f a b) .nilf = some (.bool false) := by kernel_rfl
attribute [go_sem] eq_46
theorem eq_46_n (xo yo : Operand) : binT Go.Proofs.Tryd.prog .eql 46 xo yo .nilf .nilf = some (.bool true) := by kernel_rfl
attribute [go_sem] eq_46_n
theorem ne_46 (xo yo : Operand) (f : Fn) (a b : List CV) : binT Go.Proofs.Tryd.prog .neq 46 xo yo (.fn f a b) .nilf = some (.bool true) := by kernel_rfl
attribute [go_sem] ne_46
theorem ne_46_n (xo yo : Operand) : binT Go.Proofs.Tryd.prog .neq 46 xo yo .nilf .nilf = some (.bool false) := by kernel_rfl
attribute [go_sem] ne_46_n
theorem sz_47 : szOf Go.Proofs.Tryd.prog 47 = some 2 := by kernel_rfl
attribute [go_sem] sz_47
theorem ld_47 (h : H) (id off : Nat) : loadT Go.Proofs.Tryd.prog h 47 id off = @thn _ _ (h.blk id) ⟨fun b => (b.loadN off 2).map .agg⟩ := by kernel_rfl
attribute [go_sem] ld_47
theorem st_47 (h : H) (id off : Nat) (v : CV) : storeT Go.Proofs.Tryd.prog h 47 id off v = @thn _ _ (h.blk id) ⟨fun b => cond (Nat.beq v.cells.length 2 && !b.ro) ((b.storeA off v.cells).map fun b' => h.put id (.cells b')) none⟩ := by kernel_rfl
attribute [go_sem] st_47
theorem part_47 (cs : List CV) (off : Nat) : partT Go.Proofs.Tryd.prog 47 cs off = some (.agg ((cs.drop off).take 2)) := by kernel_rfl
attribute [go_sem] part_47
theorem ze_47 : zeroT Go.Proofs.Tryd.prog 47 = some (.agg [.int .i64 0, .int .u64 0]) := by kernel_rfl
attribute [go_sem] ze_47
theorem bt_47 (parts : List (Nat × CV)) : buildT Go.Proofs.Tryd.prog 47 parts = finB (CV.cells (.agg [.int .i64 0, .int .u64 0])) (nth [(0, 1), (1, 1)]) parts := by kernel_rfl
attribute [go_sem] bt_47
theorem fa_47_0 (id off : Nat) : fieldAddrT Go.Proofs.Tryd.prog 47 (.ptr id off) 0 = some (.ptr id (off)) := by kernel_rfl
attribute [go_sem] fa_47_0
theorem fd_47_0 (cs : List CV) : fieldT Go.Proofs.Tryd.prog 47 (.agg cs) 0 = partT Go.Proofs.Tryd.prog 3 cs 0 := by kernel_rfl
attribute [go_sem] fd_47_0
theorem fa_47_1 (id off : Nat) : fieldAddrT Go.Proofs.Tryd.prog 47 (.ptr id off) 1 = some (.ptr id (off + 1)) := by kernel_rfl
attribute [go_sem] fa_47_1
theorem fd_47_1 (cs : List CV) : fieldT Go.Proofs.Tryd.prog 47 (.agg cs) 1 = partT Go.Proofs.Tryd.prog 23 cs 1 := by kernel_rfl
attribute [go_sem] fd_47_1
theorem sz_52 : szOf Go.Proofs.Tryd.prog 52 = some 1 := by kernel_rfl
attribute [go_sem] sz_52
theorem ld_52 (h : H) (id off : Nat) : loadT Go.Proofs.Tryd.prog h 52 id off = @thn _ _ (h.blk id) ⟨fun b => b.get off⟩ := by kernel_rfl
attribute [go_sem] ld_52
theorem st_52 (h : H) (id off : Nat) (v : CV) : storeT Go.Proofs.Tryd.prog h 52 id off v = @thn _ _ (h.blk id) ⟨fun b => cond (Nat.beq v.cells.length 1 && !b.ro) ((b.storeA off v.cells).map fun b' => h.put id (.cells b')) none⟩ := by kernel_rfl
attribute [go_sem] st_52
theorem part_52 (cs : List CV) (off : Nat) : partT Go.Proofs.Tryd.prog 52 cs off = nth cs off := by kernel_rfl
attribute [go_sem] part_52
theorem sz_53 : szOf Go.Proofs.Tryd.prog 53 = some 1 := by kernel_rfl
attribute [go_sem] sz_53
theorem ld_53 (h : H) (id off : Nat) : loadT Go.Proofs.Tryd.prog h 53 id off = @thn _ _ (h.blk id) ⟨fun b => b.get off⟩ := by kernel_rfl
attribute [go_sem] ld_53
theorem st_53 (h : H) (id off : Nat) (v : CV) : storeT Go.Proofs.Tryd.prog h 53 id off v = @thn _ _ (h.blk id) ⟨fun b => cond (Nat.beq v.cells.length 1 && !b.ro) ((b.storeA off v.cells).map fun b' => h.put id (.cells b')) none⟩ := by kernel_rfl
attribute [go_sem] st_53
theorem part_53 (cs : List CV) (off : Nat) : partT Go.Proofs.Tryd.prog 53 cs off = nth cs off := by kernel_rfl
attribute [go_sem] part_53
theorem ze_53 : zeroT Go.Proofs.Tryd.prog 53 = some (.nilf) := by kernel_rfl
attribute [go_sem] ze_53
theorem eq_53 (xo yo : Operand) (f : Fn) (a b : List CV) : binT Go.Proofs.Tryd.prog .eql 53 xo yo (.fn f a b) .nilf = some (.bool false) := by kernel_rfl
attribute [go_sem] eq_53
theorem eq_53_n (xo yo : Operand) : binT Go.Proofs.Tryd.prog .eql 53 xo yo .nilf .nilf = some (.bool true) := by kernel_rfl
attribute [go_sem] eq_53_n
theorem ne_53 (xo yo : Operand) (f : Fn) (a b : List CV) : binT Go.Proofs.Tryd.prog .neq 53 xo yo (.fn f a b) .nilf = some (.bool true) := by kernel_rfl
attribute [go_sem] ne_53
theorem ne_53_n (xo yo : Operand) : binT Go.Proofs.Tryd.prog .neq 53 xo yo .nilf .nilf = some (.bool false) := by kernel_rfl
attribute [go_sem] ne_53_n
theorem sz_54 : szOf Go.Proofs.Tryd.prog 54 = some 1 := by kernel_rfl
attribute [go_sem] sz_54
theorem ld_54 (h : H) (id off : Nat) : loadT Go.Proofs.Tryd.prog h 54 id off = @thn _ _ (h.blk id) ⟨fun b => b.get off⟩ := by kernel_rfl
attribute [go_sem] ld_54
theorem st_54 (h : H) (id off : Nat) (v : CV) : storeT Go.Proofs.Tryd.prog h 54 id off v = @thn _ _ (h.blk id) ⟨fun b => cond (Nat.beq v.cells.length 1 && !b.ro) ((b.storeA off v.cells).map fun b' => h.put id (.cells b')) none⟩ := by kernel_rfl
attribute [go_sem] st_54
theorem part_54 (cs : List CV) (off : Nat) : partT Go.Proofs.Tryd.prog 54 cs off = nth cs off := by kernel_rfl
attribute [go_sem] part_54
theorem ze_54 : zeroT Go.Proofs.Tryd.prog 54 = some (.nilf) := by kernel_rfl
attribute [go_sem] ze_54
theorem eq_54 (xo yo : Operand) (f : Fn) (a b : List CV) : binT Go.Proofs.Tryd.prog .eql 54 xo yo (.fn f a b) .nilf = some (.bool false) := by kernel_rfl
attribute [go_sem] eq_54
theorem eq_54_n (xo yo : Operand) : binT Go.Proofs.Tryd.prog .eql 54 xo yo .nilf .nilf = some (.bool true) := by kernel_rfl
attribute [go_sem] eq_54_n
theorem ne_54 (xo yo : Operand) (f : Fn) (a b : List CV) : binT Go.Proofs.Tryd.prog .neq 54 xo yo (.fn f a b) .nilf = some (.bool true) := by kernel_rfl
attribute [go_sem] ne_54
theorem ne_54_n (xo yo : Operand) : binT Go.Proofs.Tryd.prog .neq 54 xo yo .nilf .nilf = some (.bool false) := by kernel_rfl
attribute [go_sem] ne_54_n
theorem sz_55 : szOf Go.Proofs.Tryd.prog 55 = some 1 := by kernel_rfl
attribute [go_sem] sz_55
theorem ld_55 (h : H) (id off : Nat) : loadT Go.Proofs.Tryd.prog h 55 id off = @thn _ _ (h.blk id) ⟨fun b => b.get off⟩ := by kernel_rfl
attribute [go_sem] ld_55
theorem st_55 (h : H) (id off : Nat) (v : CV) : storeT Go.Proofs.Tryd.prog h 55 id off v = @thn _ _ (h.blk id) ⟨fun b => cond (Nat.beq v.cells.length 1 && !b.ro) ((b.storeA off v.cells).map fun b' => h.put id (.cells b')) none⟩ := by kernel_rfl
attribute [go_sem] st_55
theorem part_55 (cs : List CV) (off : Nat) : partT Go.Proofs.Tryd.prog 55 cs off = nth cs off := by kernel_rfl
attribute [go_sem] part_55
theorem sz_56 : szOf Go.Proofs.Tryd.prog 56 = some 1 := by kernel_rfl
attribute [go_sem] sz_56
theorem ld_56 (h : H) (id off : Nat) : loadT Go.Proofs.Tryd.prog h 56 id off = @thn _ _ (h.blk id) ⟨fun b => b.get off⟩ := by kernel_rfl
attribute [go_sem] ld_56
theorem st_56 (h : H) (id off : Nat) (v : CV) : storeT Go.Proofs.Tryd.prog h 56 id off v = @thn _ _ (h.blk id) ⟨fun b => cond (Nat.beq v.cells.length 1 && !b.ro) ((b.storeA off v.cells).map fun b' => h.put id (.cells b')) none⟩ := by kernel_rfl
attribute [go_sem] st_56
theorem part_56 (cs : List CV) (off : Nat) : partT Go.Proofs.Tryd.prog 56 cs off = nth cs off := by kernel_rfl
attribute [go_sem] part_56
theorem ze_56 : zeroT Go.Proofs.Tryd.prog 56 = some (.nilf) := by kernel_rfl
attribute [go_sem] ze_56
theorem eq_56 (xo yo : Operand) (f : Fn) (a b : List CV) : binT Go.Proofs.Tryd.prog .eql 56 xo yo (.fn f a b) .nilf = some (.bool false) := by kernel_rfl
attribute [go_sem] eq_56
theorem eq_56_n (xo yo : Operand) : binT Go.Proofs.Tryd.prog .eql 56 xo yo .nilf .nilf = some (.bool true) := by kernel_rfl
attribute [go_sem] eq_56_n
theorem ne_56 (xo yo : Operand) (f : Fn) (a b : List CV) : binT Go.Proofs.Tryd.prog .neq 56 xo yo (.fn f a b) .nilf = some (.bool true) := by kernel_rfl
attribute [go_sem] ne_56
theorem ne_56_n (xo yo : Operand) : binT Go.Proofs.Tryd.prog .neq 56 xo yo .nilf .nilf = some (.bool false) := by kernel_rfl
attribute [go_sem] ne_56_n
theorem sz_57 : szOf Go.Proofs.Tryd.prog 57 = some 1 := by kernel_rfl
attribute [go_sem] sz_57
theorem ld_57 (h : H) (id off : Nat) : loadT Go.Proofs.Tryd.prog h 57 id off = @thn _ _ (h.blk id) ⟨fun b => b.get off⟩ := by kernel_rfl
attribute [go_sem] ld_57
theorem st_57 (h : H) (id off : Nat) (v : CV) : storeT Go.Proofs.Tryd.prog h 57 id off v = @thn _ _ (h.blk id) ⟨fun b => cond (Nat.beq v.cells.length 1 && !b.ro) ((b.storeA off v.cells).map fun b' => h.put id (.cells b')) none⟩ := by kernel_rfl
attribute [go_sem] st_57
theorem part_57 (cs : List CV) (off : Nat) : partT Go.Proofs.Tryd.prog 57 cs off = nth cs off := by kernel_rfl
attribute [go_sem] part_57
theorem ze_57 : zeroT Go.Proofs.Tryd.prog 57 = some (.nilf) := by kernel_rfl
attribute [go_sem] ze_57
theorem eq_57 (xo yo : Operand) (f : Fn) (a b : List CV) : binT Go.Proofs.Tryd.prog .eql 57 xo yo (.fn f a b) .nilf = some (.bool false) := by kernel_rfl
attribute [go_sem] eq_57
theorem eq_57_n (xo yo : Operand) : binT Go.Proofs.Tryd.prog .eql 57 xo yo .nilf .nilf = some (.bool true) := by kernel_rfl
attribute [go_sem] eq_57_n
theorem ne_57 (xo yo : Operand) (f : Fn) (a b : List CV) : binT Go.Proofs.Tryd.prog .neq 57 xo yo (.fn f a b) .nilf = some (.bool true) := by kernel_rfl
attribute [go_sem] ne_57
theorem ne_57_n (xo yo : Operand) : binT Go.Proofs.Tryd.prog .neq 57 xo yo .nilf .nilf = some (.bool false) := by kernel_rfl
attribute [go_sem] ne_57_n
theorem sz_61 : szOf Go.Proofs.Tryd.prog 61 = some 1 := by kernel_rfl
attribute [go_sem] sz_61
theorem ld_61 (h : H) (id off : Nat) : loadT Go.Proofs.Tryd.prog h 61 id off = @thn _ _ (h.blk id) ⟨fun b => b.get off⟩ := by kernel_rfl
attribute [go_sem] ld_61
theorem st_61 (h : H) (id off : Nat) (v : CV) : storeT Go.Proofs.Tryd.prog h 61 id off v = @thn _ _ (h.blk id) ⟨fun b => cond (Nat.beq v.cells.length 1 && !b.ro) ((b.storeA off v.cells).map fun b' => h.put id (.cells b')) none⟩ := by kernel_rfl
attribute [go_sem] st_61
theorem part_61 (cs : List CV) (off : Nat) : partT Go.Proofs.Tryd.prog 61 cs off = nth cs off := by kernel_rfl
attribute [go_sem] part_61
theorem ze_61 : zeroT Go.Proofs.Tryd.prog 61 = some (.nilf) := by kernel_rfl
attribute [go_sem] ze_61
theorem eq_61 (xo yo : Operand) (f : Fn) (a b : List CV) : binT Go.Proofs.Tryd.prog .eql 61 xo yo (.fn f a b) .nilf = some (.bool false) := by kernel_rfl
attribute [go_sem] eq_61
theorem eq_61_n (xo yo : Operand) : binT Go.Proofs.Tryd.prog .eql 61 xo yo .nilf .nilf = some (.bool true) := by kernel_rfl
attribute [go_sem] eq_61_n
theorem ne_61 (xo yo : Operand) (f : Fn) (a b : List CV) : binT Go.Proofs.Tryd.prog .neq 61 xo yo (.fn f a b) .nilf = some (.bool true) := by kernel_rfl
attribute [go_sem] ne_61
theorem ne_61_n (xo yo : Operand) : binT Go.Proofs.Tryd.prog .neq 61 xo yo .nilf .nilf = some (.bool false) := by kernel_rfl
attribute [go_sem] ne_61_n
theorem sz_62 : szOf Go.Proofs.Tryd.prog 62 = some 1 := by kernel_rfl
attribute [go_sem] sz_62
theorem ld_62 (h : H) (id off : Nat) : loadT Go.Proofs.Tryd.prog h 62 id off = @thn _ _ (h.blk id) ⟨fun b => b.get off⟩ := by kernel_rfl
attribute [go_sem] ld_62
theorem st_62 (h : H) (id off : Nat) (v : CV) : storeT Go.Proofs.Tryd.prog h 62 id off v = @thn _ _ (h.blk id) ⟨fun b => cond (Nat.beq v.cells.length 1 && !b.ro) ((b.storeA off v.cells).map fun b' => h.put id (.cells b')) none⟩ := by kernel_rfl
attribute [go_sem] st_62
theorem part_62 (cs : List CV) (off : Nat) : partT Go.Proofs.Tryd.prog 62 cs off = nth cs off := by kernel_rfl
attribute [go_sem] part_62
theorem ze_62 : zeroT Go.Proofs.Tryd.prog 62 = some (.nilf) := by kernel_rfl
attribute [go_sem] ze_62
theorem eq_62 (xo yo : Operand) (f : Fn) (a b : List CV) : binT Go.Proofs.Tryd.prog .eql 62 xo yo (.fn f a b) .nilf = some (.bool false) := by kernel_rfl
attribute [go_sem] eq_62
theorem eq_62_n (xo yo : Operand) : binT Go.Proofs.Tryd.prog .eql 62 xo yo .nilf .nilf = some (.bool true) := by kernel_rfl
attribute [go_sem] eq_62_n
theorem ne_62 (xo yo : Operand) (f : Fn) (a b : List CV) : binT Go.Proofs.Tryd.prog .neq 62 xo yo (.fn f a b) .nilf = some (.bool true) := by kernel_rfl
attribute [go_sem] ne_62
theorem ne_62_n (xo yo : Operand) : binT Go.Proofs.Tryd.prog .neq 62 xo yo .nilf .nilf = some (.bool false) := by kernel_rfl
attribute [go_sem] ne_62_n
theorem sz_63 : szOf Go.Proofs.Tryd.prog 63 = some 1 := by kernel_rfl
attribute [go_sem] sz_63
theorem ld_63 (h : H) (id off : Nat) : loadT Go.Proofs.Tryd.prog h 63 id off = @thn _ _ (h.blk id) ⟨fun b => b.get off⟩ := by kernel_rfl
attribute [go_sem] ld_63
theorem st_63 (h : H) (id off : Nat) (v : CV) : storeT Go.Proofs.Tryd.prog h 63 id off v = @thn _ _ (h.blk id) ⟨fun b => cond (Nat.beq v.cells.length 1 && !b.ro) ((b.storeA off v.cells).map fun b' => h.put id (.cells b')) none⟩ := by kernel_rfl
attribute [go_sem] st_63
theorem part_63 (cs : List CV) (off : Nat) : partT Go.Proofs.Tryd.prog 63 cs off = nth cs off := by kernel_rfl
attribute [go_sem] part_63
theorem ze_63 : zeroT Go.Proofs.Tryd.prog 63 = some (.nilf) := by kernel_rfl
attribute [go_sem] ze_63
theorem eq_63 (xo yo : Operand) (f : Fn) (a b : List CV) : binT Go.Proofs.Tryd.prog .eql 63 xo yo (.fn f a b) .nilf = some (.bool false) := by kernel_rfl
attribute [go_sem] eq_63
theorem eq_63_n (xo yo : Operand) : binT Go.Proofs.Tryd.prog .eql 63 xo yo .nilf .nilf = some (.bool true) := by kernel_rfl
attribute [go_sem] eq_63_n
theorem ne_63 (xo yo : Operand) (f : Fn) (a b : List CV) : binT Go.Proofs.Tryd.prog .neq 63 xo yo (.fn f a b) .nilf = some (.bool true) := by kernel_rfl
attribute [go_sem] ne_63
theorem ne_63_n (xo yo : Operand) : binT Go.Proofs.Tryd.prog .neq 63 xo yo .nilf .nilf = some (.bool false) := by kernel_rfl
attribute [go_sem] ne_63_n
theorem sz_65 : szOf Go.Proofs.Tryd.prog 65 = some 1 := by kernel_rfl
attribute [go_sem] sz_65
theorem ld_65 (h : H) (id off : Nat) : loadT Go.Proofs.Tryd.prog h 65 id off = @thn _ _ (h.blk id) ⟨fun b => b.get off⟩ := by kernel_rfl
attribute [go_sem] ld_65
theorem st_65 (h : H) (id off : Nat) (v : CV) : storeT Go.Proofs.Tryd.prog h 65 id off v = @thn _ _ (h.blk id) ⟨fun b => cond (Nat.beq v.cells.length 1 && !b.ro) ((b.storeA off v.cells).map fun b' => h.put id (.cells b')) none⟩ := by kernel_rfl
attribute [go_sem] st_65
theorem part_65 (cs : List CV) (off : Nat) : partT Go.Proofs.Tryd.prog 65 cs off = nth cs off := by kernel_rfl
attribute [go_sem] part_65
theorem ze_65 : zeroT Go.Proofs.Tryd.prog 65 = some (.nilf) := by kernel_rfl
attribute [go_sem] ze_65
theorem eq_65 (xo yo : Operand) (f : Fn) (a b : List CV) : binT Go.Proofs.Tryd.prog .eql 65 xo yo (.fn f a b) .nilf = some (.bool false) := by kernel_rfl
attribute [go_sem] eq_65
theorem eq_65_n (xo yo : Operand) : binT Go.Proofs.Tryd.prog .eql 65 xo yo .nilf .nilf = some (.bool true) := by kernel_rfl
attribute [go_sem] eq_65_n
theorem ne_65 (xo yo : Operand) (f : Fn) (a b : List CV) : binT Go.Proofs.Tryd.prog .neq 65 xo yo (.fn f a b) .nilf = some (.bool true) := by kernel_rfl
attribute [go_sem] ne_65
theorem ne_65_n (xo yo : Operand) : binT Go.Proofs.Tryd.prog .neq 65 xo yo .nilf .nilf = some (.bool false) := by kernel_rfl
attribute [go_sem] ne_65_n
theorem sz_66 : szOf Go.Proofs.Tryd.prog 66 = some 1 := by kernel_rfl
attribute [go_sem] sz_66
theorem ld_66 (h : H) (id off : Nat) : loadT Go.Proofs.Tryd.prog h 66 id off = @thn _ _ (h.blk id) ⟨fun b => b.get off⟩ := by kernel_rfl
attribute [go_sem] ld_66
theorem st_66 (h : H) (id off : Nat) (v : CV) : storeT Go.Proofs.Tryd.prog h 66 id off v = @thn _ _ (h.blk id) ⟨fun b => cond (Nat.beq v.cells.length 1 && !b.ro) ((b.storeA off v.cells).map fun b' => h.put id (.cells b')) none⟩ := by kernel_rfl
attribute [go_sem] st_66
theorem part_66 (cs : List CV) (off : Nat) : partT Go.Proofs.Tryd.prog 66 cs off = nth cs off := by kernel_rfl
attribute [go_sem] part_66
theorem sz_67 : szOf Go.Proofs.Tryd.prog 67 = some 1 := by kernel_rfl
attribute [go_sem] sz_67
theorem ld_67 (h : H) (id off : Nat) : loadT Go.Proofs.Tryd.prog h 67 id off = @thn _ _ (h.blk id) ⟨fun b => b.get off⟩ := by kernel_rfl
attribute [go_sem] ld_67
theorem st_67 (h : H) (id off : Nat) (v : CV) : storeT Go.Proofs.Tryd.prog h 67 id off v = @thn _ _ (h.blk id) ⟨fun b => cond (Nat.beq v.cells.length 1 && !b.ro) ((b.storeA off v.cells).map fun b' => h.put id (.cells b')) none⟩ := by kernel_rfl
attribute [go_sem] st_67
theorem part_67 (cs : List CV) (off : Nat) : partT Go.Proofs.Tryd.prog 67 cs off = nth cs off := by kernel_rfl
attribute [go_sem] part_67
theorem ze_67 : zeroT Go.Proofs.Tryd.prog 67 = some (.nilf) := by kernel_rfl
attribute [go_sem] ze_67
theorem eq_67 (xo yo : Operand) (f : Fn) (a b : List CV) : binT Go.Proofs.Tryd.prog .eql 67 xo yo (.fn f a b) .nilf = some (.bool false) := by kernel_rfl
attribute [go_sem] eq_67
theorem eq_67_n (xo yo : Operand) : binT Go.Proofs.Tryd.prog .eql 67 xo yo .nilf .nilf = some (.bool true) := by kernel_rfl
attribute [go_sem] eq_67_n
theorem ne_67 (xo yo : Operand) (f : Fn) (a b : List CV) : binT Go.Proofs.Tryd.prog .neq 67 xo yo (.fn f a b) .nilf = some (.bool true) := by kernel_rfl
attribute [go_sem] ne_67
theorem ne_67_n (xo yo : Operand) : binT Go.Proofs.Tryd.prog .neq 67 xo yo .nilf .nilf = some (.bool false) := by kernel_rfl
attribute [go_sem] ne_67_n
theorem sz_68 : szOf Go.Proofs.Tryd.prog 68 = some 1 := by kernel_rfl
attribute [go_sem] sz_68
theorem ld_68 (h : H) (id off : Nat) : loadT Go.Proofs.Tryd.prog h 68 id off = @thn _ _ (h.blk id) ⟨fun b => b.get off⟩ := by kernel_rfl
attribute [go_sem] ld_68
theorem st_68 (h : H) (id off : Nat) (v : CV) : storeT Go.Proofs.Tryd.prog h 68 id off v = @thn _ _ (h.blk id) ⟨fun b => cond (Nat.beq v.cells.length 1 && !b.ro) ((b.storeA off v.cells).map fun b' => h.put id (.cells b')) none⟩ := by kernel_rfl
attribute [go_sem] st_68
theorem part_68 (cs : List CV) (off : Nat) : partT Go.Proofs.Tryd.prog 68 cs off = nth cs off := by kernel_rfl
attribute [go_sem] part_68
theorem ze_68 : zeroT Go.Proofs.Tryd.prog 68 = some (.nilf) := by kernel_rfl
attribute [go_sem] ze_68
theorem eq_68 (xo yo : Operand) (f : Fn) (a b : List CV) : binT Go.Proofs.Tryd.prog .eql 68 xo yo (.fn f a b) .nilf = some (.bool false) := by kernel_rfl
attribute [go_sem] eq_68
theorem eq_68_n (xo yo : Operand) : binT Go.Proofs.Tryd.prog .eql 68 xo yo .nilf .nilf = some (.bool true) := by kernel_rfl
attribute [go_sem] eq_68_n
theorem ne_68 (xo yo : Operand) (f : Fn) (a b : List CV) : binT Go.Proofs.Tryd.prog .neq 68 xo yo (.fn f a b) .nilf = some (.bool true) := by kernel_rfl
attribute [go_sem] ne_68
theorem ne_68_n (xo yo : Operand) : binT Go.Proofs.Tryd.prog .neq 68 xo yo .nilf .nilf = some (.bool false) := by kernel_rfl
attribute [go_sem] ne_68_n
theorem sz_69 : szOf Go.Proofs.Tryd.prog 69 = some 1 := by kernel_rfl
attribute [go_sem] sz_69
theorem ld_69 (h : H) (id off : Nat) : loadT Go.Proofs.Tryd.prog h 69 id off = @thn _ _ (h.blk id) ⟨fun b => b.get off⟩ := by kernel_rfl
attribute [go_sem] ld_69
theorem st_69 (h : H) (id off : Nat) (v : CV) : storeT Go.Proofs.Tryd.prog h 69 id off v = @thn _ _ (h.blk id) ⟨fun b => cond (Nat.beq v.cells.length 1 && !b.ro) ((b.storeA off v.cells).map fun b' => h.put id (.cells b')) none⟩ := by kernel_rfl
attribute [go_sem] st_69
theorem part_69 (cs : List CV) (off : Nat) : partT Go.Proofs.Tryd.prog 69 cs off = nth cs off := by kernel_rfl
attribute [go_sem] part_69
theorem sz_70 : szOf Go.Proofs.Tryd.prog 70 = some 1 := by kernel_rfl
attribute [go_sem] sz_70
theorem ld_70 (h : H) (id off : Nat) : loadT Go.Proofs.Tryd.prog h 70 id off = @thn _ _ (h.blk id) ⟨fun b => b.get off⟩ := by kernel_rfl
attribute [go_sem] ld_70
theorem st_70 (h : H) (id off : Nat) (v : CV) : storeT Go.Proofs.Tryd.prog h 70 id off v = @thn _ _ (h.blk id) ⟨fun b => cond (Nat.beq v.cells.length 1 && !b.ro) ((b.storeA off v.cells).map fun b' => h.put id (.cells b')) none⟩ := by kernel_rfl
attribute [go_sem] st_70
theorem part_70 (cs : List CV) (off : Nat) : partT Go.Proofs.Tryd.prog 70 cs off = nth cs off := by kernel_rfl
attribute [go_sem] part_70
theorem ze_70 : zeroT Go.Proofs.Tryd.prog 70 = some (.nilf) := by kernel_rfl
attribute [go_sem] ze_70
theorem eq_70 (xo yo : Operand) (f : Fn) (a b : List CV) : binT Go.Proofs.Tryd.prog .eql 70 xo yo (.fn f a b) .nilf = some (.bool false) := by kernel_rfl
attribute [go_sem] eq_70
theorem eq_70_n (xo yo : Operand) : binT Go.Proofs.Tryd.prog .eql 70 xo yo .nilf .nilf = some (.bool true) := by kernel_rfl
attribute [go_sem] eq_70_n
theorem ne_70 (xo yo : Operand) (f : Fn) (a b : List CV) : binT Go.Proofs.Tryd.prog .neq 70 xo yo (.fn f a b) .nilf = some (.bool true) := by kernel_rfl
attribute [go_sem] ne_70
theorem ne_70_n (xo yo : Operand) : binT Go.Proofs.Tryd.prog .neq 70 xo yo .nilf .nilf = some (.bool false) := by kernel_rfl
attribute [go_sem] ne_70_n
theorem sz_71 : szOf Go.Proofs.Tryd.prog 71 = some 2 := by kernel_rfl
attribute [go_sem] sz_71
theorem ld_71 (h : H) (id off : Nat) : loadT Go.Proofs.Tryd.prog h 71 id off = @thn _ _ (h.blk id) ⟨fun b => (b.loadN off 2).map .agg⟩ := by kernel_rfl
attribute [go_sem] ld_71
theorem st_71 (h : H) (id off : Nat) (v : CV) : storeT Go.Proofs.Tryd.prog h 71 id off v = @thn _ _ (h.blk id) ⟨fun b => cond (Nat.beq v.cells.length 2 && !b.ro) ((b.storeA off v.cells).map fun b' => h.put id (.cells b')) none⟩ := by kernel_rfl
attribute [go_sem] st_71
theorem part_71 (cs : List CV) (off : Nat) : partT Go.Proofs.Tryd.prog 71 cs off = some (.agg ((cs.drop off).take 2)) := by kernel_rfl
attribute [go_sem] part_71
theorem ze_71 : zeroT Go.Proofs.Tryd.prog 71 = some (.agg [.nils, .bool false]) := by kernel_rfl
attribute [go_sem] ze_71
theorem bt_71 (parts : List (Nat × CV)) : buildT Go.Proofs.Tryd.prog 71 parts = finB (CV.cells (.agg [.nils, .bool false])) (nth [(0, 1), (1, 1)]) parts := by kernel_rfl
attribute [go_sem] bt_71
theorem fa_71_0 (id off : Nat) : fieldAddrT Go.Proofs.Tryd.prog 71 (.ptr id off) 0 = some (.ptr id (off)) := by kernel_rfl
attribute [go_sem] fa_71_0
theorem fd_71_0 (cs : List CV) : fieldT Go.Proofs.Tryd.prog 71 (.agg cs) 0 = partT Go.Proofs.Tryd.prog 24 cs 0 := by kernel_rfl
attribute [go_sem] fd_71_0
theorem fa_71_1 (id off : Nat) : fieldAddrT Go.Proofs.Tryd.prog 71 (.ptr id off) 1 = some (.ptr id (off + 1)) := by kernel_rfl
attribute [go_sem] fa_71_1
theorem fd_71_1 (cs : List CV) : fieldT Go.Proofs.Tryd.prog 71 (.agg cs) 1 = partT Go.Proofs.Tryd.prog 4 cs 1 := by kernel_rfl
attribute [go_sem] fd_71_1
theorem sz_72 : szOf Go.Proofs.Tryd.prog 72 = some 2 := by kernel_rfl
attribute [go_sem] sz_72
theorem ld_72 (h : H) (id off : Nat) : loadT Go.Proofs.Tryd.prog h 72 id off = @thn _ _ (h.blk id) ⟨fun b => (b.loadN off 2).map .agg⟩ := by kernel_rfl
attribute [go_sem] ld_72
theorem st_72 (h : H) (id off : Nat) (v : CV) : storeT Go.Proofs.Tryd.prog h 72 id off v = @thn _ _ (h.blk id) ⟨fun b => cond (Nat.beq v.cells.length 2 && !b.ro) ((b.storeA off v.cells).map fun b' => h.put id (.cells b')) none⟩ := by kernel_rfl
attribute [go_sem] st_72
theorem part_72 (cs : List CV) (off : Nat) : partT Go.Proofs.Tryd.prog 72 cs off = some (.agg ((cs.drop off).take 2)) := by kernel_rfl
attribute [go_sem] part_72
theorem ze_72 : zeroT Go.Proofs.Tryd.prog 72 = some (.agg [.nils, .bool false]) := by kernel_rfl
attribute [go_sem] ze_72
theorem bt_72 (parts : List (Nat × CV)) : buildT Go.Proofs.Tryd.prog 72 parts = finB (CV.cells (.agg [.nils, .bool false])) (nth [(0, 1), (1, 1)]) parts := by kernel_rfl
attribute [go_sem] bt_72
theorem fa_72_0 (id off : Nat) : fieldAddrT Go.Proofs.Tryd.prog 72 (.ptr id off) 0 = some (.ptr id (off)) := by kernel_rfl
attribute [go_sem] fa_72_0
theorem fd_72_0 (cs : List CV) : fieldT Go.Proofs.Tryd.prog 72 (.agg cs) 0 = partT Go.Proofs.Tryd.prog 24 cs 0 := by kernel_rfl
attribute [go_sem] fd_72_0
theorem fa_72_1 (id off : Nat) : fieldAddrT Go.Proofs.Tryd.prog 72 (.ptr id off) 1 = some (.ptr id (off + 1)) := by kernel_rfl
attribute [go_sem] fa_72_1
theorem fd_72_1 (cs : List CV) : fieldT Go.Proofs.Tryd.prog 72 (.agg cs) 1 = partT Go.Proofs.Tryd.prog 4 cs 1 := by kernel_rfl
attribute [go_sem] fd_72_1
theorem sz_73 : szOf Go.Proofs.Tryd.prog 73 = some 1 := by kernel_rfl
attribute [go_sem] sz_73
theorem ld_73 (h : H) (id off : Nat) : loadT Go.Proofs.Tryd.prog h 73 id off = @thn _ _ (h.blk id) ⟨fun b => b.get off⟩ := by kernel_rfl
attribute [go_sem] ld_73
theorem st_73 (h : H) (id off : Nat) (v : CV) : storeT Go.Proofs.Tryd.prog h 73 id off v = @thn _ _ (h.blk id) ⟨fun b => cond (Nat.beq v.cells.length 1 && !b.ro) ((b.storeA off v.cells).map fun b' => h.put id (.cells b')) none⟩ := by kernel_rfl
attribute [go_sem] st_73
theorem part_73 (cs : List CV) (off : Nat) : partT Go.Proofs.Tryd.prog 73 cs off = nth cs off := by kernel_rfl
attribute [go_sem] part_73
theorem ze_73 : zeroT Go.Proofs.Tryd.prog 73 = some (.nilp) := by kernel_rfl
attribute [go_sem] ze_73
theorem eq_73 (xo yo : Operand) (a b : Nat) : binT Go.Proofs.Tryd.prog .eql 73 xo yo (.ptr a b) .nilp = some (.bool false) := by kernel_rfl
attribute [go_sem] eq_73
theorem eq_73_n (xo yo : Operand) : binT Go.Proofs.Tryd.prog .eql 73 xo yo .nilp .nilp = some (.bool true) := by kernel_rfl
attribute [go_sem] eq_73_n
theorem ne_73 (xo yo : Operand) (a b : Nat) : binT Go.Proofs.Tryd.prog .neq 73 xo yo (.ptr a b) .nilp = some (.bool true) := by kernel_rfl
attribute [go_sem] ne_73
theorem ne_73_n (xo yo : Operand) : binT Go.Proofs.Tryd.prog .neq 73 xo yo .nilp .nilp = some (.bool false) := by kernel_rfl
attribute [go_sem] ne_73_n
theorem sz_74 : szOf Go.Proofs.Tryd.prog 74 = some 1 := by kernel_rfl
attribute [go_sem] sz_74
theorem ld_74 (h : H) (id off : Nat) : loadT Go.Proofs.Tryd.prog h 74 id off = @thn _ _ (h.blk id) ⟨fun b => b.get off⟩ := by kernel_rfl
attribute [go_sem] ld_74
theorem st_74 (h : H) (id off : Nat) (v : CV) : storeT Go.Proofs.Tryd.prog h 74 id off v = @thn _ _ (h.blk id) ⟨fun b => cond (Nat.beq v.cells.length 1 && !b.ro) ((b.storeA off v.cells).map fun b' => h.put id (.cells b')) none⟩ := by kernel_rfl
attribute [go_sem] st_74
theorem part_74 (cs : List CV) (off : Nat) : partT Go.Proofs.Tryd.prog 74 cs off = nth cs off := by kernel_rfl
attribute [go_sem] part_74
theorem ze_74 : zeroT Go.Proofs.Tryd.prog 74 = some (.nilf) := by kernel_rfl
attribute [go_sem] ze_74
theorem eq_74 (xo yo : Operand) (f : Fn) (a b : List CV) : binT Go.Proofs.Tryd.prog .eql 74 xo yo (.fn f a b) .nilf = some (.bool false) := by kernel_rfl
attribute [go_sem] eq_74
theorem eq_74_n (xo yo : Operand) : binT Go.Proofs.Tryd.prog .eql 74 xo yo .nilf .nilf = some (.bool true) := by kernel_rfl
attribute [go_sem] eq_74_n
theorem ne_74 (xo yo : Operand) (f : Fn) (a b : List CV) : binT Go.Proofs.Tryd.prog .neq 74 xo yo (.fn f a b) .nilf = some (.bool true) := by kernel_rfl
attribute [go_sem] ne_74
theorem ne_74_n (xo yo : Operand) : binT Go.Proofs.Tryd.prog .neq 74 xo yo .nilf .nilf = some (.bool false) := by kernel_rfl
attribute [go_sem] ne_74_n
theorem sz_75 : szOf Go.Proofs.Tryd.prog 75 = some 1 := by kernel_rfl
attribute [go_sem] sz_75
theorem ld_75 (h : H) (id off : Nat) : loadT Go.Proofs.Tryd.prog h 75 id off = @thn _ _ (h.blk id) ⟨fun b => b.get off⟩ := by kernel_rfl
attribute [go_sem] ld_75
theorem st_75 (h : H) (id off : Nat) (v : CV) : storeT Go.Proofs.Tryd.prog h 75 id off v = @thn _ _ (h.blk id) ⟨fun b => cond (Nat.beq v.cells.length 1 && !b.ro) ((b.storeA off v.cells).map fun b' => h.put id (.cells b')) none⟩ := by kernel_rfl
attribute [go_sem] st_75
theorem part_75 (cs : List CV) (off : Nat) : partT Go.Proofs.Tryd.prog 75 cs off = nth cs off := by kernel_rfl
attribute [go_sem] part_75
theorem ze_75 : zeroT Go.Proofs.Tryd.prog 75 = some (.nilf) := by kernel_rfl
attribute [go_sem] ze_75
theorem eq_75 (xo yo : Operand) (f : Fn) (a b : List CV) : binT Go.Proofs.Tryd.prog .eql 75 xo yo (.fn f a b) .nilf = some (.bool false) := by kernel_rfl
attribute [go_sem] eq_75
theorem eq_75_n (xo yo : Operand) : binT Go.Proofs.Tryd.prog .eql 75 xo yo .nilf .nilf = some (.bool true) := by kernel_rfl
attribute [go_sem] eq_75_n
theorem ne_75 (xo yo : Operand) (f : Fn) (a b : List CV) : binT Go.Proofs.Tryd.prog .neq 75 xo yo (.fn f a b) .nilf = some (.bool true) := by kernel_rfl
attribute [go_sem] ne_75
theorem ne_75_n (xo yo : Operand) : binT Go.Proofs.Tryd.prog .neq 75 xo yo .nilf .nilf = some (.bool false) := by kernel_rfl
attribute [go_sem] ne_75_n
theorem sz_76 : szOf Go.Proofs.Tryd.prog 76 = some 1 := by kernel_rfl
attribute [go_sem] sz_76
theorem ld_76 (h : H) (id off : Nat) : loadT Go.Proofs.Tryd.prog h 76 id off = @thn _ _ (h.blk id) ⟨fun b => b.get off⟩ := by kernel_rfl
attribute [go_sem] ld_76
theorem st_76 (h : H) (id off : Nat) (v : CV) : storeT Go.Proofs.Tryd.prog h 76 id off v = @thn _ _ (h.blk id) ⟨fun b => cond (Nat.beq v.cells.length 1 && !b.ro) ((b.storeA off v.cells).map fun b' => h.put id (.cells b')) none⟩ := by kernel_rfl
attribute [go_sem] st_76
theorem part_76 (cs : List CV) (off : Nat) : partT Go.Proofs.Tryd.prog 76 cs off = nth cs off := by kernel_rfl
attribute [go_sem] part_76
theorem ze_76 : zeroT Go.Proofs.Tryd.prog 76 = some (.nilf) := by kernel_rfl
attribute [go_sem] ze_76
theorem eq_76 (xo yo : Operand) (f : Fn) (a b : List CV) : binT Go.Proofs.Tryd.prog .eql 76 xo yo (.fn f a b) .nilf = some (.bool false) := by kernel_rfl
attribute [go_sem] eq_76
theorem eq_76_n (xo yo : Operand) : binT Go.Proofs.Tryd.prog .eql 76 xo yo .nilf .nilf = some (.bool true) := by kernel_rfl
attribute [go_sem] eq_76_n
theorem ne_76 (xo yo : Operand) (f : Fn) (a b : List CV) : binT Go.Proofs.Tryd.prog .neq 76 xo yo (.fn f a b) .nilf = some (.bool true) := by kernel_rfl
attribute [go_sem] ne_76
theorem ne_76_n (xo yo : Operand) : binT Go.Proofs.Tryd.prog .neq 76 xo yo .nilf .nilf = some (.bool false) := by kernel_rfl
attribute [go_sem] ne_76_n
theorem sz_77 : szOf Go.Proofs.Tryd.prog 77 = some 32 := by kernel_rfl
attribute [go_sem] sz_77
theorem ld_77 (h : H) (id off : Nat) : loadT Go.Proofs.Tryd.prog h 77 id off = @thn _ _ (h.blk id) ⟨fun b => (b.loadN off 32).map .agg⟩ := by kernel_rfl
attribute [go_sem] ld_77
theorem st_77 (h : H) (id off : Nat) (v : CV) : storeT Go.Proofs.Tryd.prog h 77 id off v = @thn _ _ (h.blk id) ⟨fun b => cond (Nat.beq v.cells.length 32 && !b.ro) ((b.storeA off v.cells).map fun b' => h.put id (.cells b')) none⟩ := by kernel_rfl
attribute [go_sem] st_77
theorem part_77 (cs : List CV) (off : Nat) : partT Go.Proofs.Tryd.prog 77 cs off = some (.agg ((cs.drop off).take 32)) := by kernel_rfl
attribute [go_sem] part_77
theorem ze_77 : zeroT Go.Proofs.Tryd.prog 77 = some (.agg [.int .u8 0, .int .u8 0, .int .u8 0, .int .u8 0, .int .u8 0, .int .u8 0, .int .u8 0, .int .u8 0, .int .u8 0, .int .u8 0, .int .u8 0, .int .u8 0, .int .u8 0, .int .u8 0, .int .u8 0, .int .u8 0, .int .u8 0, .int .u8 0, .int .u8 0, .int .u8 0, .int .u8 0, .int .u8 0, .int .u8 0, .int .u8 0, .int .u8 0, .int .u8 0, .int .u8 0, .int .u8 0, .int .u8 0, .int .u8 0, .int .u8 0, .int .u8 0]) := by kernel_rfl
attribute [go_sem] ze_77
theorem ia_77 (id off k : Nat) (kd : IntKind) : indexAddrT Go.Proofs.Tryd.prog 77 (.ptr id off) (.int kd (Int.ofNat k)) = cond (Nat.blt k 32) (some (.ptr id (off + k * 1))) none := by kernel_rfl
attribute [go_sem] ia_77
theorem ix_77 (cs : List CV) (k : Nat) (kd : IntKind) : indexT Go.Proofs.Tryd.prog 77 (.agg cs) (.int kd (Int.ofNat k)) = cond (Nat.blt k 32) (partT Go.Proofs.Tryd.prog 5 cs (k * 1)) none := by kernel_rfl
attribute [go_sem] ix_77
theorem len_77 (h : H) (ts : List TypeId) (az : List CV) (a : CV) : builtinT Go.Proofs.Tryd.prog h .len (77 :: ts) (a :: az) = some (.val (.int .i64 32)) := by kernel_rfl
attribute [go_sem] len_77
theorem bt_77 (parts : List (Nat × CV)) : buildT Go.Proofs.Tryd.prog 77 parts = finB (CV.cells (.agg [.int .u8 0, .int .u8 0, .int .u8 0, .int .u8 0, .int .u8 0, .int .u8 0, .int .u8 0, .int .u8 0, .int .u8 0, .int .u8 0, .int .u8 0, .int .u8 0, .int .u8 0, .int .u8 0, .int .u8 0, .int .u8 0, .int .u8 0, .int .u8 0, .int .u8 0, .int .u8 0, .int .u8 0, .int .u8 0, .int .u8 0, .int .u8 0, .int .u8 0, .int .u8 0, .int .u8 0, .int .u8 0, .int .u8 0, .int .u8 0, .int .u8 0, .int .u8 0])) (fun i => some (i * 1, 1)) parts := by kernel_rfl
attribute [go_sem] bt_77
theorem sz_78 : szOf Go.Proofs.Tryd.prog 78 = some 1 := by kernel_rfl
attribute [go_sem] sz_78
theorem ld_78 (h : H) (id off : Nat) : loadT Go.Proofs.Tryd.prog h 78 id off = @thn _ _ (h.blk id) ⟨fun b => b.get off⟩ := by kernel_rfl
attribute [go_sem] ld_78
theorem st_78 (h : H) (id off : Nat) (v : CV) : storeT Go.Proofs.Tryd.prog h 78 id off v = @thn _ _ (h.blk id) ⟨fun b => cond (Nat.beq v.cells.length 1 && !b.ro) ((b.storeA off v.cells).map fun b' => h.put id (.cells b')) none⟩ := by kernel_rfl
attribute [go_sem] st_78
theorem part_78 (cs : List CV) (off : Nat) : partT Go.Proofs.Tryd.prog 78 cs off = nth cs off := by kernel_rfl
attribute [go_sem] part_78
theorem ze_78 : zeroT Go.Proofs.Tryd.prog 78 = some (.nilf) := by kernel_rfl
attribute [go_sem] ze_78
theorem eq_78 (xo yo : Operand) (f : Fn) (a b : List CV) : binT Go.Proofs.Tryd.prog .eql 78 xo yo (.fn f a b) .nilf = some (.bool false) := by kernel_rfl
attribute [go_sem] eq_78
theorem eq_78_n (xo yo : Operand) : binT Go.Proofs.Tryd.prog .eql 78 xo yo .nilf .nilf = some (.bool true) := by kernel_rfl
attribute [go_sem] eq_78_n
theorem ne_78 (xo yo : Operand) (f : Fn) (a b : List CV) : binT Go.Proofs.Tryd.prog .neq 78 xo yo (.fn f a b) .nilf = some (.bool true) := by kernel_rfl
attribute [go_sem] ne_78
theorem ne_78_n (xo yo : Operand) : binT Go.Proofs.Tryd.prog .neq 78 xo yo .nilf .nilf = some (.bool false) := by kernel_rfl
attribute [go_sem] ne_78_n
theorem sz_79 : szOf Go.Proofs.Tryd.prog 79 = some 1 := by kernel_rfl
attribute [go_sem] sz_79
theorem ld_79 (h : H) (id off : Nat) : loadT Go.Proofs.Tryd.prog h 79 id off = @thn _ _ (h.blk id) ⟨fun b => b.get off⟩ := by kernel_rfl
attribute [go_sem] ld_79
theorem st_79 (h : H) (id off : Nat) (v : CV) : storeT Go.Proofs.Tryd.prog h 79 id off v = @thn _ _ (h.blk id) ⟨fun b => cond (Nat.beq v.cells.length 1 && !b.ro) ((b.storeA off v.cells).map fun b' => h.put id (.cells b')) none⟩ := by kernel_rfl
attribute [go_sem] st_79
theorem part_79 (cs : List CV) (off : Nat) : partT Go.Proofs.Tryd.prog 79 cs off = nth cs off := by kernel_rfl
attribute [go_sem] part_79
theorem ze_79 : zeroT Go.Proofs.Tryd.prog 79 = some (.nilp) := by kernel_rfl
attribute [go_sem] ze_79
theorem eq_79 (xo yo : Operand) (a b : Nat) : binT Go.Proofs.Tryd.prog .eql 79 xo yo (.ptr a b) .nilp = some (.bool false) := by kernel_rfl
attribute [go_sem] eq_79
theorem eq_79_n (xo yo : Operand) : binT Go.Proofs.Tryd.prog .eql 79 xo yo .nilp .nilp = some (.bool true) := by kernel_rfl
attribute [go_sem] eq_79_n
theorem ne_79 (xo yo : Operand) (a b : Nat) : binT Go.Proofs.Tryd.prog .neq 79 xo yo (.ptr a b) .nilp = some (.bool true) := by kernel_rfl
attribute [go_sem] ne_79
theorem ne_79_n (xo yo : Operand) : binT Go.Proofs.Tryd.prog .neq 79 xo yo .nilp .nilp = some (.bool false) := by kernel_rfl
attribute [go_sem] ne_79_n
theorem sz_80 : szOf Go.Proofs.Tryd.prog 80 = some 1 := by kernel_rfl
attribute [go_sem] sz_80
theorem ld_80 (h : H) (id off : Nat) : loadT Go.Proofs.Tryd.prog h 80 id off = @thn _ _ (h.blk id) ⟨fun b => b.get off⟩ := by kernel_rfl
attribute [go_sem] ld_80
theorem st_80 (h : H) (id off : Nat) (v : CV) : storeT Go.Proofs.Tryd.prog h 80 id off v = @thn _ _ (h.blk id) ⟨fun b => cond (Nat.beq v.cells.length 1 && !b.ro) ((b.storeA off v.cells).map fun b' => h.put id (.cells b')) none⟩ := by kernel_rfl
attribute [go_sem] st_80
theorem part_80 (cs : List CV) (off : Nat) : partT Go.Proofs.Tryd.prog 80 cs off = nth cs off := by kernel_rfl
attribute [go_sem] part_80
theorem ze_80 : zeroT Go.Proofs.Tryd.prog 80 = some (.nilf) := by kernel_rfl
attribute [go_sem] ze_80
theorem eq_80 (xo yo : Operand) (f : Fn) (a b : List CV) : binT Go.Proofs.Tryd.prog .eql 80 xo yo (.fn f a b) .nilf = some (.bool false) := by kernel_rfl
attribute [go_sem] eq_80
theorem eq_80_n (xo yo : Operand) : binT Go.Proofs.Tryd.prog .eql 80 xo yo .nilf .nilf = some (.bool true) := by kernel_rfl
attribute [go_sem] eq_80_n
theorem ne_80 (xo yo : Operand) (f : Fn) (a b : List CV) : binT Go.Proofs.Tryd.prog .neq 80 xo yo (.fn f a b) .nilf = some (.bool true) := by kernel_rfl
attribute [go_sem] ne_80
theorem ne_80_n (xo yo : Operand) : binT Go.Proofs.Tryd.prog .neq 80 xo yo .nilf .nilf = some (.bool false) := by kernel_rfl
attribute [go_sem] ne_80_n
theorem sz_81 : szOf Go.Proofs.Tryd.prog 81 = some 1 := by kernel_rfl
attribute [go_sem] sz_81
theorem ld_81 (h : H) (id off : Nat) : loadT Go.Proofs.Tryd.prog h 81 id off = @thn _ _ (h.blk id) ⟨fun b => b.get off⟩ := by kernel_rfl
attribute [go_sem] ld_81
theorem st_81 (h : H) (id off : Nat) (v : CV) : storeT Go.Proofs.Tryd.prog h 81 id off v = @thn _ _ (h.blk id) ⟨fun b => cond (Nat.beq v.cells.length 1 && !b.ro) ((b.storeA off v.cells).map fun b' => h.put id (.cells b')) none⟩ := by kernel_rfl
attribute [go_sem] st_81
theorem part_81 (cs : List CV) (off : Nat) : partT Go.Proofs.Tryd.prog 81 cs off = nth cs off := by kernel_rfl
attribute [go_sem] part_81
theorem ze_81 : zeroT Go.Proofs.Tryd.prog 81 = some (.nilf) := by kernel_rfl
attribute [go_sem] ze_81
theorem eq_81 (xo yo : Operand) (f : Fn) (a b : List CV) : binT Go.Proofs.Tryd.prog .eql 81 xo yo (.fn f a b) .nilf = some (.bool false) := by kernel_rfl
attribute [go_sem] eq_81
theorem eq_81_n (xo yo : Operand) : binT Go.Proofs.Tryd.prog .eql 81 xo yo .nilf .nilf = some (.bool true) := by kernel_rfl
attribute [go_sem] eq_81_n
theorem ne_81 (xo yo : Operand) (f : Fn) (a b : List CV) : binT Go.Proofs.Tryd.prog .neq 81 xo yo (.fn f a b) .nilf = some (.bool true) := by kernel_rfl
attribute [go_sem] ne_81
theorem ne_81_n (xo yo : Operand) : binT Go.Proofs.Tryd.prog .neq 81 xo yo .nilf .nilf = some (.bool false) := by kernel_rfl
attribute [go_sem] ne_81_n
theorem sz_82 : szOf Go.Proofs.Tryd.prog 82 = some 1 := by kernel_rfl
attribute [go_sem] sz_82
theorem ld_82 (h : H) (id off : Nat) : loadT Go.Proofs.Tryd.prog h 82 id off = @thn _ _ (h.blk id) ⟨fun b => b.get off⟩ := by kernel_rfl
attribute [go_sem] ld_82
theorem st_82 (h : H) (id off : Nat) (v : CV) : storeT Go.Proofs.Tryd.prog h 82 id off v = @thn _ _ (h.blk id) ⟨fun b => cond (Nat.beq v.cells.length 1 && !b.ro) ((b.storeA off v.cells).map fun b' => h.put id (.cells b')) none⟩ := by kernel_rfl
attribute [go_sem] st_82
theorem part_82 (cs : List CV) (off : Nat) : partT Go.Proofs.Tryd.prog 82 cs off = nth cs off := by kernel_rfl
attribute [go_sem] part_82
theorem ze_82 : zeroT Go.Proofs.Tryd.prog 82 = some (.nilf) := by kernel_rfl
attribute [go_sem] ze_82
theorem eq_82 (xo yo : Operand) (f : Fn) (a b : List CV) : binT Go.Proofs.Tryd.prog .eql 82 xo yo (.fn f a b) .nilf = some (.bool false) := by kernel_rfl
attribute [go_sem] eq_82
theorem eq_82_n (xo yo : Operand) : binT Go.Proofs.Tryd.prog .eql 82 xo yo .nilf .nilf = some (.bool true) := by kernel_rfl
attribute [go_sem] eq_82_n
theorem ne_82 (xo yo : Operand) (f : Fn) (a b : List CV) : binT Go.Proofs.Tryd.prog .neq 82 xo yo (.fn f a b) .nilf = some (.bool true) := by kernel_rfl
attribute [go_sem] ne_82
theorem ne_82_n (xo yo : Operand) : binT Go.Proofs.Tryd.prog .neq 82 xo yo .nilf .nilf = some (.bool false) := by kernel_rfl
attribute [go_sem] ne_82_n
theorem sz_83 : szOf Go.Proofs.Tryd.prog 83 = some 1 := by kernel_rfl
attribute [go_sem] sz_83
theorem ld_83 (h : H) (id off : Nat) : loadT Go.Proofs.Tryd.prog h 83 id off = @thn _ _ (h.blk id) ⟨fun b => b.get off⟩ := by kernel_rfl
attribute [go_sem] ld_83
theorem st_83 (h : H) (id off : Nat) (v : CV) : storeT Go.Proofs.Tryd.prog h 83 id off v = @thn _ _ (h.blk id) ⟨fun b => cond (Nat.beq v.cells.length 1 && !b.ro) ((b.storeA off v.cells).map fun b' => h.put id (.cells b')) none⟩ := by kernel_rfl
attribute [go_sem] st_83
theorem part_83 (cs : List CV) (off : Nat) : partT Go.Proofs.Tryd.prog 83 cs off = nth cs off := by kernel_rfl
attribute [go_sem] part_83
theorem ze_83 : zeroT Go.Proofs.Tryd.prog 83 = some (.nilf) := by kernel_rfl
attribute [go_sem] ze_83
theorem eq_83 (xo yo : Operand) (f : Fn) (a b : List CV) : binT Go.Proofs.Tryd.prog .eql 83 xo yo (.fn f a b) .nilf = some (.bool false) := by kernel_rfl
attribute [go_sem] eq_83
theorem eq_83_n (xo yo : Operand) : binT Go.Proofs.Tryd.prog .eql 83 xo yo .nilf .nilf = some (.bool true) := by kernel_rfl
attribute [go_sem] eq_83_n
theorem ne_83 (xo yo : Operand) (f : Fn) (a b : List CV) : binT Go.Proofs.Tryd.prog .neq 83 xo yo (.fn f a b) .nilf = some (.bool true) := by kernel_rfl
attribute [go_sem] ne_83
theorem ne_83_n (xo yo : Operand) : binT Go.Proofs.Tryd.prog .neq 83 xo yo .nilf .nilf = some (.bool false) := by kernel_rfl
attribute [go_sem] ne_83_n
theorem sz_84 : szOf Go.Proofs.Tryd.prog 84 = some 1 := by kernel_rfl
attribute [go_sem] sz_84
theorem ld_84 (h : H) (id off : Nat) : loadT Go.Proofs.Tryd.prog h 84 id off = @thn _ _ (h.blk id) ⟨fun b => b.get off⟩ := by kernel_rfl
attribute [go_sem] ld_84
theorem st_84 (h : H) (id off : Nat) (v : CV) : storeT Go.Proofs.Tryd.prog h 84 id off v = @thn _ _ (h.blk id) ⟨fun b => cond (Nat.beq v.cells.length 1 && !b.ro) ((b.storeA off v.cells).map fun b' => h.put id (.cells b')) none⟩ := by kernel_rfl
attribute [go_sem] st_84
theorem part_84 (cs : List CV) (off : Nat) : partT Go.Proofs.Tryd.prog 84 cs off = nth cs off := by kernel_rfl
attribute [go_sem] part_84
theorem ze_84 : zeroT Go.Proofs.Tryd.prog 84 = some (.nilf) := by kernel_rfl
attribute [go_sem] ze_84
theorem eq_84 (xo yo : Operand) (f : Fn) (a b : List CV) : binT Go.Proofs.Tryd.prog .eql 84 xo yo (.fn f a b) .nilf = some (.bool false) := by kernel_rfl
attribute [go_sem] eq_84
theorem eq_84_n (xo yo : Operand) : binT Go.Proofs.Tryd.prog .eql 84 xo yo .nilf .nilf = some (.bool true) := by kernel_rfl
attribute [go_sem] eq_84_n
theorem ne_84 (xo yo : Operand) (f : Fn) (a b : List CV) : binT Go.Proofs.Tryd.prog .neq 84 xo yo (.fn f a b) .nilf = some (.bool true) := by kernel_rfl
attribute [go_sem] ne_84
theorem ne_84_n (xo yo : Operand) : binT Go.Proofs.Tryd.prog .neq 84 xo yo .nilf .nilf = some (.bool false) := by kernel_rfl
attribute [go_sem] ne_84_n
theorem sz_85 : szOf Go.Proofs.Tryd.prog 85 = some 1 := by kernel_rfl
attribute [go_sem] sz_85
theorem ld_85 (h : H) (id off : Nat) : loadT Go.Proofs.Tryd.prog h 85 id off = @thn _ _ (h.blk id) ⟨fun b => b.get off⟩ := by kernel_rfl
attribute [go_sem] ld_85
theorem st_85 (h : H) (id off : Nat) (v : CV) : storeT Go.Proofs.Tryd.prog h 85 id off v = @thn _ _ (h.blk id) ⟨fun b => cond (Nat.beq v.cells.length 1 && !b.ro) ((b.storeA off v.cells).map fun b' => h.put id (.cells b')) none⟩ := by kernel_rfl
attribute [go_sem] st_85
theorem part_85 (cs : List CV) (off : Nat) : partT Go.Proofs.Tryd.prog 85 cs off = nth cs off := by kernel_rfl
attribute [go_sem] part_85
theorem ze_85 : zeroT Go.Proofs.Tryd.prog 85 = some (.nilf) := by kernel_rfl
attribute [go_sem] ze_85
theorem eq_85 (xo yo : Operand) (f : Fn) (a b : List CV) : binT Go.Proofs.Tryd.prog .eql 85 xo yo (.fn f a b) .nilf = some (.bool false) := by kernel_rfl
attribute [go_sem] eq_85
theorem eq_85_n (xo yo : Operand) : binT Go.Proofs.Tryd.prog .eql 85 xo yo .nilf .nilf = some (.bool true) := by kernel_rfl
attribute [go_sem] eq_85_n
theorem ne_85 (xo yo : Operand) (f : Fn) (a b : List CV) : binT Go.Proofs.Tryd.prog .neq 85 xo yo (.fn f a b) .nilf = some (.bool true) := by kernel_rfl
attribute [go_sem] ne_85
theorem ne_85_n (xo yo : Operand) : binT Go.Proofs.Tryd.prog .neq 85 xo yo .nilf .nilf = some (.bool false) := by kernel_rfl
attribute [go_sem] ne_85_n
theorem sz_86 : szOf Go.Proofs.Tryd.prog 86 = some 1 := by kernel_rfl
attribute [go_sem] sz_86
theorem ld_86 (h : H) (id off : Nat) : loadT Go.Proofs.Tryd.prog h 86 id off = @thn _ _ (h.blk id) ⟨fun b => b.get off⟩ := by kernel_rfl
attribute [go_sem] ld_86
theorem st_86 (h : H) (id off : Nat) (v : CV) : storeT Go.Proofs.Tryd.prog h 86 id off v = @thn _ _ (h.blk id) ⟨fun b => cond (Nat.beq v.cells.length 1 && !b.ro) ((b.storeA off v.cells).map fun b' => h.put id (.cells b')) none⟩ := by kernel_rfl
attribute [go_sem] st_86
theorem part_86 (cs : List CV) (off : Nat) : partT Go.Proofs.Tryd.prog 86 cs off = nth cs off := by kernel_rfl
attribute [go_sem] part_86
theorem ze_86 : zeroT Go.Proofs.Tryd.prog 86 = some (.nilp) := by kernel_rfl
attribute [go_sem] ze_86
theorem eq_86 (xo yo : Operand) (a b : Nat) : binT Go.Proofs.Tryd.prog .eql 86 xo yo (.ptr a b) .nilp = some (.bool false) := by kernel_rfl
attribute [go_sem] eq_86
theorem eq_86_n (xo yo : Operand) : binT Go.Proofs.Tryd.prog .eql 86 xo yo .nilp .nilp = some (.bool true) := by kernel_rfl
attribute [go_sem] eq_86_n
theorem ne_86 (xo yo : Operand) (a b : Nat) : binT Go.Proofs.Tryd.prog .neq 86 xo yo (.ptr a b) .nilp = some (.bool true) := by kernel_rfl
attribute [go_sem] ne_86
theorem ne_86_n (xo yo : Operand) : binT Go.Proofs.Tryd.prog .neq 86 xo yo .nilp .nilp = some (.bool false) := by kernel_rfl
attribute [go_sem] ne_86_n
theorem sz_87 : szOf Go.Proofs.Tryd.prog 87 = some 2 := by kernel_rfl
attribute [go_sem] sz_87
theorem ld_87 (h : H) (id off : Nat) : loadT Go.Proofs.Tryd.prog h 87 id off = @thn _ _ (h.blk id) ⟨fun b => (b.loadN off 2).map .agg⟩ := by kernel_rfl
attribute [go_sem] ld_87
theorem st_87 (h : H) (id off : Nat) (v : CV) : storeT Go.Proofs.Tryd.prog h 87 id off v = @thn _ _ (h.blk id) ⟨fun b => cond (Nat.beq v.cells.length 2 && !b.ro) ((b.storeA off v.cells).map fun b' => h.put id (.cells b')) none⟩ := by kernel_rfl
attribute [go_sem] st_87
theorem part_87 (cs : List CV) (off : Nat) : partT Go.Proofs.Tryd.prog 87 cs off = some (.agg ((cs.drop off).take 2)) := by kernel_rfl
attribute [go_sem] part_87
theorem ze_87 : zeroT Go.Proofs.Tryd.prog 87 = some (.agg [.nils, .bool false]) := by kernel_rfl
attribute [go_sem] ze_87
theorem bt_87 (parts : List (Nat × CV)) : buildT Go.Proofs.Tryd.prog 87 parts = finB (CV.cells (.agg [.nils, .bool false])) (nth [(0, 1), (1, 1)]) parts := by kernel_rfl
attribute [go_sem] bt_87
theorem fa_87_0 (id off : Nat) : fieldAddrT Go.Proofs.Tryd.prog 87 (.ptr id off) 0 = some (.ptr id (off)) := by kernel_rfl
attribute [go_sem] fa_87_0
theorem fd_87_0 (cs : List CV) : fieldT Go.Proofs.Tryd.prog 87 (.agg cs) 0 = partT Go.Proofs.Tryd.prog 24 cs 0 := by kernel_rfl
attribute [go_sem] fd_87_0
theorem fa_87_1 (id off : Nat) : fieldAddrT Go.Proofs.Tryd.prog 87 (.ptr id off) 1 = some (.ptr id (off + 1)) := by kernel_rfl
attribute [go_sem] fa_87_1
theorem fd_87_1 (cs : List CV) : fieldT Go.Proofs.Tryd.prog 87 (.agg cs) 1 = partT Go.Proofs.Tryd.prog 4 cs 1 := by kernel_rfl
attribute [go_sem] fd_87_1
theorem sz_88 : szOf Go.Proofs.Tryd.prog 88 = some 2 := by kernel_rfl
attribute [go_sem] sz_88
theorem ld_88 (h : H) (id off : Nat) : loadT Go.Proofs.Tryd.prog h 88 id off = @thn _ _ (h.blk id) ⟨fun b => (b.loadN off 2).map .agg⟩ := by kernel_rfl
attribute [go_sem] ld_88
theorem st_88 (h : H) (id off : Nat) (v : CV) : storeT Go.Proofs.Tryd.prog h 88 id off v = @thn _ _ (h.blk id) ⟨fun b => cond (Nat.beq v.cells.length 2 && !b.ro) ((b.storeA off v.cells).map fun b' => h.put id (.cells b')) none⟩ := by kernel_rfl
attribute [go_sem] st_88
theorem part_88 (cs : List CV) (off : Nat) : partT Go.Proofs.Tryd.prog 88 cs off = some (.agg ((cs.drop off).take 2)) := by kernel_rfl
attribute [go_sem] part_88
theorem ze_88 : zeroT Go.Proofs.Tryd.prog 88 = some (.agg [.nils, .bool false]) := by kernel_rfl
attribute [go_sem] ze_88
theorem bt_88 (parts : List (Nat × CV)) : buildT Go.Proofs.Tryd.prog 88 parts = finB (CV.cells (.agg [.nils, .bool false])) (nth [(0, 1), (1, 1)]) parts := by kernel_rfl
attribute [go_sem] bt_88
theorem fa_88_0 (id off : Nat) : fieldAddrT Go.Proofs.Tryd.prog 88 (.ptr id off) 0 = some (.ptr id (off)) := by kernel_rfl
attribute [go_sem] fa_88_0
theorem fd_88_0 (cs : List CV) : fieldT Go.Proofs.Tryd.prog 88 (.agg cs) 0 = partT Go.Proofs.Tryd.prog 24 cs 0 := by kernel_rfl
attribute [go_sem] fd_88_0
theorem fa_88_1 (id off : Nat) : fieldAddrT Go.Proofs.Tryd.prog 88 (.ptr id off) 1 = some (.ptr id (off + 1)) := by kernel_rfl
attribute [go_sem] fa_88_1
theorem fd_88_1 (cs : List CV) : fieldT Go.Proofs.Tryd.prog 88 (.agg cs) 1 = partT Go.Proofs.Tryd.prog 4 cs 1 := by kernel_rfl
attribute [go_sem] fd_88_1
theorem sz_89 : szOf Go.Proofs.Tryd.prog 89 = some 1 := by kernel_rfl
attribute [go_sem] sz_89
theorem ld_89 (h : H) (id off : Nat) : loadT Go.Proofs.Tryd.prog h 89 id off = @thn _ _ (h.blk id) ⟨fun b => b.get off⟩ := by kernel_rfl
attribute [go_sem] ld_89
theorem st_89 (h : H) (id off : Nat) (v : CV) : storeT Go.Proofs.Tryd.prog h 89 id off v = @thn _ _ (h.blk id) ⟨fun b => cond (Nat.beq v.cells.length 1 && !b.ro) ((b.storeA off v.cells).map fun b' => h.put id (.cells b')) none⟩ := by kernel_rfl
attribute [go_sem] st_89
theorem part_89 (cs : List CV) (off : Nat) : partT Go.Proofs.Tryd.prog 89 cs off = nth cs off := by kernel_rfl
attribute [go_sem] part_89
theorem ze_89 : zeroT Go.Proofs.Tryd.prog 89 = some (.nilf) := by kernel_rfl
attribute [go_sem] ze_89
theorem eq_89 (xo yo : Operand) (f : Fn) (a b : List CV) : binT Go.Proofs.Tryd.prog .eql 89 xo yo (.fn f a b) .nilf = some (.bool false) := by kernel_rfl
attribute [go_sem] eq_89
theorem eq_89_n (xo yo : Operand) : binT Go.Proofs.Tryd.prog .eql 89 xo yo .nilf .nilf = some (.bool true) := by kernel_rfl
attribute [go_sem] eq_89_n
theorem ne_89 (xo yo : Operand) (f : Fn) (a b : List CV) : binT Go.Proofs.Tryd.prog .neq 89 xo yo (.fn f a b) .nilf = some (.bool true) := by kernel_rfl
attribute [go_sem] ne_89
theorem ne_89_n (xo yo : Operand) : binT Go.Proofs.Tryd.prog .neq 89 xo yo .nilf .nilf = some (.bool false) := by kernel_rfl
attribute [go_sem] ne_89_n
theorem sz_90 : szOf Go.Proofs.Tryd.prog 90 = some 1 := by kernel_rfl
attribute [go_sem] sz_90
theorem ld_90 (h : H) (id off : Nat) : loadT Go.Proofs.Tryd.prog h 90 id off = @thn _ _ (h.blk id) ⟨fun b => b.get off⟩ := by kernel_rfl
attribute [go_sem] ld_90
theorem st_90 (h : H) (id off : Nat) (v : CV) : storeT Go.Proofs.Tryd.prog h 90 id off v = @thn _ _ (h.blk id) ⟨fun b => cond (Nat.beq v.cells.length 1 && !b.ro) ((b.storeA off v.cells).map fun b' => h.put id (.cells b')) none⟩ := by kernel_rfl
attribute [go_sem] st_90
theorem part_90 (cs : List CV) (off : Nat) : partT Go.Proofs.Tryd.prog 90 cs off = nth cs off := by kernel_rfl
attribute [go_sem] part_90
theorem ze_90 : zeroT Go.Proofs.Tryd.prog 90 = some (.nilf) := by kernel_rfl
attribute [go_sem] ze_90
theorem eq_90 (xo yo : Operand) (f : Fn) (a b : List CV) : binT Go.Proofs.Tryd.prog .eql 90 xo yo (.fn f a b) .nilf = some (.bool false) := by kernel_rfl
attribute [go_sem] eq_90
theorem eq_90_n (xo yo : Operand) : binT Go.Proofs.Tryd.prog .eql 90 xo yo .nilf .nilf = some (.bool true) := by kernel_rfl
attribute [go_sem] eq_90_n
theorem ne_90 (xo yo : Operand) (f : Fn) (a b : List CV) : binT Go.Proofs.Tryd.prog .neq 90 xo yo (.fn f a b) .nilf = some (.bool true) := by kernel_rfl
attribute [go_sem] ne_90
theorem ne_90_n (xo yo : Operand) : binT Go.Proofs.Tryd.prog .neq 90 xo yo .nilf .nilf = some (.bool false) := by kernel_rfl
attribute [go_sem] ne_90_n
theorem sz_91 : szOf Go.Proofs.Tryd.prog 91 = some 1 := by kernel_rfl
attribute [go_sem] sz_91
theorem ld_91 (h : H) (id off : Nat) : loadT Go.Proofs.Tryd.prog h 91 id off = @thn _ _ (h.blk id) ⟨fun b => b.get off⟩ := by kernel_rfl
attribute [go_sem] ld_91
theorem st_91 (h : H) (id off : Nat) (v : CV) : storeT Go.Proofs.Tryd.prog h 91 id off v = @thn _ _ (h.blk id) ⟨fun b => cond (Nat.beq v.cells.length 1 && !b.ro) ((b.storeA off v.cells).map fun b' => h.put id (.cells b')) none⟩ := by kernel_rfl
attribute [go_sem] st_91
theorem part_91 (cs : List CV) (off : Nat) : partT Go.Proofs.Tryd.prog 91 cs off = nth cs off := by kernel_rfl
attribute [go_sem] part_91
theorem ze_91 : zeroT Go.Proofs.Tryd.prog 91 = some (.nilf) := by kernel_rfl
attribute [go_sem] ze_91
theorem eq_91 (xo yo : Operand) (f : Fn) (a b : List CV) : binT Go.Proofs.Tryd.prog .eql 91 xo yo (.fn f a b) .nilf = some (.bool false) := by kernel_rfl
attribute [go_sem] eq_91
theorem eq_91_n (xo yo : Operand) : binT Go.Proofs.Tryd.prog .eql 91 xo yo .nilf .nilf = some (.bool true) := by kernel_rfl
attribute [go_sem] eq_91_n
theorem ne_91 (xo yo : Operand) (f : Fn) (a b : List CV) : binT Go.Proofs.Tryd.prog .neq 91 xo yo (.fn f a b) .nilf = some (.bool true) := by kernel_rfl
attribute [go_sem] ne_91
theorem ne_91_n (xo yo : Operand) : binT Go.Proofs.Tryd.prog .neq 91 xo yo .nilf .nilf = some (.bool false) := by kernel_rfl
attribute [go_sem] ne_91_n
theorem sz_92 : szOf Go.Proofs.Tryd.prog 92 = some 1 := by kernel_rfl
attribute [go_sem] sz_92
theorem ld_92 (h : H) (id off : Nat) : loadT Go.Proofs.Tryd.prog h 92 id off = @thn _ _ (h.blk id) ⟨fun b => b.get off⟩ := by kernel_rfl
attribute [go_sem] ld_92
theorem st_92 (h : H) (id off : Nat) (v : CV) : storeT Go.Proofs.Tryd.prog h 92 id off v = @thn _ _ (h.blk id) ⟨fun b => cond (Nat.beq v.cells.length 1 && !b.ro) ((b.storeA off v.cells).map fun b' => h.put id (.cells b')) none⟩ := by kernel_rfl
attribute [go_sem] st_92
theorem part_92 (cs : List CV) (off : Nat) : partT Go.Proofs.Tryd.prog 92 cs off = nth cs off := by kernel_rfl
attribute [go_sem] part_92
theorem ze_92 : zeroT Go.Proofs.Tryd.prog 92 = some (.int .u64 0) := by kernel_rfl
attribute [go_sem] ze_92
theorem sz_93 : szOf Go.Proofs.Tryd.prog 93 = some 1 := by kernel_rfl
attribute [go_sem] sz_93
theorem ld_93 (h : H) (id off : Nat) : loadT Go.Proofs.Tryd.prog h 93 id off = @thn _ _ (h.blk id) ⟨fun b => b.get off⟩ := by kernel_rfl
attribute [go_sem] ld_93
theorem st_93 (h : H) (id off : Nat) (v : CV) : storeT Go.Proofs.Tryd.prog h 93 id off v = @thn _ _ (h.blk id) ⟨fun b => cond (Nat.beq v.cells.length 1 && !b.ro) ((b.storeA off v.cells).map fun b' => h.put id (.cells b')) none⟩ := by kernel_rfl
attribute [go_sem] st_93
theorem part_93 (cs : List CV) (off : Nat) : partT Go.Proofs.Tryd.prog 93 cs off = nth cs off := by kernel_rfl
attribute [go_sem] part_93
theorem ze_93 : zeroT Go.Proofs.Tryd.prog 93 = some (.nilf) := by kernel_rfl
attribute [go_sem] ze_93
theorem eq_93 (xo yo : Operand) (f : Fn) (a b : List CV) : binT Go.Proofs.Tryd.prog .eql 93 xo yo (.fn f a b) .nilf = some (.bool false) := by kernel_rfl
attribute [go_sem] eq_93
theorem eq_93_n (xo yo : Operand) : binT Go.Proofs.Tryd.prog .eql 93 xo yo .nilf .nilf = some (.bool true) := by kernel_rfl
attribute [go_sem] eq_93_n
theorem ne_93 (xo yo : Operand) (f : Fn) (a b : List CV) : binT Go.Proofs.Tryd.prog .neq 93 xo yo (.fn f a b) .nilf = some (.bool true) := by kernel_rfl
attribute [go_sem] ne_93
theorem ne_93_n (xo yo : Operand) : binT Go.Proofs.Tryd.prog .neq 93 xo yo .nilf .nilf = some (.bool false) := by kernel_rfl
attribute [go_sem] ne_93_n
theorem sz_94 : szOf Go.Proofs.Tryd.prog 94 = some 1 := by kernel_rfl
attribute [go_sem] sz_94
theorem ld_94 (h : H) (id off : Nat) : loadT Go.Proofs.Tryd.prog h 94 id off = @thn _ _ (h.blk id) ⟨fun b => b.get off⟩ := by kernel_rfl
attribute [go_sem] ld_94
theorem st_94 (h : H) (id off : Nat) (v : CV) : storeT Go.Proofs.Tryd.prog h 94 id off v = @thn _ _ (h.blk id) ⟨fun b => cond (Nat.beq v.cells.length 1 && !b.ro) ((b.storeA off v.cells).map fun b' => h.put id (.cells b')) none⟩ := by kernel_rfl
attribute [go_sem] st_94
theorem part_94 (cs : List CV) (off : Nat) : partT Go.Proofs.Tryd.prog 94 cs off = nth cs off := by kernel_rfl
attribute [go_sem] part_94
theorem ze_94 : zeroT Go.Proofs.Tryd.prog 94 = some (.nils) := by kernel_rfl
attribute [go_sem] ze_94
theorem ia_94 (id off len k : Nat) (c : Cap) (kd : IntKind) : indexAddrT Go.Proofs.Tryd.prog 94 (.sl id off len c) (.int kd (Int.ofNat k)) = cond (Nat.blt k len) (some (.ptr id (off + k * 256))) none := by kernel_rfl
attribute [go_sem] ia_94
theorem len_94 (h : H) (id off len : Nat) (c : Cap) (ts : List TypeId) (az : List CV) : builtinT Go.Proofs.Tryd.prog h .len (94 :: ts) (.sl id off len c :: az) = some (.val (.int .i64 (Int.ofNat len))) := by kernel_rfl
attribute [go_sem] len_94
theorem len_94_n (h : H) (ts : List TypeId) (az : List CV) : builtinT Go.Proofs.Tryd.prog h .len (94 :: ts) (.nils :: az) = some (.val (.int .i64 0)) := by kernel_rfl
attribute [go_sem] len_94_n
theorem app_94 (h : H) (s : CV) (id off len : Nat) (c : Cap) (ts : List TypeId) (az : List CV) : builtinT Go.Proofs.Tryd.prog h .append (94 :: 94 :: ts) (s :: .sl id off len c :: az) = uv (appendT Go.Proofs.Tryd.prog h 94 s (.sl id off len c)) := by kernel_rfl
attribute [go_sem] app_94
theorem app_94_n (h : H) (s : CV) (ts : List TypeId) (az : List CV) : builtinT Go.Proofs.Tryd.prog h .append (94 :: 94 :: ts) (s :: .nils :: az) = uv (appendT Go.Proofs.Tryd.prog h 94 s .nils) := by kernel_rfl
attribute [go_sem] app_94_n
theorem ap_94 (h : H) (s : CV) (id off len : Nat) (c : Cap) : appendT Go.Proofs.Tryd.prog h 94 s (.sl id off len c) = appS h 256 256 256 s len (firstC h 256 len (.sl id off len c)) := by kernel_rfl
attribute [go_sem] ap_94
theorem ap_94_n (h : H) (s : CV) : appendT Go.Proofs.Tryd.prog h 94 s .nils = appS h 256 256 256 s 0 (some []) := by kernel_rfl
attribute [go_sem] ap_94_n
theorem ap_94_z (h : H) (s : CV) (a b c d : Nat) : appendT Go.Proofs.Tryd.prog h 94 s (.sl0 a b c d) = appS h 256 256 256 s 0 (some []) := by kernel_rfl
attribute [go_sem] ap_94_z
theorem ms_94 (h : H) (l c : Nat) (k k' : IntKind) : makeSliceT Go.Proofs.Tryd.prog h 94 (.int k (Int.ofNat l)) (.int k' (Int.ofNat c)) = mkS h 256 256 (zeroT Go.Proofs.Tryd.prog 40) l c := by kernel_rfl
attribute [go_sem] ms_94
theorem eq_94 (xo yo : Operand) (a b c : Nat) (d : Cap) : binT Go.Proofs.Tryd.prog .eql 94 xo yo (.sl a b c d) .nils = some (.bool false) := by kernel_rfl
attribute [go_sem] eq_94
theorem eq_94_n (xo yo : Operand) : binT Go.Proofs.Tryd.prog .eql 94 xo yo .nils .nils = some (.bool true) := by kernel_rfl
attribute [go_sem] eq_94_n
theorem eq_94_z (xo yo : Operand) (a b c d : Nat) : binT Go.Proofs.Tryd.prog .eql 94 xo yo (.sl0 a b c d) .nils = some (.bool false) := by kernel_rfl
attribute [go_sem] eq_94_z
theorem ne_94 (xo yo : Operand) (a b c : Nat) (d : Cap) : binT Go.Proofs.Tryd.prog .neq 94 xo yo (.sl a b c d) .nils = some (.bool true) := by kernel_rfl
attribute [go_sem] ne_94
theorem ne_94_n (xo yo : Operand) : binT Go.Proofs.Tryd.prog .neq 94 xo yo .nils .nils = some (.bool false) := by kernel_rfl
attribute [go_sem] ne_94_n
theorem ne_94_z (xo yo : Operand) (a b c d : Nat) : binT Go.Proofs.Tryd.prog .neq 94 xo yo (.sl0 a b c d) .nils = some (.bool true) := by kernel_rfl
attribute [go_sem] ne_94_z
theorem len_94_z (h : H) (a b c d : Nat) (ts : List TypeId) (az : List CV) : builtinT Go.Proofs.Tryd.prog h .len (94 :: ts) (.sl0 a b c d :: az) = some (.val (.int .i64 0)) := by kernel_rfl
attribute [go_sem] len_94_z
theorem app_94_z (h : H) (s : CV) (a b c d : Nat) (ts : List TypeId) (az : List CV) : builtinT Go.Proofs.Tryd.prog h .append (94 :: 94 :: ts) (s :: .sl0 a b c d :: az) = uv (appendT Go.Proofs.Tryd.prog h 94 s (.sl0 a b c d)) := by kernel_rfl
attribute [go_sem] app_94_z
theorem sz_95 : szOf Go.Proofs.Tryd.prog 95 = some 1 := by kernel_rfl
attribute [go_sem] sz_95
theorem ld_95 (h : H) (id off : Nat) : loadT Go.Proofs.Tryd.prog h 95 id off = @thn _ _ (h.blk id) ⟨fun b => b.get off⟩ := by kernel_rfl
attribute [go_sem] ld_95
theorem st_95 (h : H) (id off : Nat) (v : CV) : storeT Go.Proofs.Tryd.prog h 95 id off v = @thn _ _ (h.blk id) ⟨fun b => cond (Nat.beq v.cells.length 1 && !b.ro) ((b.storeA off v.cells).map fun b' => h.put id (.cells b')) none⟩ := by kernel_rfl
attribute [go_sem] st_95
theorem part_95 (cs : List CV) (off : Nat) : partT Go.Proofs.Tryd.prog 95 cs off = nth cs off := by kernel_rfl
attribute [go_sem] part_95
theorem ze_95 : zeroT Go.Proofs.Tryd.prog 95 = some (.nilm) := by kernel_rfl
attribute [go_sem] ze_95
theorem eq_95 (xo yo : Operand) (a : Nat) : binT Go.Proofs.Tryd.prog .eql 95 xo yo (.map a) .nilm = some (.bool false) := by kernel_rfl
attribute [go_sem] eq_95
theorem eq_95_n (xo yo : Operand) : binT Go.Proofs.Tryd.prog .eql 95 xo yo .nilm .nilm = some (.bool true) := by kernel_rfl
attribute [go_sem] eq_95_n
theorem ne_95 (xo yo : Operand) (a : Nat) : binT Go.Proofs.Tryd.prog .neq 95 xo yo (.map a) .nilm = some (.bool true) := by kernel_rfl
attribute [go_sem] ne_95
theorem ne_95_n (xo yo : Operand) : binT Go.Proofs.Tryd.prog .neq 95 xo yo .nilm .nilm = some (.bool false) := by kernel_rfl
attribute [go_sem] ne_95_n
theorem sz_96 : szOf Go.Proofs.Tryd.prog 96 = some 6 := by kernel_rfl
attribute [go_sem] sz_96
theorem ld_96 (h : H) (id off : Nat) : loadT Go.Proofs.Tryd.prog h 96 id off = @thn _ _ (h.blk id) ⟨fun b => (b.loadN off 6).map .agg⟩ := by kernel_rfl
attribute [go_sem] ld_96
theorem st_96 (h : H) (id off : Nat) (v : CV) : storeT Go.Proofs.Tryd.prog h 96 id off v = @thn _ _ (h.blk id) ⟨fun b => cond (Nat.beq v.cells.length 6 && !b.ro) ((b.storeA off v.cells).map fun b' => h.put id (.cells b')) none⟩ := by kernel_rfl
attribute [go_sem] st_96
theorem part_96 (cs : List CV) (off : Nat) : partT Go.Proofs.Tryd.prog 96 cs off = some (.agg ((cs.drop off).take 6)) := by kernel_rfl
attribute [go_sem] part_96
theorem ze_96 : zeroT Go.Proofs.Tryd.prog 96 = some (.agg [.nils, .nilm, .bool false, .int .i64 0, .bool false, .bool false]) := by kernel_rfl
attribute [go_sem] ze_96
theorem bt_96 (parts : List (Nat × CV)) : buildT Go.Proofs.Tryd.prog 96 parts = finB (CV.cells (.agg [.nils, .nilm, .bool false, .int .i64 0, .bool false, .bool false])) (nth [(0, 1), (1, 1), (2, 1), (3, 1), (4, 1), (5, 1)]) parts := by kernel_rfl
attribute [go_sem] bt_96
theorem fa_96_0 (id off : Nat) : fieldAddrT Go.Proofs.Tryd.prog 96 (.ptr id off) 0 = some (.ptr id (off)) := by kernel_rfl
attribute [go_sem] fa_96_0
theorem fd_96_0 (cs : List CV) : fieldT Go.Proofs.Tryd.prog 96 (.agg cs) 0 = partT Go.Proofs.Tryd.prog 94 cs 0 := by kernel_rfl
attribute [go_sem] fd_96_0
theorem fa_96_1 (id off : Nat) : fieldAddrT Go.Proofs.Tryd.prog 96 (.ptr id off) 1 = some (.ptr id (off + 1)) := by kernel_rfl
attribute [go_sem] fa_96_1
theorem fd_96_1 (cs : List CV) : fieldT Go.Proofs.Tryd.prog 96 (.agg cs) 1 = partT Go.Proofs.Tryd.prog 95 cs 1 := by kernel_rfl
attribute [go_sem] fd_96_1
theorem fa_96_2 (id off : Nat) : fieldAddrT Go.Proofs.Tryd.prog 96 (.ptr id off) 2 = some (.ptr id (off + 2)) := by kernel_rfl
attribute [go_sem] fa_96_2
theorem fd_96_2 (cs : List CV) : fieldT Go.Proofs.Tryd.prog 96 (.agg cs) 2 = partT Go.Proofs.Tryd.prog 4 cs 2 := by kernel_rfl
attribute [go_sem] fd_96_2
theorem fa_96_3 (id off : Nat) : fieldAddrT Go.Proofs.Tryd.prog 96 (.ptr id off) 3 = some (.ptr id (off + 3)) := by kernel_rfl
attribute [go_sem] fa_96_3
theorem fd_96_3 (cs : List CV) : fieldT Go.Proofs.Tryd.prog 96 (.agg cs) 3 = partT Go.Proofs.Tryd.prog 3 cs 3 := by kernel_rfl
attribute [go_sem] fd_96_3
theorem fa_96_4 (id off : Nat) : fieldAddrT Go.Proofs.Tryd.prog 96 (.ptr id off) 4 = some (.ptr id (off + 4)) := by kernel_rfl
attribute [go_sem] fa_96_4
theorem fd_96_4 (cs : List CV) : fieldT Go.Proofs.Tryd.prog 96 (.agg cs) 4 = partT Go.Proofs.Tryd.prog 4 cs 4 := by kernel_rfl
attribute [go_sem] fd_96_4
theorem fa_96_5 (id off : Nat) : fieldAddrT Go.Proofs.Tryd.prog 96 (.ptr id off) 5 = some (.ptr id (off + 5)) := by kernel_rfl
attribute [go_sem] fa_96_5
theorem fd_96_5 (cs : List CV) : fieldT Go.Proofs.Tryd.prog 96 (.agg cs) 5 = partT Go.Proofs.Tryd.prog 4 cs 5 := by kernel_rfl
attribute [go_sem] fd_96_5
theorem sz_98 : szOf Go.Proofs.Tryd.prog 98 = some 1 := by kernel_rfl
attribute [go_sem] sz_98
theorem ld_98 (h : H) (id off : Nat) : loadT Go.Proofs.Tryd.prog h 98 id off = @thn _ _ (h.blk id) ⟨fun b => b.get off⟩ := by kernel_rfl
attribute [go_sem] ld_98
theorem st_98 (h : H) (id off : Nat) (v : CV) : storeT Go.Proofs.Tryd.prog h 98 id off v = @thn _ _ (h.blk id) ⟨fun b => cond (Nat.beq v.cells.length 1 && !b.ro) ((b.storeA off v.cells).map fun b' => h.put id (.cells b')) none⟩ := by kernel_rfl
attribute [go_sem] st_98
theorem part_98 (cs : List CV) (off : Nat) : partT Go.Proofs.Tryd.prog 98 cs off = nth cs off := by kernel_rfl
attribute [go_sem] part_98
theorem ze_98 : zeroT Go.Proofs.Tryd.prog 98 = some (.nilf) := by kernel_rfl
attribute [go_sem] ze_98
theorem eq_98 (xo yo : Operand) (f : Fn) (a b : List CV) : binT Go.Proofs.Tryd.prog .eql 98 xo yo (.fn f a b) .nilf = some (.bool false) := by kernel_rfl
attribute [go_sem] eq_98
theorem eq_98_n (xo yo : Operand) : binT Go.Proofs.Tryd.prog .eql 98 xo yo .nilf .nilf = some (.bool true) := by kernel_rfl
attribute [go_sem] eq_98_n
theorem ne_98 (xo yo : Operand) (f : Fn) (a b : List CV) : binT Go.Proofs.Tryd.prog .neq 98 xo yo (.fn f a b) .nilf = some (.bool true) := by kernel_rfl
attribute [go_sem] ne_98
theorem ne_98_n (xo yo : Operand) : binT Go.Proofs.Tryd.prog .neq 98 xo yo .nilf .nilf = some (.bool false) := by kernel_rfl
attribute [go_sem] ne_98_n
theorem sz_99 : szOf Go.Proofs.Tryd.prog 99 = some 1 := by kernel_rfl
attribute [go_sem] sz_99
theorem ld_99 (h : H) (id off : Nat) : loadT Go.Proofs.Tryd.prog h 99 id off = @thn _ _ (h.blk id) ⟨fun b => b.get off⟩ := by kernel_rfl
attribute [go_sem] ld_99
theorem st_99 (h : H) (id off : Nat) (v : CV) : storeT Go.Proofs.Tryd.prog h 99 id off v = @thn _ _ (h.blk id) ⟨fun b => cond (Nat.beq v.cells.length 1 && !b.ro) ((b.storeA off v.cells).map fun b' => h.put id (.cells b')) none⟩ := by kernel_rfl
attribute [go_sem] st_99
theorem part_99 (cs : List CV) (off : Nat) : partT Go.Proofs.Tryd.prog 99 cs off = nth cs off := by kernel_rfl
attribute [go_sem] part_99
theorem ze_99 : zeroT Go.Proofs.Tryd.prog 99 = some (.nils) := by kernel_rfl
attribute [go_sem] ze_99
theorem ia_99 (id off len k : Nat) (c : Cap) (kd : IntKind) : indexAddrT Go.Proofs.Tryd.prog 99 (.sl id off len c) (.int kd (Int.ofNat k)) = cond (Nat.blt k len) (some (.ptr id (off + k * 1))) none := by kernel_rfl
attribute [go_sem] ia_99
theorem len_99 (h : H) (id off len : Nat) (c : Cap) (ts : List TypeId) (az : List CV) : builtinT Go.Proofs.Tryd.prog h .len (99 :: ts) (.sl id off len c :: az) = some (.val (.int .i64 (Int.ofNat len))) := by kernel_rfl
attribute [go_sem] len_99
theorem len_99_n (h : H) (ts : List TypeId) (az : List CV) : builtinT Go.Proofs.Tryd.prog h .len (99 :: ts) (.nils :: az) = some (.val (.int .i64 0)) := by kernel_rfl
attribute [go_sem] len_99_n
theorem app_99 (h : H) (s : CV) (id off len : Nat) (c : Cap) (ts : List TypeId) (az : List CV) : builtinT Go.Proofs.Tryd.prog h .append (99 :: 99 :: ts) (s :: .sl id off len c :: az) = uv (appendT Go.Proofs.Tryd.prog h 99 s (.sl id off len c)) := by kernel_rfl
attribute [go_sem] app_99
theorem app_99_n (h : H) (s : CV) (ts : List TypeId) (az : List CV) : builtinT Go.Proofs.Tryd.prog h .append (99 :: 99 :: ts) (s :: .nils :: az) = uv (appendT Go.Proofs.Tryd.prog h 99 s .nils) := by kernel_rfl
attribute [go_sem] app_99_n
theorem ap_99 (h : H) (s : CV) (id off len : Nat) (c : Cap) : appendT Go.Proofs.Tryd.prog h 99 s (.sl id off len c) = appS h 1 8 1 s len (firstC h 1 len (.sl id off len c)) := by kernel_rfl
attribute [go_sem] ap_99
theorem ap_99_n (h : H) (s : CV) : appendT Go.Proofs.Tryd.prog h 99 s .nils = appS h 1 8 1 s 0 (some []) := by kernel_rfl
attribute [go_sem] ap_99_n
theorem ap_99_z (h : H) (s : CV) (a b c d : Nat) : appendT Go.Proofs.Tryd.prog h 99 s (.sl0 a b c d) = appS h 1 8 1 s 0 (some []) := by kernel_rfl
attribute [go_sem] ap_99_z
theorem bs_99 (h : H) (n : Nat) (parts : List (Nat × CV)) : buildSliceT Go.Proofs.Tryd.prog h 99 n parts = bslS h 1 (CV.cells (.int .i64 0)) n parts := by kernel_rfl
attribute [go_sem] bs_99
theorem ms_99 (h : H) (l c : Nat) (k k' : IntKind) : makeSliceT Go.Proofs.Tryd.prog h 99 (.int k (Int.ofNat l)) (.int k' (Int.ofNat c)) = mkS h 1 8 (zeroT Go.Proofs.Tryd.prog 3) l c := by kernel_rfl
attribute [go_sem] ms_99
theorem eq_99 (xo yo : Operand) (a b c : Nat) (d : Cap) : binT Go.Proofs.Tryd.prog .eql 99 xo yo (.sl a b c d) .nils = some (.bool false) := by kernel_rfl
attribute [go_sem] eq_99
theorem eq_99_n (xo yo : Operand) : binT Go.Proofs.Tryd.prog .eql 99 xo yo .nils .nils = some (.bool true) := by kernel_rfl
attribute [go_sem] eq_99_n
theorem eq_99_z (xo yo : Operand) (a b c d : Nat) : binT Go.Proofs.Tryd.prog .eql 99 xo yo (.sl0 a b c d) .nils = some (.bool false) := by kernel_rfl
attribute [go_sem] eq_99_z
theorem ne_99 (xo yo : Operand) (a b c : Nat) (d : Cap) : binT Go.Proofs.Tryd.prog .neq 99 xo yo (.sl a b c d) .nils = some (.bool true) := by kernel_rfl
attribute [go_sem] ne_99
theorem ne_99_n (xo yo : Operand) : binT Go.Proofs.Tryd.prog .neq 99 xo yo .nils .nils = some (.bool false) := by kernel_rfl
attribute [go_sem] ne_99_n
theorem ne_99_z (xo yo : Operand) (a b c d : Nat) : binT Go.Proofs.Tryd.prog .neq 99 xo yo (.sl0 a b c d) .nils = some (.bool true) := by kernel_rfl
attribute [go_sem] ne_99_z
theorem len_99_z (h : H) (a b c d : Nat) (ts : List TypeId) (az : List CV) : builtinT Go.Proofs.Tryd.prog h .len (99 :: ts) (.sl0 a b c d :: az) = some (.val (.int .i64 0)) := by kernel_rfl
attribute [go_sem] len_99_z
theorem app_99_z (h : H) (s : CV) (a b c d : Nat) (ts : List TypeId) (az : List CV) : builtinT Go.Proofs.Tryd.prog h .append (99 :: 99 :: ts) (s :: .sl0 a b c d :: az) = uv (appendT Go.Proofs.Tryd.prog h 99 s (.sl0 a b c d)) := by kernel_rfl
attribute [go_sem] app_99_z
theorem sz_100 : szOf Go.Proofs.Tryd.prog 100 = some 1 := by kernel_rfl
attribute [go_sem] sz_100
theorem ld_100 (h : H) (id off : Nat) : loadT Go.Proofs.Tryd.prog h 100 id off = @thn _ _ (h.blk id) ⟨fun b => b.get off⟩ := by kernel_rfl
attribute [go_sem] ld_100
theorem st_100 (h : H) (id off : Nat) (v : CV) : storeT Go.Proofs.Tryd.prog h 100 id off v = @thn _ _ (h.blk id) ⟨fun b => cond (Nat.beq v.cells.length 1 && !b.ro) ((b.storeA off v.cells).map fun b' => h.put id (.cells b')) none⟩ := by kernel_rfl
attribute [go_sem] st_100
theorem part_100 (cs : List CV) (off : Nat) : partT Go.Proofs.Tryd.prog 100 cs off = nth cs off := by kernel_rfl
attribute [go_sem] part_100
theorem ze_100 : zeroT Go.Proofs.Tryd.prog 100 = some (.nilf) := by kernel_rfl
attribute [go_sem] ze_100
theorem eq_100 (xo yo : Operand) (f : Fn) (a b : List CV) : binT Go.Proofs.Tryd.prog .eql 100 xo yo (.fn f a b) .nilf = some (.bool false) := by kernel_rfl
attribute [go_sem] eq_100
theorem eq_100_n (xo yo : Operand) : binT Go.Proofs.Tryd.prog .eql 100 xo yo .nilf .nilf = some (.bool true) := by kernel_rfl
attribute [go_sem] eq_100_n
theorem ne_100 (xo yo : Operand) (f : Fn) (a b : List CV) : binT Go.Proofs.Tryd.prog .neq 100 xo yo (.fn f a b) .nilf = some (.bool true) := by kernel_rfl
attribute [go_sem] ne_100
theorem ne_100_n (xo yo : Operand) : binT Go.Proofs.Tryd.prog .neq 100 xo yo .nilf .nilf = some (.bool false) := by kernel_rfl
attribute [go_sem] ne_100_n
theorem sz_101 : szOf Go.Proofs.Tryd.prog 101 = some 1 := by kernel_rfl
attribute [go_sem] sz_101
theorem ld_101 (h : H) (id off : Nat) : loadT Go.Proofs.Tryd.prog h 101 id off = @thn _ _ (h.blk id) ⟨fun b => b.get off⟩ := by kernel_rfl
attribute [go_sem] ld_101
theorem st_101 (h : H) (id off : Nat) (v : CV) : storeT Go.Proofs.Tryd.prog h 101 id off v = @thn _ _ (h.blk id) ⟨fun b => cond (Nat.beq v.cells.length 1 && !b.ro) ((b.storeA off v.cells).map fun b' => h.put id (.cells b')) none⟩ := by kernel_rfl
attribute [go_sem] st_101
theorem part_101 (cs : List CV) (off : Nat) : partT Go.Proofs.Tryd.prog 101 cs off = nth cs off := by kernel_rfl
attribute [go_sem] part_101
theorem sz_102 : szOf Go.Proofs.Tryd.prog 102 = some 1 := by kernel_rfl
attribute [go_sem] sz_102
theorem ld_102 (h : H) (id off : Nat) : loadT Go.Proofs.Tryd.prog h 102 id off = @thn _ _ (h.blk id) ⟨fun b => b.get off⟩ := by kernel_rfl
attribute [go_sem] ld_102
theorem st_102 (h : H) (id off : Nat) (v : CV) : storeT Go.Proofs.Tryd.prog h 102 id off v = @thn _ _ (h.blk id) ⟨fun b => cond (Nat.beq v.cells.length 1 && !b.ro) ((b.storeA off v.cells).map fun b' => h.put id (.cells b')) none⟩ := by kernel_rfl
attribute [go_sem] st_102
theorem part_102 (cs : List CV) (off : Nat) : partT Go.Proofs.Tryd.prog 102 cs off = nth cs off := by kernel_rfl
attribute [go_sem] part_102
theorem ze_102 : zeroT Go.Proofs.Tryd.prog 102 = some (.nilf) := by kernel_rfl
attribute [go_sem] ze_102
theorem eq_102 (xo yo : Operand) (f : Fn) (a b : List CV) : binT Go.Proofs.Tryd.prog .eql 102 xo yo (.fn f a b) .nilf = some (.bool false) := by kernel_rfl
attribute [go_sem] eq_102
theorem eq_102_n (xo yo : Operand) : binT Go.Proofs.Tryd.prog .eql 102 xo yo .nilf .nilf = some (.bool true) := by kernel_rfl
attribute [go_sem] eq_102_n
theorem ne_102 (xo yo : Operand) (f : Fn) (a b : List CV) : binT Go.Proofs.Tryd.prog .neq 102 xo yo (.fn f a b) .nilf = some (.bool true) := by kernel_rfl
attribute [go_sem] ne_102
theorem ne_102_n (xo yo : Operand) : binT Go.Proofs.Tryd.prog .neq 102 xo yo .nilf .nilf = some (.bool false) := by kernel_rfl
attribute [go_sem] ne_102_n
theorem sz_103 : szOf Go.Proofs.Tryd.prog 103 = some 1 := by kernel_rfl
attribute [go_sem] sz_103
theorem ld_103 (h : H) (id off : Nat) : loadT Go.Proofs.Tryd.prog h 103 id off = @thn _ _ (h.blk id) ⟨fun b => b.get off⟩ := by kernel_rfl
attribute [go_sem] ld_103
theorem st_103 (h : H) (id off : Nat) (v : CV) : storeT Go.Proofs.Tryd.prog h 103 id off v = @thn _ _ (h.blk id) ⟨fun b => cond (Nat.beq v.cells.length 1 && !b.ro) ((b.storeA off v.cells).map fun b' => h.put id (.cells b')) none⟩ := by kernel_rfl
attribute [go_sem] st_103
theorem part_103 (cs : List CV) (off : Nat) : partT Go.Proofs.Tryd.prog 103 cs off = nth cs off := by kernel_rfl
attribute [go_sem] part_103
theorem ze_103 : zeroT Go.Proofs.Tryd.prog 103 = some (.int .u32 0) := by kernel_rfl
attribute [go_sem] ze_103
theorem sz_104 : szOf Go.Proofs.Tryd.prog 104 = some 8 := by kernel_rfl
attribute [go_sem] sz_104
theorem ld_104 (h : H) (id off : Nat) : loadT Go.Proofs.Tryd.prog h 104 id off = @thn _ _ (h.blk id) ⟨fun b => (b.loadN off 8).map .agg⟩ := by kernel_rfl
attribute [go_sem] ld_104
theorem st_104 (h : H) (id off : Nat) (v : CV) : storeT Go.Proofs.Tryd.prog h 104 id off v = @thn _ _ (h.blk id) ⟨fun b => cond (Nat.beq v.cells.length 8 && !b.ro) ((b.storeA off v.cells).map fun b' => h.put id (.cells b')) none⟩ := by kernel_rfl
attribute [go_sem] st_104
theorem part_104 (cs : List CV) (off : Nat) : partT Go.Proofs.Tryd.prog 104 cs off = some (.agg ((cs.drop off).take 8)) := by kernel_rfl
attribute [go_sem] part_104
theorem ze_104 : zeroT Go.Proofs.Tryd.prog 104 = some (.agg [.int .u32 0, .int .u32 0, .int .u32 0, .int .u32 0, .int .u32 0, .int .u32 0, .int .u32 0, .int .u32 0]) := by kernel_rfl
attribute [go_sem] ze_104
theorem ia_104 (id off k : Nat) (kd : IntKind) : indexAddrT Go.Proofs.Tryd.prog 104 (.ptr id off) (.int kd (Int.ofNat k)) = cond (Nat.blt k 8) (some (.ptr id (off + k * 1))) none := by kernel_rfl
attribute [go_sem] ia_104
theorem ix_104 (cs : List CV) (k : Nat) (kd : IntKind) : indexT Go.Proofs.Tryd.prog 104 (.agg cs) (.int kd (Int.ofNat k)) = cond (Nat.blt k 8) (partT Go.Proofs.Tryd.prog 103 cs (k * 1)) none := by kernel_rfl
attribute [go_sem] ix_104
theorem len_104 (h : H) (ts : List TypeId) (az : List CV) (a : CV) : builtinT Go.Proofs.Tryd.prog h .len (104 :: ts) (a :: az) = some (.val (.int .i64 8)) := by kernel_rfl
attribute [go_sem] len_104
theorem bt_104 (parts : List (Nat × CV)) : buildT Go.Proofs.Tryd.prog 104 parts = finB (CV.cells (.agg [.int .u32 0, .int .u32 0, .int .u32 0, .int .u32 0, .int .u32 0, .int .u32 0, .int .u32 0, .int .u32 0])) (fun i => some (i * 1, 1)) parts := by kernel_rfl
attribute [go_sem] bt_104
theorem sz_105 : szOf Go.Proofs.Tryd.prog 105 = some 64 := by kernel_rfl
attribute [go_sem] sz_105
theorem ld_105 (h : H) (id off : Nat) : loadT Go.Proofs.Tryd.prog h 105 id off = @thn _ _ (h.blk id) ⟨fun b => (b.loadN off 64).map .agg⟩ := by kernel_rfl
attribute [go_sem] ld_105
theorem st_105 (h : H) (id off : Nat) (v : CV) : storeT Go.Proofs.Tryd.prog h 105 id off v = @thn _ _ (h.blk id) ⟨fun b => cond (Nat.beq v.cells.length 64 && !b.ro) ((b.storeA off v.cells).map fun b' => h.put id (.cells b')) none⟩ := by kernel_rfl
attribute [go_sem] st_105
theorem part_105 (cs : List CV) (off : Nat) : partT Go.Proofs.Tryd.prog 105 cs off = some (.agg ((cs.drop off).take 64)) := by kernel_rfl
attribute [go_sem] part_105
theorem ze_105 : zeroT Go.Proofs.Tryd.prog 105 = some (.agg [.int .u32 0, .int .u32 0, .int .u32 0, .int .u32 0, .int .u32 0, .int .u32 0, .int .u32 0, .int .u32 0, .int .u32 0, .int .u32 0, .int .u32 0, .int .u32 0, .int .u32 0, .int .u32 0, .int .u32 0, .int .u32 0, .int .u32 0, .int .u32 0, .int .u32 0, .int .u32 0, .int .u32 0, .int .u32 0, .int .u32 0, .int .u32 0, .int .u32 0, .int .u32 0, .int .u32 0, .int .u32 0, .int .u32 0, .int .u32 0, .int .u32 0, .int .u32 0, .int .u32 0, .int .u32 0, .int .u32 0, .int .u32 0, .int .u32 0, .int .u32 0, .int .u32 0, .int .u32 0, .int .u32 0, .int .u32 0, .int .u32 0, .int .u32 0, .int .u32 0, .int .u32 0, .int .u32 0, .int .u32 0, .int .u32 0, .int .u32 0, .int .u32 0, .int .u32 0, .int .u32 0, .int .u32 0, .int .u32 0, .int .u32 0, .int .u32 0, .int .u32 0, .int .u32 0, .int .u32 0, .int .u32 0, .int .u32 0, .int .u32 0, .int .u32 0]) := by kernel_rfl
attribute [go_sem] ze_105
theorem ia_105 (id off k : Nat) (kd : IntKind) : indexAddrT Go.Proofs.Tryd.prog 105 (.ptr id off) (.int kd (Int.ofNat k)) = cond (Nat.blt k 64) (some (.ptr id (off + k * 1))) none := by kernel_rfl
attribute [go_sem] ia_105
theorem ix_105 (cs : List CV) (k : Nat) (kd : IntKind) : indexT Go.Proofs.Tryd.prog 105 (.agg cs) (.int kd (Int.ofNat k)) = cond (Nat.blt k 64) (partT Go.Proofs.Tryd.prog 103 cs (k * 1)) none := by kernel_rfl
attribute [go_sem] ix_105
theorem len_105 (h : H) (ts : List TypeId) (az : List CV) (a : CV) : builtinT Go.Proofs.Tryd.prog h .len (105 :: ts) (a :: az) = some (.val (.int .i64 64)) := by kernel_rfl
attribute [go_sem] len_105
theorem bt_105 (parts : List (Nat × CV)) : buildT Go.Proofs.Tryd.prog 105 parts = finB (CV.cells (.agg [.int .u32 0, .int .u32 0, .int .u32 0, .int .u32 0, .int .u32 0, .int .u32 0, .int .u32 0, .int .u32 0, .int .u32 0, .int .u32 0, .int .u32 0, .int .u32 0, .int .u32 0, .int .u32 0, .int .u32 0, .int .u32 0, .int .u32 0, .int .u32 0, .int .u32 0, .int .u32 0, .int .u32 0, .int .u32 0, .int .u32 0, .int .u32 0, .int .u32 0, .int .u32 0, .int .u32 0, .int .u32 0, .int .u32 0, .int .u32 0, .int .u32 0, .int .u32 0, .int .u32 0, .int .u32 0, .int .u32 0, .int .u32 0, .int .u32 0, .int .u32 0, .int .u32 0, .int .u32 0, .int .u32 0, .int .u32 0, .int .u32 0, .int .u32 0, .int .u32 0, .int .u32 0, .int .u32 0, .int .u32 0, .int .u32 0, .int .u32 0, .int .u32 0, .int .u32 0, .int .u32 0, .int .u32 0, .int .u32 0, .int .u32 0, .int .u32 0, .int .u32 0, .int .u32 0, .int .u32 0, .int .u32 0, .int .u32 0, .int .u32 0, .int .u32 0])) (fun i => some (i * 1, 1)) parts := by kernel_rfl
attribute [go_sem] bt_105
theorem sz_106 : szOf Go.Proofs.Tryd.prog 106 = some 1 := by kernel_rfl
attribute [go_sem] sz_106
theorem ld_106 (h : H) (id off : Nat) : loadT Go.Proofs.Tryd.prog h 106 id off = @thn _ _ (h.blk id) ⟨fun b => b.get off⟩ := by kernel_rfl
attribute [go_sem] ld_106
theorem st_106 (h : H) (id off : Nat) (v : CV) : storeT Go.Proofs.Tryd.prog h 106 id off v = @thn _ _ (h.blk id) ⟨fun b => cond (Nat.beq v.cells.length 1 && !b.ro) ((b.storeA off v.cells).map fun b' => h.put id (.cells b')) none⟩ := by kernel_rfl
attribute [go_sem] st_106
theorem part_106 (cs : List CV) (off : Nat) : partT Go.Proofs.Tryd.prog 106 cs off = nth cs off := by kernel_rfl
attribute [go_sem] part_106
theorem ze_106 : zeroT Go.Proofs.Tryd.prog 106 = some (.nilf) := by kernel_rfl
attribute [go_sem] ze_106
theorem eq_106 (xo yo : Operand) (f : Fn) (a b : List CV) : binT Go.Proofs.Tryd.prog .eql 106 xo yo (.fn f a b) .nilf = some (.bool false) := by kernel_rfl
attribute [go_sem] eq_106
theorem eq_106_n (xo yo : Operand) : binT Go.Proofs.Tryd.prog .eql 106 xo yo .nilf .nilf = some (.bool true) := by kernel_rfl
attribute [go_sem] eq_106_n
theorem ne_106 (xo yo : Operand) (f : Fn) (a b : List CV) : binT Go.Proofs.Tryd.prog .neq 106 xo yo (.fn f a b) .nilf = some (.bool true) := by kernel_rfl
attribute [go_sem] ne_106
theorem ne_106_n (xo yo : Operand) : binT Go.Proofs.Tryd.prog .neq 106 xo yo .nilf .nilf = some (.bool false) := by kernel_rfl
attribute [go_sem] ne_106_n
theorem sz_107 : szOf Go.Proofs.Tryd.prog 107 = some 1 := by kernel_rfl
attribute [go_sem] sz_107
theorem ld_107 (h : H) (id off : Nat) : loadT Go.Proofs.Tryd.prog h 107 id off = @thn _ _ (h.blk id) ⟨fun b => b.get off⟩ := by kernel_rfl
attribute [go_sem] ld_107
theorem st_107 (h : H) (id off : Nat) (v : CV) : storeT Go.Proofs.Tryd.prog h 107 id off v = @thn _ _ (h.blk id) ⟨fun b => cond (Nat.beq v.cells.length 1 && !b.ro) ((b.storeA off v.cells).map fun b' => h.put id (.cells b')) none⟩ := by kernel_rfl
attribute [go_sem] st_107
theorem part_107 (cs : List CV) (off : Nat) : partT Go.Proofs.Tryd.prog 107 cs off = nth cs off := by kernel_rfl
attribute [go_sem] part_107
theorem ze_107 : zeroT Go.Proofs.Tryd.prog 107 = some (.nilf) := by kernel_rfl
attribute [go_sem] ze_107
theorem eq_107 (xo yo : Operand) (f : Fn) (a b : List CV) : binT Go.Proofs.Tryd.prog .eql 107 xo yo (.fn f a b) .nilf = some (.bool false) := by kernel_rfl
attribute [go_sem] eq_107
theorem eq_107_n (xo yo : Operand) : binT Go.Proofs.Tryd.prog .eql 107 xo yo .nilf .nilf = some (.bool true) := by kernel_rfl
attribute [go_sem] eq_107_n
theorem ne_107 (xo yo : Operand) (f : Fn) (a b : List CV) : binT Go.Proofs.Tryd.prog .neq 107 xo yo (.fn f a b) .nilf = some (.bool true) := by kernel_rfl
attribute [go_sem] ne_107
theorem ne_107_n (xo yo : Operand) : binT Go.Proofs.Tryd.prog .neq 107 xo yo .nilf .nilf = some (.bool false) := by kernel_rfl
attribute [go_sem] ne_107_n
theorem sz_108 : szOf Go.Proofs.Tryd.prog 108 = some 1 := by kernel_rfl
attribute [go_sem] sz_108
theorem ld_108 (h : H) (id off : Nat) : loadT Go.Proofs.Tryd.prog h 108 id off = @thn _ _ (h.blk id) ⟨fun b => b.get off⟩ := by kernel_rfl
attribute [go_sem] ld_108
theorem st_108 (h : H) (id off : Nat) (v : CV) : storeT Go.Proofs.Tryd.prog h 108 id off v = @thn _ _ (h.blk id) ⟨fun b => cond (Nat.beq v.cells.length 1 && !b.ro) ((b.storeA off v.cells).map fun b' => h.put id (.cells b')) none⟩ := by kernel_rfl
attribute [go_sem] st_108
theorem part_108 (cs : List CV) (off : Nat) : partT Go.Proofs.Tryd.prog 108 cs off = nth cs off := by kernel_rfl
attribute [go_sem] part_108
theorem ze_108 : zeroT Go.Proofs.Tryd.prog 108 = some (.nilp) := by kernel_rfl
attribute [go_sem] ze_108
theorem eq_108 (xo yo : Operand) (a b : Nat) : binT Go.Proofs.Tryd.prog .eql 108 xo yo (.ptr a b) .nilp = some (.bool false) := by kernel_rfl
attribute [go_sem] eq_108
theorem eq_108_n (xo yo : Operand) : binT Go.Proofs.Tryd.prog .eql 108 xo yo .nilp .nilp = some (.bool true) := by kernel_rfl
attribute [go_sem] eq_108_n
theorem ne_108 (xo yo : Operand) (a b : Nat) : binT Go.Proofs.Tryd.prog .neq 108 xo yo (.ptr a b) .nilp = some (.bool true) := by kernel_rfl
attribute [go_sem] ne_108
theorem ne_108_n (xo yo : Operand) : binT Go.Proofs.Tryd.prog .neq 108 xo yo .nilp .nilp = some (.bool false) := by kernel_rfl
attribute [go_sem] ne_108_n
theorem sz_109 : szOf Go.Proofs.Tryd.prog 109 = some 1 := by kernel_rfl
attribute [go_sem] sz_109
theorem ld_109 (h : H) (id off : Nat) : loadT Go.Proofs.Tryd.prog h 109 id off = @thn _ _ (h.blk id) ⟨fun b => b.get off⟩ := by kernel_rfl
attribute [go_sem] ld_109
theorem st_109 (h : H) (id off : Nat) (v : CV) : storeT Go.Proofs.Tryd.prog h 109 id off v = @thn _ _ (h.blk id) ⟨fun b => cond (Nat.beq v.cells.length 1 && !b.ro) ((b.storeA off v.cells).map fun b' => h.put id (.cells b')) none⟩ := by kernel_rfl
attribute [go_sem] st_109
theorem part_109 (cs : List CV) (off : Nat) : partT Go.Proofs.Tryd.prog 109 cs off = nth cs off := by kernel_rfl
attribute [go_sem] part_109
theorem ze_109 : zeroT Go.Proofs.Tryd.prog 109 = some (.nilp) := by kernel_rfl
attribute [go_sem] ze_109
theorem eq_109 (xo yo : Operand) (a b : Nat) : binT Go.Proofs.Tryd.prog .eql 109 xo yo (.ptr a b) .nilp = some (.bool false) := by kernel_rfl
attribute [go_sem] eq_109
theorem eq_109_n (xo yo : Operand) : binT Go.Proofs.Tryd.prog .eql 109 xo yo .nilp .nilp = some (.bool true) := by kernel_rfl
attribute [go_sem] eq_109_n
theorem ne_109 (xo yo : Operand) (a b : Nat) : binT Go.Proofs.Tryd.prog .neq 109 xo yo (.ptr a b) .nilp = some (.bool true) := by kernel_rfl
attribute [go_sem] ne_109
theorem ne_109_n (xo yo : Operand) : binT Go.Proofs.Tryd.prog .neq 109 xo yo .nilp .nilp = some (.bool false) := by kernel_rfl
attribute [go_sem] ne_109_n
theorem sz_110 : szOf Go.Proofs.Tryd.prog 110 = some 1 := by kernel_rfl
attribute [go_sem] sz_110
theorem ld_110 (h : H) (id off : Nat) : loadT Go.Proofs.Tryd.prog h 110 id off = @thn _ _ (h.blk id) ⟨fun b => b.get off⟩ := by kernel_rfl
attribute [go_sem] ld_110
theorem st_110 (h : H) (id off : Nat) (v : CV) : storeT Go.Proofs.Tryd.prog h 110 id off v = @thn _ _ (h.blk id) ⟨fun b => cond (Nat.beq v.cells.length 1 && !b.ro) ((b.storeA off v.cells).map fun b' => h.put id (.cells b')) none⟩ := by kernel_rfl
attribute [go_sem] st_110
theorem part_110 (cs : List CV) (off : Nat) : partT Go.Proofs.Tryd.prog 110 cs off = nth cs off := by kernel_rfl
attribute [go_sem] part_110
theorem ze_110 : zeroT Go.Proofs.Tryd.prog 110 = some (.nilf) := by kernel_rfl
attribute [go_sem] ze_110
theorem eq_110 (xo yo : Operand) (f : Fn) (a b : List CV) : binT Go.Proofs.Tryd.prog .eql 110 xo yo (.fn f a b) .nilf = some (.bool false) := by kernel_rfl
attribute [go_sem] eq_110
theorem eq_110_n (xo yo : Operand) : binT Go.Proofs.Tryd.prog .eql 110 xo yo .nilf .nilf = some (.bool true) := by kernel_rfl
attribute [go_sem] eq_110_n
theorem ne_110 (xo yo : Operand) (f : Fn) (a b : List CV) : binT Go.Proofs.Tryd.prog .neq 110 xo yo (.fn f a b) .nilf = some (.bool true) := by kernel_rfl
attribute [go_sem] ne_110
theorem ne_110_n (xo yo : Operand) : binT Go.Proofs.Tryd.prog .neq 110 xo yo .nilf .nilf = some (.bool false) := by kernel_rfl
attribute [go_sem] ne_110_n
theorem sz_111 : szOf Go.Proofs.Tryd.prog 111 = some 1 := by kernel_rfl
attribute [go_sem] sz_111
theorem ld_111 (h : H) (id off : Nat) : loadT Go.Proofs.Tryd.prog h 111 id off = @thn _ _ (h.blk id) ⟨fun b => b.get off⟩ := by kernel_rfl
attribute [go_sem] ld_111
theorem st_111 (h : H) (id off : Nat) (v : CV) : storeT Go.Proofs.Tryd.prog h 111 id off v = @thn _ _ (h.blk id) ⟨fun b => cond (Nat.beq v.cells.length 1 && !b.ro) ((b.storeA off v.cells).map fun b' => h.put id (.cells b')) none⟩ := by kernel_rfl
attribute [go_sem] st_111
theorem part_111 (cs : List CV) (off : Nat) : partT Go.Proofs.Tryd.prog 111 cs off = nth cs off := by kernel_rfl
attribute [go_sem] part_111
theorem ze_111 : zeroT Go.Proofs.Tryd.prog 111 = some (.nilf) := by kernel_rfl
attribute [go_sem] ze_111
theorem eq_111 (xo yo : Operand) (f : Fn) (a b : List CV) : binT Go.Proofs.Tryd.prog .eql 111 xo yo (.fn f a b) .nilf = some (.bool false) := by kernel_rfl
attribute [go_sem] eq_111
theorem eq_111_n (xo yo : Operand) : binT Go.Proofs.Tryd.prog .eql 111 xo yo .nilf .nilf = some (.bool true) := by kernel_rfl
attribute [go_sem] eq_111_n
theorem ne_111 (xo yo : Operand) (f : Fn) (a b : List CV) : binT Go.Proofs.Tryd.prog .neq 111 xo yo (.fn f a b) .nilf = some (.bool true) := by kernel_rfl
attribute [go_sem] ne_111
theorem ne_111_n (xo yo : Operand) : binT Go.Proofs.Tryd.prog .neq 111 xo yo .nilf .nilf = some (.bool false) := by kernel_rfl
attribute [go_sem] ne_111_n
theorem sz_112 : szOf Go.Proofs.Tryd.prog 112 = some 3 := by kernel_rfl
attribute [go_sem] sz_112
theorem ld_112 (h : H) (id off : Nat) : loadT Go.Proofs.Tryd.prog h 112 id off = @thn _ _ (h.blk id) ⟨fun b => (b.loadN off 3).map .agg⟩ := by kernel_rfl
attribute [go_sem] ld_112
theorem st_112 (h : H) (id off : Nat) (v : CV) : storeT Go.Proofs.Tryd.prog h 112 id off v = @thn _ _ (h.blk id) ⟨fun b => cond (Nat.beq v.cells.length 3 && !b.ro) ((b.storeA off v.cells).map fun b' => h.put id (.cells b')) none⟩ := by kernel_rfl
attribute [go_sem] st_112
theorem part_112 (cs : List CV) (off : Nat) : partT Go.Proofs.Tryd.prog 112 cs off = some (.agg ((cs.drop off).take 3)) := by kernel_rfl
attribute [go_sem] part_112
theorem ze_112 : zeroT Go.Proofs.Tryd.prog 112 = some (.agg [.nils, .bool false, .bool false]) := by kernel_rfl
attribute [go_sem] ze_112
theorem bt_112 (parts : List (Nat × CV)) : buildT Go.Proofs.Tryd.prog 112 parts = finB (CV.cells (.agg [.nils, .bool false, .bool false])) (nth [(0, 1), (1, 1), (2, 1)]) parts := by kernel_rfl
attribute [go_sem] bt_112
theorem fa_112_0 (id off : Nat) : fieldAddrT Go.Proofs.Tryd.prog 112 (.ptr id off) 0 = some (.ptr id (off)) := by kernel_rfl
attribute [go_sem] fa_112_0
theorem fd_112_0 (cs : List CV) : fieldT Go.Proofs.Tryd.prog 112 (.agg cs) 0 = partT Go.Proofs.Tryd.prog 24 cs 0 := by kernel_rfl
attribute [go_sem] fd_112_0
theorem fa_112_1 (id off : Nat) : fieldAddrT Go.Proofs.Tryd.prog 112 (.ptr id off) 1 = some (.ptr id (off + 1)) := by kernel_rfl
attribute [go_sem] fa_112_1
theorem fd_112_1 (cs : List CV) : fieldT Go.Proofs.Tryd.prog 112 (.agg cs) 1 = partT Go.Proofs.Tryd.prog 4 cs 1 := by kernel_rfl
attribute [go_sem] fd_112_1
theorem fa_112_2 (id off : Nat) : fieldAddrT Go.Proofs.Tryd.prog 112 (.ptr id off) 2 = some (.ptr id (off + 2)) := by kernel_rfl
attribute [go_sem] fa_112_2
theorem fd_112_2 (cs : List CV) : fieldT Go.Proofs.Tryd.prog 112 (.agg cs) 2 = partT Go.Proofs.Tryd.prog 4 cs 2 := by kernel_rfl
attribute [go_sem] fd_112_2
theorem sz_113 : szOf Go.Proofs.Tryd.prog 113 = some 3 := by kernel_rfl
attribute [go_sem] sz_113
theorem ld_113 (h : H) (id off : Nat) : loadT Go.Proofs.Tryd.prog h 113 id off = @thn _ _ (h.blk id) ⟨fun b => (b.loadN off 3).map .agg⟩ := by kernel_rfl
attribute [go_sem] ld_113
theorem st_113 (h : H) (id off : Nat) (v : CV) : storeT Go.Proofs.Tryd.prog h 113 id off v = @thn _ _ (h.blk id) ⟨fun b => cond (Nat.beq v.cells.length 3 && !b.ro) ((b.storeA off v.cells).map fun b' => h.put id (.cells b')) none⟩ := by kernel_rfl
attribute [go_sem] st_113
theorem part_113 (cs : List CV) (off : Nat) : partT Go.Proofs.Tryd.prog 113 cs off = some (.agg ((cs.drop off).take 3)) := by kernel_rfl
attribute [go_sem] part_113
theorem ze_113 : zeroT Go.Proofs.Tryd.prog 113 = some (.agg [.nils, .bool false, .bool false]) := by kernel_rfl
attribute [go_sem] ze_113
theorem bt_113 (parts : List (Nat × CV)) : buildT Go.Proofs.Tryd.prog 113 parts = finB (CV.cells (.agg [.nils, .bool false, .bool false])) (nth [(0, 1), (1, 1), (2, 1)]) parts := by kernel_rfl
attribute [go_sem] bt_113
theorem fa_113_0 (id off : Nat) : fieldAddrT Go.Proofs.Tryd.prog 113 (.ptr id off) 0 = some (.ptr id (off)) := by kernel_rfl
attribute [go_sem] fa_113_0
theorem fd_113_0 (cs : List CV) : fieldT Go.Proofs.Tryd.prog 113 (.agg cs) 0 = partT Go.Proofs.Tryd.prog 24 cs 0 := by kernel_rfl
attribute [go_sem] fd_113_0
theorem fa_113_1 (id off : Nat) : fieldAddrT Go.Proofs.Tryd.prog 113 (.ptr id off) 1 = some (.ptr id (off + 1)) := by kernel_rfl
attribute [go_sem] fa_113_1
theorem fd_113_1 (cs : List CV) : fieldT Go.Proofs.Tryd.prog 113 (.agg cs) 1 = partT Go.Proofs.Tryd.prog 4 cs 1 := by kernel_rfl
attribute [go_sem] fd_113_1
theorem fa_113_2 (id off : Nat) : fieldAddrT Go.Proofs.Tryd.prog 113 (.ptr id off) 2 = some (.ptr id (off + 2)) := by kernel_rfl
attribute [go_sem] fa_113_2
theorem fd_113_2 (cs : List CV) : fieldT Go.Proofs.Tryd.prog 113 (.agg cs) 2 = partT Go.Proofs.Tryd.prog 4 cs 2 := by kernel_rfl
attribute [go_sem] fd_113_2
theorem sz_114 : szOf Go.Proofs.Tryd.prog 114 = some 1 := by kernel_rfl
attribute [go_sem] sz_114
theorem ld_114 (h : H) (id off : Nat) : loadT Go.Proofs.Tryd.prog h 114 id off = @thn _ _ (h.blk id) ⟨fun b => b.get off⟩ := by kernel_rfl
attribute [go_sem] ld_114
theorem st_114 (h : H) (id off : Nat) (v : CV) : storeT Go.Proofs.Tryd.prog h 114 id off v = @thn _ _ (h.blk id) ⟨fun b => cond (Nat.beq v.cells.length 1 && !b.ro) ((b.storeA off v.cells).map fun b' => h.put id (.cells b')) none⟩ := by kernel_rfl
attribute [go_sem] st_114
theorem part_114 (cs : List CV) (off : Nat) : partT Go.Proofs.Tryd.prog 114 cs off = nth cs off := by kernel_rfl
attribute [go_sem] part_114
theorem sz_115 : szOf Go.Proofs.Tryd.prog 115 = some 1 := by kernel_rfl
attribute [go_sem] sz_115
theorem ld_115 (h : H) (id off : Nat) : loadT Go.Proofs.Tryd.prog h 115 id off = @thn _ _ (h.blk id) ⟨fun b => b.get off⟩ := by kernel_rfl
attribute [go_sem] ld_115
theorem st_115 (h : H) (id off : Nat) (v : CV) : storeT Go.Proofs.Tryd.prog h 115 id off v = @thn _ _ (h.blk id) ⟨fun b => cond (Nat.beq v.cells.length 1 && !b.ro) ((b.storeA off v.cells).map fun b' => h.put id (.cells b')) none⟩ := by kernel_rfl
attribute [go_sem] st_115
theorem part_115 (cs : List CV) (off : Nat) : partT Go.Proofs.Tryd.prog 115 cs off = nth cs off := by kernel_rfl
attribute [go_sem] part_115
theorem ze_115 : zeroT Go.Proofs.Tryd.prog 115 = some (.nilf) := by kernel_rfl
attribute [go_sem] ze_115
theorem eq_115 (xo yo : Operand) (f : Fn) (a b : List CV) : binT Go.Proofs.Tryd.prog .eql 115 xo yo (.fn f a b) .nilf = some (.bool false) := by kernel_rfl
attribute [go_sem] eq_115
theorem eq_115_n (xo yo : Operand) : binT Go.Proofs.Tryd.prog .eql 115 xo yo .nilf .nilf = some (.bool true) := by kernel_rfl
attribute [go_sem] eq_115_n
theorem ne_115 (xo yo : Operand) (f : Fn) (a b : List CV) : binT Go.Proofs.Tryd.prog .neq 115 xo yo (.fn f a b) .nilf = some (.bool true) := by kernel_rfl
attribute [go_sem] ne_115
theorem ne_115_n (xo yo : Operand) : binT Go.Proofs.Tryd.prog .neq 115 xo yo .nilf .nilf = some (.bool false) := by kernel_rfl
attribute [go_sem] ne_115_n
theorem sz_116 : szOf Go.Proofs.Tryd.prog 116 = some 1 := by kernel_rfl
attribute [go_sem] sz_116
theorem ld_116 (h : H) (id off : Nat) : loadT Go.Proofs.Tryd.prog h 116 id off = @thn _ _ (h.blk id) ⟨fun b => b.get off⟩ := by kernel_rfl
attribute [go_sem] ld_116
theorem st_116 (h : H) (id off : Nat) (v : CV) : storeT Go.Proofs.Tryd.prog h 116 id off v = @thn _ _ (h.blk id) ⟨fun b => cond (Nat.beq v.cells.length 1 && !b.ro) ((b.storeA off v.cells).map fun b' => h.put id (.cells b')) none⟩ := by kernel_rfl
attribute [go_sem] st_116
theorem part_116 (cs : List CV) (off : Nat) : partT Go.Proofs.Tryd.prog 116 cs off = nth cs off := by kernel_rfl
attribute [go_sem] part_116
theorem ze_116 : zeroT Go.Proofs.Tryd.prog 116 = some (.nilf) := by kernel_rfl
attribute [go_sem] ze_116
theorem eq_116 (xo yo : Operand) (f : Fn) (a b : List CV) : binT Go.Proofs.Tryd.prog .eql 116 xo yo (.fn f a b) .nilf = some (.bool false) := by kernel_rfl
attribute [go_sem] eq_116
theorem eq_116_n (xo yo : Operand) : binT Go.Proofs.Tryd.prog .eql 116 xo yo .nilf .nilf = some (.bool true) := by kernel_rfl
attribute [go_sem] eq_116_n
theorem ne_116 (xo yo : Operand) (f : Fn) (a b : List CV) : binT Go.Proofs.Tryd.prog .neq 116 xo yo (.fn f a b) .nilf = some (.bool true) := by kernel_rfl
attribute [go_sem] ne_116
theorem ne_116_n (xo yo : Operand) : binT Go.Proofs.Tryd.prog .neq 116 xo yo .nilf .nilf = some (.bool false) := by kernel_rfl
attribute [go_sem] ne_116_n
theorem sz_117 : szOf Go.Proofs.Tryd.prog 117 = some 1 := by kernel_rfl
attribute [go_sem] sz_117
theorem ld_117 (h : H) (id off : Nat) : loadT Go.Proofs.Tryd.prog h 117 id off = @thn _ _ (h.blk id) ⟨fun b => b.get off⟩ := by kernel_rfl
attribute [go_sem] ld_117
theorem st_117 (h : H) (id off : Nat) (v : CV) : storeT Go.Proofs.Tryd.prog h 117 id off v = @thn _ _ (h.blk id) ⟨fun b => cond (Nat.beq v.cells.length 1 && !b.ro) ((b.storeA off v.cells).map fun b' => h.put id (.cells b')) none⟩ := by kernel_rfl
attribute [go_sem] st_117
theorem part_117 (cs : List CV) (off : Nat) : partT Go.Proofs.Tryd.prog 117 cs off = nth cs off := by kernel_rfl
attribute [go_sem] part_117
theorem ze_117 : zeroT Go.Proofs.Tryd.prog 117 = some (.nilf) := by kernel_rfl
attribute [go_sem] ze_117
theorem eq_117 (xo yo : Operand) (f : Fn) (a b : List CV) : binT Go.Proofs.Tryd.prog .eql 117 xo yo (.fn f a b) .nilf = some (.bool false) := by kernel_rfl
attribute [go_sem] eq_117
theorem eq_117_n (xo yo : Operand) : binT Go.Proofs.Tryd.prog .eql 117 xo yo .nilf .nilf = some (.bool true) := by kernel_rfl
attribute [go_sem] eq_117_n
theorem ne_117 (xo yo : Operand) (f : Fn) (a b : List CV) : binT Go.Proofs.Tryd.prog .neq 117 xo yo (.fn f a b) .nilf = some (.bool true) := by kernel_rfl
attribute [go_sem] ne_117
theorem ne_117_n (xo yo : Operand) : binT Go.Proofs.Tryd.prog .neq 117 xo yo .nilf .nilf = some (.bool false) := by kernel_rfl
attribute [go_sem] ne_117_n
theorem sz_118 : szOf Go.Proofs.Tryd.prog 118 = some 64 := by kernel_rfl
attribute [go_sem] sz_118
theorem ld_118 (h : H) (id off : Nat) : loadT Go.Proofs.Tryd.prog h 118 id off = @thn _ _ (h.blk id) ⟨fun b => (b.loadN off 64).map .agg⟩ := by kernel_rfl
attribute [go_sem] ld_118
theorem st_118 (h : H) (id off : Nat) (v : CV) : storeT Go.Proofs.Tryd.prog h 118 id off v = @thn _ _ (h.blk id) ⟨fun b => cond (Nat.beq v.cells.length 64 && !b.ro) ((b.storeA off v.cells).map fun b' => h.put id (.cells b')) none⟩ := by kernel_rfl
attribute [go_sem] st_118
theorem part_118 (cs : List CV) (off : Nat) : partT Go.Proofs.Tryd.prog 118 cs off = some (.agg ((cs.drop off).take 64)) := by kernel_rfl
attribute [go_sem] part_118
theorem ze_118 : zeroT Go.Proofs.Tryd.prog 118 = some (.agg [.int .u8 0, .int .u8 0, .int .u8 0, .int .u8 0, .int .u8 0, .int .u8 0, .int .u8 0, .int .u8 0, .int .u8 0, .int .u8 0, .int .u8 0, .int .u8 0, .int .u8 0, .int .u8 0, .int .u8 0, .int .u8 0, .int .u8 0, .int .u8 0, .int .u8 0, .int .u8 0, .int .u8 0, .int .u8 0, .int .u8 0, .int .u8 0, .int .u8 0, .int .u8 0, .int .u8 0, .int .u8 0, .int .u8 0, .int .u8 0, .int .u8 0, .int .u8 0, .int .u8 0, .int .u8 0, .int .u8 0, .int .u8 0, .int .u8 0, .int .u8 0, .int .u8 0, .int .u8 0, .int .u8 0, .int .u8 0, .int .u8 0, .int .u8 0, .int .u8 0, .int .u8 0, .int .u8 0, .int .u8 0, .int .u8 0, .int .u8 0, .int .u8 0, .int .u8 0, .int .u8 0, .int .u8 0, .int .u8 0, .int .u8 0, .int .u8 0, .int .u8 0, .int .u8 0, .int .u8 0, .int .u8 0, .int .u8 0, .int .u8 0, .int .u8 0]) := by kernel_rfl
attribute [go_sem] ze_118
theorem ia_118 (id off k : Nat) (kd : IntKind) : indexAddrT Go.Proofs.Tryd.prog 118 (.ptr id off) (.int kd (Int.ofNat k)) = cond (Nat.blt k 64) (some (.ptr id (off + k * 1))) none := by kernel_rfl
attribute [go_sem] ia_118
theorem ix_118 (cs : List CV) (k : Nat) (kd : IntKind) : indexT Go.Proofs.Tryd.prog 118 (.agg cs) (.int kd (Int.ofNat k)) = cond (Nat.blt k 64) (partT Go.Proofs.Tryd.prog 5 cs (k * 1)) none := by kernel_rfl
attribute [go_sem] ix_118
theorem len_118 (h : H) (ts : List TypeId) (az : List CV) (a : CV) : builtinT Go.Proofs.Tryd.prog h .len (118 :: ts) (a :: az) = some (.val (.int .i64 64)) := by kernel_rfl
attribute [go_sem] len_118
theorem bt_118 (parts : List (Nat × CV)) : buildT Go.Proofs.Tryd.prog 118 parts = finB (CV.cells (.agg [.int .u8 0, .int .u8 0, .int .u8 0, .int .u8 0, .int .u8 0, .int .u8 0, .int .u8 0, .int .u8 0, .int .u8 0, .int .u8 0, .int .u8 0, .int .u8 0, .int .u8 0, .int .u8 0, .int .u8 0, .int .u8 0, .int .u8 0, .int .u8 0, .int .u8 0, .int .u8 0, .int .u8 0, .int .u8 0, .int .u8 0, .int .u8 0, .int .u8 0, .int .u8 0, .int .u8 0, .int .u8 0, .int .u8 0, .int .u8 0, .int .u8 0, .int .u8 0, .int .u8 0, .int .u8 0, .int .u8 0, .int .u8 0, .int .u8 0, .int .u8 0, .int .u8 0, .int .u8 0, .int .u8 0, .int .u8 0, .int .u8 0, .int .u8 0, .int .u8 0, .int .u8 0, .int .u8 0, .int .u8 0, .int .u8 0, .int .u8 0, .int .u8 0, .int .u8 0, .int .u8 0, .int .u8 0, .int .u8 0, .int .u8 0, .int .u8 0, .int .u8 0, .int .u8 0, .int .u8 0, .int .u8 0, .int .u8 0, .int .u8 0, .int .u8 0])) (fun i => some (i * 1, 1)) parts := by kernel_rfl
attribute [go_sem] bt_118
theorem sz_119 : szOf Go.Proofs.Tryd.prog 119 = some 1 := by kernel_rfl
attribute [go_sem] sz_119
theorem ld_119 (h : H) (id off : Nat) : loadT Go.Proofs.Tryd.prog h 119 id off = @thn _ _ (h.blk id) ⟨fun b => b.get off⟩ := by kernel_rfl
attribute [go_sem] ld_119
theorem st_119 (h : H) (id off : Nat) (v : CV) : storeT Go.Proofs.Tryd.prog h 119 id off v = @thn _ _ (h.blk id) ⟨fun b => cond (Nat.beq v.cells.length 1 && !b.ro) ((b.storeA off v.cells).map fun b' => h.put id (.cells b')) none⟩ := by kernel_rfl
attribute [go_sem] st_119
theorem part_119 (cs : List CV) (off : Nat) : partT Go.Proofs.Tryd.prog 119 cs off = nth cs off := by kernel_rfl
attribute [go_sem] part_119
theorem ze_119 : zeroT Go.Proofs.Tryd.prog 119 = some (.nilf) := by kernel_rfl
attribute [go_sem] ze_119
theorem eq_119 (xo yo : Operand) (f : Fn) (a b : List CV) : binT Go.Proofs.Tryd.prog .eql 119 xo yo (.fn f a b) .nilf = some (.bool false) := by kernel_rfl
attribute [go_sem] eq_119
theorem eq_119_n (xo yo : Operand) : binT Go.Proofs.Tryd.prog .eql 119 xo yo .nilf .nilf = some (.bool true) := by kernel_rfl
attribute [go_sem] eq_119_n
theorem ne_119 (xo yo : Operand) (f : Fn) (a b : List CV) : binT Go.Proofs.Tryd.prog .neq 119 xo yo (.fn f a b) .nilf = some (.bool true) := by kernel_rfl
attribute [go_sem] ne_119
theorem ne_119_n (xo yo : Operand) : binT Go.Proofs.Tryd.prog .neq 119 xo yo .nilf .nilf = some (.bool false) := by kernel_rfl
attribute [go_sem] ne_119_n
theorem sz_120 : szOf Go.Proofs.Tryd.prog 120 = some 1 := by kernel_rfl
attribute [go_sem] sz_120
theorem ld_120 (h : H) (id off : Nat) : loadT Go.Proofs.Tryd.prog h 120 id off = @thn _ _ (h.blk id) ⟨fun b => b.get off⟩ := by kernel_rfl
attribute [go_sem] ld_120
theorem st_120 (h : H) (id off : Nat) (v : CV) : storeT Go.Proofs.Tryd.prog h 120 id off v = @thn _ _ (h.blk id) ⟨fun b => cond (Nat.beq v.cells.length 1 && !b.ro) ((b.storeA off v.cells).map fun b' => h.put id (.cells b')) none⟩ := by kernel_rfl
attribute [go_sem] st_120
theorem part_120 (cs : List CV) (off : Nat) : partT Go.Proofs.Tryd.prog 120 cs off = nth cs off := by kernel_rfl
attribute [go_sem] part_120
theorem ze_120 : zeroT Go.Proofs.Tryd.prog 120 = some (.nilf) := by kernel_rfl
attribute [go_sem] ze_120
theorem eq_120 (xo yo : Operand) (f : Fn) (a b : List CV) : binT Go.Proofs.Tryd.prog .eql 120 xo yo (.fn f a b) .nilf = some (.bool false) := by kernel_rfl
attribute [go_sem] eq_120
theorem eq_120_n (xo yo : Operand) : binT Go.Proofs.Tryd.prog .eql 120 xo yo .nilf .nilf = some (.bool true) := by kernel_rfl
attribute [go_sem] eq_120_n
theorem ne_120 (xo yo : Operand) (f : Fn) (a b : List CV) : binT Go.Proofs.Tryd.prog .neq 120 xo yo (.fn f a b) .nilf = some (.bool true) := by kernel_rfl
attribute [go_sem] ne_120
theorem ne_120_n (xo yo : Operand) : binT Go.Proofs.Tryd.prog .neq 120 xo yo .nilf .nilf = some (.bool false) := by kernel_rfl
attribute [go_sem] ne_120_n
theorem sz_121 : szOf Go.Proofs.Tryd.prog 121 = some 1 := by kernel_rfl
attribute [go_sem] sz_121
theorem ld_121 (h : H) (id off : Nat) : loadT Go.Proofs.Tryd.prog h 121 id off = @thn _ _ (h.blk id) ⟨fun b => b.get off⟩ := by kernel_rfl
attribute [go_sem] ld_121
theorem st_121 (h : H) (id off : Nat) (v : CV) : storeT Go.Proofs.Tryd.prog h 121 id off v = @thn _ _ (h.blk id) ⟨fun b => cond (Nat.beq v.cells.length 1 && !b.ro) ((b.storeA off v.cells).map fun b' => h.put id (.cells b')) none⟩ := by kernel_rfl
attribute [go_sem] st_121
theorem part_121 (cs : List CV) (off : Nat) : partT Go.Proofs.Tryd.prog 121 cs off = nth cs off := by kernel_rfl
attribute [go_sem] part_121
theorem ze_121 : zeroT Go.Proofs.Tryd.prog 121 = some (.nilf) := by kernel_rfl
attribute [go_sem] ze_121
theorem eq_121 (xo yo : Operand) (f : Fn) (a b : List CV) : binT Go.Proofs.Tryd.prog .eql 121 xo yo (.fn f a b) .nilf = some (.bool false) := by kernel_rfl
attribute [go_sem] eq_121
theorem eq_121_n (xo yo : Operand) : binT Go.Proofs.Tryd.prog .eql 121 xo yo .nilf .nilf = some (.bool true) := by kernel_rfl
attribute [go_sem] eq_121_n
theorem ne_121 (xo yo : Operand) (f : Fn) (a b : List CV) : binT Go.Proofs.Tryd.prog .neq 121 xo yo (.fn f a b) .nilf = some (.bool true) := by kernel_rfl
attribute [go_sem] ne_121
theorem ne_121_n (xo yo : Operand) : binT Go.Proofs.Tryd.prog .neq 121 xo yo .nilf .nilf = some (.bool false) := by kernel_rfl
attribute [go_sem] ne_121_n
theorem sz_122 : szOf Go.Proofs.Tryd.prog 122 = some 1 := by kernel_rfl
attribute [go_sem] sz_122
theorem ld_122 (h : H) (id off : Nat) : loadT Go.Proofs.Tryd.prog h 122 id off = @thn _ _ (h.blk id) ⟨fun b => b.get off⟩ := by kernel_rfl
attribute [go_sem] ld_122
theorem st_122 (h : H) (id off : Nat) (v : CV) : storeT Go.Proofs.Tryd.prog h 122 id off v = @thn _ _ (h.blk id) ⟨fun b => cond (Nat.beq v.cells.length 1 && !b.ro) ((b.storeA off v.cells).map fun b' => h.put id (.cells b')) none⟩ := by kernel_rfl
attribute [go_sem] st_122
theorem part_122 (cs : List CV) (off : Nat) : partT Go.Proofs.Tryd.prog 122 cs off = nth cs off := by kernel_rfl
attribute [go_sem] part_122
theorem ze_122 : zeroT Go.Proofs.Tryd.prog 122 = some (.nilf) := by kernel_rfl
attribute [go_sem] ze_122
theorem eq_122 (xo yo : Operand) (f : Fn) (a b : List CV) : binT Go.Proofs.Tryd.prog .eql 122 xo yo (.fn f a b) .nilf = some (.bool false) := by kernel_rfl
attribute [go_sem] eq_122
theorem eq_122_n (xo yo : Operand) : binT Go.Proofs.Tryd.prog .eql 122 xo yo .nilf .nilf = some (.bool true) := by kernel_rfl
attribute [go_sem] eq_122_n
theorem ne_122 (xo yo : Operand) (f : Fn) (a b : List CV) : binT Go.Proofs.Tryd.prog .neq 122 xo yo (.fn f a b) .nilf = some (.bool true) := by kernel_rfl
attribute [go_sem] ne_122
theorem ne_122_n (xo yo : Operand) : binT Go.Proofs.Tryd.prog .neq 122 xo yo .nilf .nilf = some (.bool false) := by kernel_rfl
attribute [go_sem] ne_122_n
theorem sz_123 : szOf Go.Proofs.Tryd.prog 123 = some 64 := by kernel_rfl
attribute [go_sem] sz_123
theorem ld_123 (h : H) (id off : Nat) : loadT Go.Proofs.Tryd.prog h 123 id off = @thn _ _ (h.blk id) ⟨fun b => (b.loadN off 64).map .agg⟩ := by kernel_rfl
attribute [go_sem] ld_123
theorem st_123 (h : H) (id off : Nat) (v : CV) : storeT Go.Proofs.Tryd.prog h 123 id off v = @thn _ _ (h.blk id) ⟨fun b => cond (Nat.beq v.cells.length 64 && !b.ro) ((b.storeA off v.cells).map fun b' => h.put id (.cells b')) none⟩ := by kernel_rfl
attribute [go_sem] st_123
theorem part_123 (cs : List CV) (off : Nat) : partT Go.Proofs.Tryd.prog 123 cs off = some (.agg ((cs.drop off).take 64)) := by kernel_rfl
attribute [go_sem] part_123
theorem ze_123 : zeroT Go.Proofs.Tryd.prog 123 = some (.agg [.int .u64 0, .int .u64 0, .int .u64 0, .int .u64 0, .int .u64 0, .int .u64 0, .int .u64 0, .int .u64 0, .int .u64 0, .int .u64 0, .int .u64 0, .int .u64 0, .int .u64 0, .int .u64 0, .int .u64 0, .int .u64 0, .int .u64 0, .int .u64 0, .int .u64 0, .int .u64 0, .int .u64 0, .int .u64 0, .int .u64 0, .int .u64 0, .int .u64 0, .int .u64 0, .int .u64 0, .int .u64 0, .int .u64 0, .int .u64 0, .int .u64 0, .int .u64 0, .int .u64 0, .int .u64 0, .int .u64 0, .int .u64 0, .int .u64 0, .int .u64 0, .int .u64 0, .int .u64 0, .int .u64 0, .int .u64 0, .int .u64 0, .int .u64 0, .int .u64 0, .int .u64 0, .int .u64 0, .int .u64 0, .int .u64 0, .int .u64 0, .int .u64 0, .int .u64 0, .int .u64 0, .int .u64 0, .int .u64 0, .int .u64 0, .int .u64 0, .int .u64 0, .int .u64 0, .int .u64 0, .int .u64 0, .int .u64 0, .int .u64 0, .int .u64 0]) := by kernel_rfl
attribute [go_sem] ze_123
theorem ia_123 (id off k : Nat) (kd : IntKind) : indexAddrT Go.Proofs.Tryd.prog 123 (.ptr id off) (.int kd (Int.ofNat k)) = cond (Nat.blt k 64) (some (.ptr id (off + k * 1))) none := by kernel_rfl
attribute [go_sem] ia_123
theorem ix_123 (cs : List CV) (k : Nat) (kd : IntKind) : indexT Go.Proofs.Tryd.prog 123 (.agg cs) (.int kd (Int.ofNat k)) = cond (Nat.blt k 64) (partT Go.Proofs.Tryd.prog 23 cs (k * 1)) none := by kernel_rfl
attribute [go_sem] ix_123
theorem len_123 (h : H) (ts : List TypeId) (az : List CV) (a : CV) : builtinT Go.Proofs.Tryd.prog h .len (123 :: ts) (a :: az) = some (.val (.int .i64 64)) := by kernel_rfl
attribute [go_sem] len_123
theorem bt_123 (parts : List (Nat × CV)) : buildT Go.Proofs.Tryd.prog 123 parts = finB (CV.cells (.agg [.int .u64 0, .int .u64 0, .int .u64 0, .int .u64 0, .int .u64 0, .int .u64 0, .int .u64 0, .int .u64 0, .int .u64 0, .int .u64 0, .int .u64 0, .int .u64 0, .int .u64 0, .int .u64 0, .int .u64 0, .int .u64 0, .int .u64 0, .int .u64 0, .int .u64 0, .int .u64 0, .int .u64 0, .int .u64 0, .int .u64 0, .int .u64 0, .int .u64 0, .int .u64 0, .int .u64 0, .int .u64 0, .int .u64 0, .int .u64 0, .int .u64 0, .int .u64 0, .int .u64 0, .int .u64 0, .int .u64 0, .int .u64 0, .int .u64 0, .int .u64 0, .int .u64 0, .int .u64 0, .int .u64 0, .int .u64 0, .int .u64 0, .int .u64 0, .int .u64 0, .int .u64 0, .int .u64 0, .int .u64 0, .int .u64 0, .int .u64 0, .int .u64 0, .int .u64 0, .int .u64 0, .int .u64 0, .int .u64 0, .int .u64 0, .int .u64 0, .int .u64 0, .int .u64 0, .int .u64 0, .int .u64 0, .int .u64 0, .int .u64 0, .int .u64 0])) (fun i => some (i * 1, 1)) parts := by kernel_rfl
attribute [go_sem] bt_123
theorem sz_124 : szOf Go.Proofs.Tryd.prog 124 = some 1 := by kernel_rfl
attribute [go_sem] sz_124
theorem ld_124 (h : H) (id off : Nat) : loadT Go.Proofs.Tryd.prog h 124 id off = @thn _ _ (h.blk id) ⟨fun b => b.get off⟩ := by kernel_rfl
attribute [go_sem] ld_124
theorem st_124 (h : H) (id off : Nat) (v : CV) : storeT Go.Proofs.Tryd.prog h 124 id off v = @thn _ _ (h.blk id) ⟨fun b => cond (Nat.beq v.cells.length 1 && !b.ro) ((b.storeA off v.cells).map fun b' => h.put id (.cells b')) none⟩ := by kernel_rfl
attribute [go_sem] st_124
theorem part_124 (cs : List CV) (off : Nat) : partT Go.Proofs.Tryd.prog 124 cs off = nth cs off := by kernel_rfl
attribute [go_sem] part_124
theorem ze_124 : zeroT Go.Proofs.Tryd.prog 124 = some (.nilf) := by kernel_rfl
attribute [go_sem] ze_124
theorem eq_124 (xo yo : Operand) (f : Fn) (a b : List CV) : binT Go.Proofs.Tryd.prog .eql 124 xo yo (.fn f a b) .nilf = some (.bool false) := by kernel_rfl
attribute [go_sem] eq_124
theorem eq_124_n (xo yo : Operand) : binT Go.Proofs.Tryd.prog .eql 124 xo yo .nilf .nilf = some (.bool true) := by kernel_rfl
attribute [go_sem] eq_124_n
theorem ne_124 (xo yo : Operand) (f : Fn) (a b : List CV) : binT Go.Proofs.Tryd.prog .neq 124 xo yo (.fn f a b) .nilf = some (.bool true) := by kernel_rfl
attribute [go_sem] ne_124
theorem ne_124_n (xo yo : Operand) : binT Go.Proofs.Tryd.prog .neq 124 xo yo .nilf .nilf = some (.bool false) := by kernel_rfl
attribute [go_sem] ne_124_n
theorem sz_125 : szOf Go.Proofs.Tryd.prog 125 = some 1 := by kernel_rfl
attribute [go_sem] sz_125
theorem ld_125 (h : H) (id off : Nat) : loadT Go.Proofs.Tryd.prog h 125 id off = @thn _ _ (h.blk id) ⟨fun b => b.get off⟩ := by kernel_rfl
attribute [go_sem] ld_125
theorem st_125 (h : H) (id off : Nat) (v : CV) : storeT Go.Proofs.Tryd.prog h 125 id off v = @thn _ _ (h.blk id) ⟨fun b => cond (Nat.beq v.cells.length 1 && !b.ro) ((b.storeA off v.cells).map fun b' => h.put id (.cells b')) none⟩ := by kernel_rfl
attribute [go_sem] st_125
theorem part_125 (cs : List CV) (off : Nat) : partT Go.Proofs.Tryd.prog 125 cs off = nth cs off := by kernel_rfl
attribute [go_sem] part_125
theorem ze_125 : zeroT Go.Proofs.Tryd.prog 125 = some (.nilf) := by kernel_rfl
attribute [go_sem] ze_125
theorem eq_125 (xo yo : Operand) (f : Fn) (a b : List CV) : binT Go.Proofs.Tryd.prog .eql 125 xo yo (.fn f a b) .nilf = some (.bool false) := by kernel_rfl
attribute [go_sem] eq_125
theorem eq_125_n (xo yo : Operand) : binT Go.Proofs.Tryd.prog .eql 125 xo yo .nilf .nilf = some (.bool true) := by kernel_rfl
attribute [go_sem] eq_125_n
theorem ne_125 (xo yo : Operand) (f : Fn) (a b : List CV) : binT Go.Proofs.Tryd.prog .neq 125 xo yo (.fn f a b) .nilf = some (.bool true) := by kernel_rfl
attribute [go_sem] ne_125
theorem ne_125_n (xo yo : Operand) : binT Go.Proofs.Tryd.prog .neq 125 xo yo .nilf .nilf = some (.bool false) := by kernel_rfl
attribute [go_sem] ne_125_n
theorem sz_126 : szOf Go.Proofs.Tryd.prog 126 = some 1 := by kernel_rfl
attribute [go_sem] sz_126
theorem ld_126 (h : H) (id off : Nat) : loadT Go.Proofs.Tryd.prog h 126 id off = @thn _ _ (h.blk id) ⟨fun b => b.get off⟩ := by kernel_rfl
attribute [go_sem] ld_126
theorem st_126 (h : H) (id off : Nat) (v : CV) : storeT Go.Proofs.Tryd.prog h 126 id off v = @thn _ _ (h.blk id) ⟨fun b => cond (Nat.beq v.cells.length 1 && !b.ro) ((b.storeA off v.cells).map fun b' => h.put id (.cells b')) none⟩ := by kernel_rfl
attribute [go_sem] st_126
theorem part_126 (cs : List CV) (off : Nat) : partT Go.Proofs.Tryd.prog 126 cs off = nth cs off := by kernel_rfl
attribute [go_sem] part_126
theorem ze_126 : zeroT Go.Proofs.Tryd.prog 126 = some (.nilf) := by kernel_rfl
attribute [go_sem] ze_126
theorem eq_126 (xo yo : Operand) (f : Fn) (a b : List CV) : binT Go.Proofs.Tryd.prog .eql 126 xo yo (.fn f a b) .nilf = some (.bool false) := by kernel_rfl
attribute [go_sem] eq_126
theorem eq_126_n (xo yo : Operand) : binT Go.Proofs.Tryd.prog .eql 126 xo yo .nilf .nilf = some (.bool true) := by kernel_rfl
attribute [go_sem] eq_126_n
theorem ne_126 (xo yo : Operand) (f : Fn) (a b : List CV) : binT Go.Proofs.Tryd.prog .neq 126 xo yo (.fn f a b) .nilf = some (.bool true) := by kernel_rfl
attribute [go_sem] ne_126
theorem ne_126_n (xo yo : Operand) : binT Go.Proofs.Tryd.prog .neq 126 xo yo .nilf .nilf = some (.bool false) := by kernel_rfl
attribute [go_sem] ne_126_n
theorem sz_127 : szOf Go.Proofs.Tryd.prog 127 = some 1 := by kernel_rfl
attribute [go_sem] sz_127
theorem ld_127 (h : H) (id off : Nat) : loadT Go.Proofs.Tryd.prog h 127 id off = @thn _ _ (h.blk id) ⟨fun b => b.get off⟩ := by kernel_rfl
attribute [go_sem] ld_127
theorem st_127 (h : H) (id off : Nat) (v : CV) : storeT Go.Proofs.Tryd.prog h 127 id off v = @thn _ _ (h.blk id) ⟨fun b => cond (Nat.beq v.cells.length 1 && !b.ro) ((b.storeA off v.cells).map fun b' => h.put id (.cells b')) none⟩ := by kernel_rfl
attribute [go_sem] st_127
theorem part_127 (cs : List CV) (off : Nat) : partT Go.Proofs.Tryd.prog 127 cs off = nth cs off := by kernel_rfl
attribute [go_sem] part_127
theorem ze_127 : zeroT Go.Proofs.Tryd.prog 127 = some (.nilf) := by kernel_rfl
attribute [go_sem] ze_127
theorem eq_127 (xo yo : Operand) (f : Fn) (a b : List CV) : binT Go.Proofs.Tryd.prog .eql 127 xo yo (.fn f a b) .nilf = some (.bool false) := by kernel_rfl
attribute [go_sem] eq_127
theorem eq_127_n (xo yo : Operand) : binT Go.Proofs.Tryd.prog .eql 127 xo yo .nilf .nilf = some (.bool true) := by kernel_rfl
attribute [go_sem] eq_127_n
theorem ne_127 (xo yo : Operand) (f : Fn) (a b : List CV) : binT Go.Proofs.Tryd.prog .neq 127 xo yo (.fn f a b) .nilf = some (.bool true) := by kernel_rfl
attribute [go_sem] ne_127
theorem ne_127_n (xo yo : Operand) : binT Go.Proofs.Tryd.prog .neq 127 xo yo .nilf .nilf = some (.bool false) := by kernel_rfl
attribute [go_sem] ne_127_n
theorem sz_128 : szOf Go.Proofs.Tryd.prog 128 = some 1 := by kernel_rfl
attribute [go_sem] sz_128
theorem ld_128 (h : H) (id off : Nat) : loadT Go.Proofs.Tryd.prog h 128 id off = @thn _ _ (h.blk id) ⟨fun b => b.get off⟩ := by kernel_rfl
attribute [go_sem] ld_128
theorem st_128 (h : H) (id off : Nat) (v : CV) : storeT Go.Proofs.Tryd.prog h 128 id off v = @thn _ _ (h.blk id) ⟨fun b => cond (Nat.beq v.cells.length 1 && !b.ro) ((b.storeA off v.cells).map fun b' => h.put id (.cells b')) none⟩ := by kernel_rfl
attribute [go_sem] st_128
theorem part_128 (cs : List CV) (off : Nat) : partT Go.Proofs.Tryd.prog 128 cs off = nth cs off := by kernel_rfl
attribute [go_sem] part_128
theorem ze_128 : zeroT Go.Proofs.Tryd.prog 128 = some (.nilf) := by kernel_rfl
attribute [go_sem] ze_128
theorem eq_128 (xo yo : Operand) (f : Fn) (a b : List CV) : binT Go.Proofs.Tryd.prog .eql 128 xo yo (.fn f a b) .nilf = some (.bool false) := by kernel_rfl
attribute [go_sem] eq_128
theorem eq_128_n (xo yo : Operand) : binT Go.Proofs.Tryd.prog .eql 128 xo yo .nilf .nilf = some (.bool true) := by kernel_rfl
attribute [go_sem] eq_128_n
theorem ne_128 (xo yo : Operand) (f : Fn) (a b : List CV) : binT Go.Proofs.Tryd.prog .neq 128 xo yo (.fn f a b) .nilf = some (.bool true) := by kernel_rfl
attribute [go_sem] ne_128
theorem ne_128_n (xo yo : Operand) : binT Go.Proofs.Tryd.prog .neq 128 xo yo .nilf .nilf = some (.bool false) := by kernel_rfl
attribute [go_sem] ne_128_n
theorem sz_130 : szOf Go.Proofs.Tryd.prog 130 = some 1 := by kernel_rfl
attribute [go_sem] sz_130
theorem ld_130 (h : H) (id off : Nat) : loadT Go.Proofs.Tryd.prog h 130 id off = @thn _ _ (h.blk id) ⟨fun b => b.get off⟩ := by kernel_rfl
attribute [go_sem] ld_130
theorem st_130 (h : H) (id off : Nat) (v : CV) : storeT Go.Proofs.Tryd.prog h 130 id off v = @thn _ _ (h.blk id) ⟨fun b => cond (Nat.beq v.cells.length 1 && !b.ro) ((b.storeA off v.cells).map fun b' => h.put id (.cells b')) none⟩ := by kernel_rfl
attribute [go_sem] st_130
theorem part_130 (cs : List CV) (off : Nat) : partT Go.Proofs.Tryd.prog 130 cs off = nth cs off := by kernel_rfl
attribute [go_sem] part_130
theorem ze_130 : zeroT Go.Proofs.Tryd.prog 130 = some (.nilf) := by kernel_rfl
attribute [go_sem] ze_130
theorem eq_130 (xo yo : Operand) (f : Fn) (a b : List CV) : binT Go.Proofs.Tryd.prog .eql 130 xo yo (.fn f a b) .nilf = some (.bool false) := by kernel_rfl
attribute [go_sem] eq_130
theorem eq_130_n (xo yo : Operand) : binT Go.Proofs.Tryd.prog .eql 130 xo yo .nilf .nilf = some (.bool true) := by kernel_rfl
attribute [go_sem] eq_130_n
theorem ne_130 (xo yo : Operand) (f : Fn) (a b : List CV) : binT Go.Proofs.Tryd.prog .neq 130 xo yo (.fn f a b) .nilf = some (.bool true) := by kernel_rfl
attribute [go_sem] ne_130
theorem ne_130_n (xo yo : Operand) : binT Go.Proofs.Tryd.prog .neq 130 xo yo .nilf .nilf = some (.bool false) := by kernel_rfl
attribute [go_sem] ne_130_n
theorem sz_131 : szOf Go.Proofs.Tryd.prog 131 = some 1 := by kernel_rfl
attribute [go_sem] sz_131
theorem ld_131 (h : H) (id off : Nat) : loadT Go.Proofs.Tryd.prog h 131 id off = @thn _ _ (h.blk id) ⟨fun b => b.get off⟩ := by kernel_rfl
attribute [go_sem] ld_131
theorem st_131 (h : H) (id off : Nat) (v : CV) : storeT Go.Proofs.Tryd.prog h 131 id off v = @thn _ _ (h.blk id) ⟨fun b => cond (Nat.beq v.cells.length 1 && !b.ro) ((b.storeA off v.cells).map fun b' => h.put id (.cells b')) none⟩ := by kernel_rfl
attribute [go_sem] st_131
theorem part_131 (cs : List CV) (off : Nat) : partT Go.Proofs.Tryd.prog 131 cs off = nth cs off := by kernel_rfl
attribute [go_sem] part_131
theorem ze_131 : zeroT Go.Proofs.Tryd.prog 131 = some (.nils) := by kernel_rfl
attribute [go_sem] ze_131
theorem ia_131 (id off len k : Nat) (c : Cap) (kd : IntKind) : indexAddrT Go.Proofs.Tryd.prog 131 (.sl id off len c) (.int kd (Int.ofNat k)) = cond (Nat.blt k len) (some (.ptr id (off + k * 1))) none := by kernel_rfl
attribute [go_sem] ia_131
theorem len_131 (h : H) (id off len : Nat) (c : Cap) (ts : List TypeId) (az : List CV) : builtinT Go.Proofs.Tryd.prog h .len (131 :: ts) (.sl id off len c :: az) = some (.val (.int .i64 (Int.ofNat len))) := by kernel_rfl
attribute [go_sem] len_131
theorem len_131_n (h : H) (ts : List TypeId) (az : List CV) : builtinT Go.Proofs.Tryd.prog h .len (131 :: ts) (.nils :: az) = some (.val (.int .i64 0)) := by kernel_rfl
attribute [go_sem] len_131_n
theorem app_131 (h : H) (s : CV) (id off len : Nat) (c : Cap) (ts : List TypeId) (az : List CV) : builtinT Go.Proofs.Tryd.prog h .append (131 :: 131 :: ts) (s :: .sl id off len c :: az) = uv (appendT Go.Proofs.Tryd.prog h 131 s (.sl id off len c)) := by kernel_rfl
attribute [go_sem] app_131
theorem app_131_n (h : H) (s : CV) (ts : List TypeId) (az : List CV) : builtinT Go.Proofs.Tryd.prog h .append (131 :: 131 :: ts) (s :: .nils :: az) = uv (appendT Go.Proofs.Tryd.prog h 131 s .nils) := by kernel_rfl
attribute [go_sem] app_131_n
theorem ap_131 (h : H) (s : CV) (id off len : Nat) (c : Cap) : appendT Go.Proofs.Tryd.prog h 131 s (.sl id off len c) = appS h 1 8 1 s len (firstC h 1 len (.sl id off len c)) := by kernel_rfl
attribute [go_sem] ap_131
theorem ap_131_n (h : H) (s : CV) : appendT Go.Proofs.Tryd.prog h 131 s .nils = appS h 1 8 1 s 0 (some []) := by kernel_rfl
attribute [go_sem] ap_131_n
theorem ap_131_z (h : H) (s : CV) (a b c d : Nat) : appendT Go.Proofs.Tryd.prog h 131 s (.sl0 a b c d) = appS h 1 8 1 s 0 (some []) := by kernel_rfl
attribute [go_sem] ap_131_z
theorem bs_131 (h : H) (n : Nat) (parts : List (Nat × CV)) : buildSliceT Go.Proofs.Tryd.prog h 131 n parts = bslS h 1 (CV.cells (.int .u64 0)) n parts := by kernel_rfl
attribute [go_sem] bs_131
theorem ms_131 (h : H) (l c : Nat) (k k' : IntKind) : makeSliceT Go.Proofs.Tryd.prog h 131 (.int k (Int.ofNat l)) (.int k' (Int.ofNat c)) = mkS h 1 8 (zeroT Go.Proofs.Tryd.prog 23) l c := by kernel_rfl
attribute [go_sem] ms_131
theorem eq_131 (xo yo : Operand) (a b c : Nat) (d : Cap) : binT Go.Proofs.Tryd.prog .eql 131 xo yo (.sl a b c d) .nils = some (.bool false) := by kernel_rfl
attribute [go_sem] eq_131
theorem eq_131_n (xo yo : Operand) : binT Go.Proofs.Tryd.prog .eql 131 xo yo .nils .nils = some (.bool true) := by kernel_rfl
attribute [go_sem] eq_131_n
theorem eq_131_z (xo yo : Operand) (a b c d : Nat) : binT Go.Proofs.Tryd.prog .eql 131 xo yo (.sl0 a b c d) .nils = some (.bool false) := by kernel_rfl
attribute [go_sem] eq_131_z
theorem ne_131 (xo yo : Operand) (a b c : Nat) (d : Cap) : binT Go.Proofs.Tryd.prog .neq 131 xo yo (.sl a b c d) .nils = some (.bool true) := by kernel_rfl
attribute [go_sem] ne_131
theorem ne_131_n (xo yo : Operand) : binT Go.Proofs.Tryd.prog .neq 131 xo yo .nils .nils = some (.bool false) := by kernel_rfl
attribute [go_sem] ne_131_n
theorem ne_131_z (xo yo : Operand) (a b c d : Nat) : binT Go.Proofs.Tryd.prog .neq 131 xo yo (.sl0 a b c d) .nils = some (.bool true) := by kernel_rfl
attribute [go_sem] ne_131_z
theorem len_131_z (h : H) (a b c d : Nat) (ts : List TypeId) (az : List CV) : builtinT Go.Proofs.Tryd.prog h .len (131 :: ts) (.sl0 a b c d :: az) = some (.val (.int .i64 0)) := by kernel_rfl
attribute [go_sem] len_131_z
theorem app_131_z (h : H) (s : CV) (a b c d : Nat) (ts : List TypeId) (az : List CV) : builtinT Go.Proofs.Tryd.prog h .append (131 :: 131 :: ts) (s :: .sl0 a b c d :: az) = uv (appendT Go.Proofs.Tryd.prog h 131 s (.sl0 a b c d)) := by kernel_rfl
attribute [go_sem] app_131_z
theorem sz_132 : szOf Go.Proofs.Tryd.prog 132 = some 1 := by kernel_rfl
attribute [go_sem] sz_132
theorem ld_132 (h : H) (id off : Nat) : loadT Go.Proofs.Tryd.prog h 132 id off = @thn _ _ (h.blk id) ⟨fun b => b.get off⟩ := by kernel_rfl
attribute [go_sem] ld_132
theorem st_132 (h : H) (id off : Nat) (v : CV) : storeT Go.Proofs.Tryd.prog h 132 id off v = @thn _ _ (h.blk id) ⟨fun b => cond (Nat.beq v.cells.length 1 && !b.ro) ((b.storeA off v.cells).map fun b' => h.put id (.cells b')) none⟩ := by kernel_rfl
attribute [go_sem] st_132
theorem part_132 (cs : List CV) (off : Nat) : partT Go.Proofs.Tryd.prog 132 cs off = nth cs off := by kernel_rfl
attribute [go_sem] part_132
theorem sz_133 : szOf Go.Proofs.Tryd.prog 133 = some 1 := by kernel_rfl
attribute [go_sem] sz_133
theorem ld_133 (h : H) (id off : Nat) : loadT Go.Proofs.Tryd.prog h 133 id off = @thn _ _ (h.blk id) ⟨fun b => b.get off⟩ := by kernel_rfl
attribute [go_sem] ld_133
theorem st_133 (h : H) (id off : Nat) (v : CV) : storeT Go.Proofs.Tryd.prog h 133 id off v = @thn _ _ (h.blk id) ⟨fun b => cond (Nat.beq v.cells.length 1 && !b.ro) ((b.storeA off v.cells).map fun b' => h.put id (.cells b')) none⟩ := by kernel_rfl
attribute [go_sem] st_133
theorem part_133 (cs : List CV) (off : Nat) : partT Go.Proofs.Tryd.prog 133 cs off = nth cs off := by kernel_rfl
attribute [go_sem] part_133
theorem ze_133 : zeroT Go.Proofs.Tryd.prog 133 = some (.nilf) := by kernel_rfl
attribute [go_sem] ze_133
theorem eq_133 (xo yo : Operand) (f : Fn) (a b : List CV) : binT Go.Proofs.Tryd.prog .eql 133 xo yo (.fn f a b) .nilf = some (.bool false) := by kernel_rfl
attribute [go_sem] eq_133
theorem eq_133_n (xo yo : Operand) : binT Go.Proofs.Tryd.prog .eql 133 xo yo .nilf .nilf = some (.bool true) := by kernel_rfl
attribute [go_sem] eq_133_n
theorem ne_133 (xo yo : Operand) (f : Fn) (a b : List CV) : binT Go.Proofs.Tryd.prog .neq 133 xo yo (.fn f a b) .nilf = some (.bool true) := by kernel_rfl
attribute [go_sem] ne_133
theorem ne_133_n (xo yo : Operand) : binT Go.Proofs.Tryd.prog .neq 133 xo yo .nilf .nilf = some (.bool false) := by kernel_rfl
attribute [go_sem] ne_133_n
theorem sz_134 : szOf Go.Proofs.Tryd.prog 134 = some 1 := by kernel_rfl
attribute [go_sem] sz_134
theorem ld_134 (h : H) (id off : Nat) : loadT Go.Proofs.Tryd.prog h 134 id off = @thn _ _ (h.blk id) ⟨fun b => b.get off⟩ := by kernel_rfl
attribute [go_sem] ld_134
theorem st_134 (h : H) (id off : Nat) (v : CV) : storeT Go.Proofs.Tryd.prog h 134 id off v = @thn _ _ (h.blk id) ⟨fun b => cond (Nat.beq v.cells.length 1 && !b.ro) ((b.storeA off v.cells).map fun b' => h.put id (.cells b')) none⟩ := by kernel_rfl
attribute [go_sem] st_134
theorem part_134 (cs : List CV) (off : Nat) : partT Go.Proofs.Tryd.prog 134 cs off = nth cs off := by kernel_rfl
attribute [go_sem] part_134
theorem ze_134 : zeroT Go.Proofs.Tryd.prog 134 = some (.nilf) := by kernel_rfl
attribute [go_sem] ze_134
theorem eq_134 (xo yo : Operand) (f : Fn) (a b : List CV) : binT Go.Proofs.Tryd.prog .eql 134 xo yo (.fn f a b) .nilf = some (.bool false) := by kernel_rfl
attribute [go_sem] eq_134
theorem eq_134_n (xo yo : Operand) : binT Go.Proofs.Tryd.prog .eql 134 xo yo .nilf .nilf = some (.bool true) := by kernel_rfl
attribute [go_sem] eq_134_n
theorem ne_134 (xo yo : Operand) (f : Fn) (a b : List CV) : binT Go.Proofs.Tryd.prog .neq 134 xo yo (.fn f a b) .nilf = some (.bool true) := by kernel_rfl
attribute [go_sem] ne_134
theorem ne_134_n (xo yo : Operand) : binT Go.Proofs.Tryd.prog .neq 134 xo yo .nilf .nilf = some (.bool false) := by kernel_rfl
attribute [go_sem] ne_134_n
theorem sz_135 : szOf Go.Proofs.Tryd.prog 135 = some 1 := by kernel_rfl
attribute [go_sem] sz_135
theorem ld_135 (h : H) (id off : Nat) : loadT Go.Proofs.Tryd.prog h 135 id off = @thn _ _ (h.blk id) ⟨fun b => b.get off⟩ := by kernel_rfl
attribute [go_sem] ld_135
theorem st_135 (h : H) (id off : Nat) (v : CV) : storeT Go.Proofs.Tryd.prog h 135 id off v = @thn _ _ (h.blk id) ⟨fun b => cond (Nat.beq v.cells.length 1 && !b.ro) ((b.storeA off v.cells).map fun b' => h.put id (.cells b')) none⟩ := by kernel_rfl
attribute [go_sem] st_135
theorem part_135 (cs : List CV) (off : Nat) : partT Go.Proofs.Tryd.prog 135 cs off = nth cs off := by kernel_rfl
attribute [go_sem] part_135
theorem ze_135 : zeroT Go.Proofs.Tryd.prog 135 = some (.nilf) := by kernel_rfl
attribute [go_sem] ze_135
theorem eq_135 (xo yo : Operand) (f : Fn) (a b : List CV) : binT Go.Proofs.Tryd.prog .eql 135 xo yo (.fn f a b) .nilf = some (.bool false) := by kernel_rfl
attribute [go_sem] eq_135
theorem eq_135_n (xo yo : Operand) : binT Go.Proofs.Tryd.prog .eql 135 xo yo .nilf .nilf = some (.bool true) := by kernel_rfl
attribute [go_sem] eq_135_n
theorem ne_135 (xo yo : Operand) (f : Fn) (a b : List CV) : binT Go.Proofs.Tryd.prog .neq 135 xo yo (.fn f a b) .nilf = some (.bool true) := by kernel_rfl
attribute [go_sem] ne_135
theorem ne_135_n (xo yo : Operand) : binT Go.Proofs.Tryd.prog .neq 135 xo yo .nilf .nilf = some (.bool false) := by kernel_rfl
attribute [go_sem] ne_135_n
theorem sz_136 : szOf Go.Proofs.Tryd.prog 136 = some 1 := by kernel_rfl
attribute [go_sem] sz_136
theorem ld_136 (h : H) (id off : Nat) : loadT Go.Proofs.Tryd.prog h 136 id off = @thn _ _ (h.blk id) ⟨fun b => b.get off⟩ := by kernel_rfl
attribute [go_sem] ld_136
theorem st_136 (h : H) (id off : Nat) (v : CV) : storeT Go.Proofs.Tryd.prog h 136 id off v = @thn _ _ (h.blk id) ⟨fun b => cond (Nat.beq v.cells.length 1 && !b.ro) ((b.storeA off v.cells).map fun b' => h.put id (.cells b')) none⟩ := by kernel_rfl
attribute [go_sem] st_136
theorem part_136 (cs : List CV) (off : Nat) : partT Go.Proofs.Tryd.prog 136 cs off = nth cs off := by kernel_rfl
attribute [go_sem] part_136
theorem ze_136 : zeroT Go.Proofs.Tryd.prog 136 = some (.nilf) := by kernel_rfl
attribute [go_sem] ze_136
theorem eq_136 (xo yo : Operand) (f : Fn) (a b : List CV) : binT Go.Proofs.Tryd.prog .eql 136 xo yo (.fn f a b) .nilf = some (.bool false) := by kernel_rfl
attribute [go_sem] eq_136
theorem eq_136_n (xo yo : Operand) : binT Go.Proofs.Tryd.prog .eql 136 xo yo .nilf .nilf = some (.bool true) := by kernel_rfl
attribute [go_sem] eq_136_n
theorem ne_136 (xo yo : Operand) (f : Fn) (a b : List CV) : binT Go.Proofs.Tryd.prog .neq 136 xo yo (.fn f a b) .nilf = some (.bool true) := by kernel_rfl
attribute [go_sem] ne_136
theorem ne_136_n (xo yo : Operand) : binT Go.Proofs.Tryd.prog .neq 136 xo yo .nilf .nilf = some (.bool false) := by kernel_rfl
attribute [go_sem] ne_136_n
theorem sz_138 : szOf Go.Proofs.Tryd.prog 138 = some 1 := by kernel_rfl
attribute [go_sem] sz_138
theorem ld_138 (h : H) (id off : Nat) : loadT Go.Proofs.Tryd.prog h 138 id off = @thn _ _ (h.blk id) ⟨fun b => b.get off⟩ := by kernel_rfl
attribute [go_sem] ld_138
theorem st_138 (h : H) (id off : Nat) (v : CV) : storeT Go.Proofs.Tryd.prog h 138 id off v = @thn _ _ (h.blk id) ⟨fun b => cond (Nat.beq v.cells.length 1 && !b.ro) ((b.storeA off v.cells).map fun b' => h.put id (.cells b')) none⟩ := by kernel_rfl
attribute [go_sem] st_138
theorem part_138 (cs : List CV) (off : Nat) : partT Go.Proofs.Tryd.prog 138 cs off = nth cs off := by kernel_rfl
attribute [go_sem] part_138
theorem ze_138 : zeroT Go.Proofs.Tryd.prog 138 = some (.nilf) := by kernel_rfl
attribute [go_sem] ze_138
theorem eq_138 (xo yo : Operand) (f : Fn) (a b : List CV) : binT Go.Proofs.Tryd.prog .eql 138 xo yo (.fn f a b) .nilf = some (.bool false) := by kernel_rfl
attribute [go_sem] eq_138
theorem eq_138_n (xo yo : Operand) : binT Go.Proofs.Tryd.prog .eql 138 xo yo .nilf .nilf = some (.bool true) := by kernel_rfl
attribute [go_sem] eq_138_n
theorem ne_138 (xo yo : Operand) (f : Fn) (a b : List CV) : binT Go.Proofs.Tryd.prog .neq 138 xo yo (.fn f a b) .nilf = some (.bool true) := by kernel_rfl
attribute [go_sem] ne_138
theorem ne_138_n (xo yo : Operand) : binT Go.Proofs.Tryd.prog .neq 138 xo yo .nilf .nilf = some (.bool false) := by kernel_rfl
attribute [go_sem] ne_138_n
theorem sz_139 : szOf Go.Proofs.Tryd.prog 139 = some 1 := by kernel_rfl
attribute [go_sem] sz_139
theorem ld_139 (h : H) (id off : Nat) : loadT Go.Proofs.Tryd.prog h 139 id off = @thn _ _ (h.blk id) ⟨fun b => b.get off⟩ := by kernel_rfl
attribute [go_sem] ld_139
theorem st_139 (h : H) (id off : Nat) (v : CV) : storeT Go.Proofs.Tryd.prog h 139 id off v = @thn _ _ (h.blk id) ⟨fun b => cond (Nat.beq v.cells.length 1 && !b.ro) ((b.storeA off v.cells).map fun b' => h.put id (.cells b')) none⟩ := by kernel_rfl
attribute [go_sem] st_139
theorem part_139 (cs : List CV) (off : Nat) : partT Go.Proofs.Tryd.prog 139 cs off = nth cs off := by kernel_rfl
attribute [go_sem] part_139
theorem ze_139 : zeroT Go.Proofs.Tryd.prog 139 = some (.nilf) := by kernel_rfl
attribute [go_sem] ze_139
theorem eq_139 (xo yo : Operand) (f : Fn) (a b : List CV) : binT Go.Proofs.Tryd.prog .eql 139 xo yo (.fn f a b) .nilf = some (.bool false) := by kernel_rfl
attribute [go_sem] eq_139
theorem eq_139_n (xo yo : Operand) : binT Go.Proofs.Tryd.prog .eql 139 xo yo .nilf .nilf = some (.bool true) := by kernel_rfl
attribute [go_sem] eq_139_n
theorem ne_139 (xo yo : Operand) (f : Fn) (a b : List CV) : binT Go.Proofs.Tryd.prog .neq 139 xo yo (.fn f a b) .nilf = some (.bool true) := by kernel_rfl
attribute [go_sem] ne_139
theorem ne_139_n (xo yo : Operand) : binT Go.Proofs.Tryd.prog .neq 139 xo yo .nilf .nilf = some (.bool false) := by kernel_rfl
attribute [go_sem] ne_139_n
theorem sz_140 : szOf Go.Proofs.Tryd.prog 140 = some 1 := by kernel_rfl
attribute [go_sem] sz_140
theorem ld_140 (h : H) (id off : Nat) : loadT Go.Proofs.Tryd.prog h 140 id off = @thn _ _ (h.blk id) ⟨fun b => b.get off⟩ := by kernel_rfl
attribute [go_sem] ld_140
theorem st_140 (h : H) (id off : Nat) (v : CV) : storeT Go.Proofs.Tryd.prog h 140 id off v = @thn _ _ (h.blk id) ⟨fun b => cond (Nat.beq v.cells.length 1 && !b.ro) ((b.storeA off v.cells).map fun b' => h.put id (.cells b')) none⟩ := by kernel_rfl
attribute [go_sem] st_140
theorem part_140 (cs : List CV) (off : Nat) : partT Go.Proofs.Tryd.prog 140 cs off = nth cs off := by kernel_rfl
attribute [go_sem] part_140
theorem ze_140 : zeroT Go.Proofs.Tryd.prog 140 = some (.nilf) := by kernel_rfl
attribute [go_sem] ze_140
theorem eq_140 (xo yo : Operand) (f : Fn) (a b : List CV) : binT Go.Proofs.Tryd.prog .eql 140 xo yo (.fn f a b) .nilf = some (.bool false) := by kernel_rfl
attribute [go_sem] eq_140
theorem eq_140_n (xo yo : Operand) : binT Go.Proofs.Tryd.prog .eql 140 xo yo .nilf .nilf = some (.bool true) := by kernel_rfl
attribute [go_sem] eq_140_n
theorem ne_140 (xo yo : Operand) (f : Fn) (a b : List CV) : binT Go.Proofs.Tryd.prog .neq 140 xo yo (.fn f a b) .nilf = some (.bool true) := by kernel_rfl
attribute [go_sem] ne_140
theorem ne_140_n (xo yo : Operand) : binT Go.Proofs.Tryd.prog .neq 140 xo yo .nilf .nilf = some (.bool false) := by kernel_rfl
attribute [go_sem] ne_140_n
theorem sz_144 : szOf Go.Proofs.Tryd.prog 144 = some 1 := by kernel_rfl
attribute [go_sem] sz_144
theorem ld_144 (h : H) (id off : Nat) : loadT Go.Proofs.Tryd.prog h 144 id off = @thn _ _ (h.blk id) ⟨fun b => b.get off⟩ := by kernel_rfl
attribute [go_sem] ld_144
theorem st_144 (h : H) (id off : Nat) (v : CV) : storeT Go.Proofs.Tryd.prog h 144 id off v = @thn _ _ (h.blk id) ⟨fun b => cond (Nat.beq v.cells.length 1 && !b.ro) ((b.storeA off v.cells).map fun b' => h.put id (.cells b')) none⟩ := by kernel_rfl
attribute [go_sem] st_144
theorem part_144 (cs : List CV) (off : Nat) : partT Go.Proofs.Tryd.prog 144 cs off = nth cs off := by kernel_rfl
attribute [go_sem] part_144
theorem ze_144 : zeroT Go.Proofs.Tryd.prog 144 = some (.nilf) := by kernel_rfl
attribute [go_sem] ze_144
theorem eq_144 (xo yo : Operand) (f : Fn) (a b : List CV) : binT Go.Proofs.Tryd.prog .eql 144 xo yo (.fn f a b) .nilf = some (.bool false) := by kernel_rfl
attribute [go_sem] eq_144
theorem eq_144_n (xo yo : Operand) : binT Go.Proofs.Tryd.prog .eql 144 xo yo .nilf .nilf = some (.bool true) := by kernel_rfl
attribute [go_sem] eq_144_n
theorem ne_144 (xo yo : Operand) (f : Fn) (a b : List CV) : binT Go.Proofs.Tryd.prog .neq 144 xo yo (.fn f a b) .nilf = some (.bool true) := by kernel_rfl
attribute [go_sem] ne_144
theorem ne_144_n (xo yo : Operand) : binT Go.Proofs.Tryd.prog .neq 144 xo yo .nilf .nilf = some (.bool false) := by kernel_rfl
attribute [go_sem] ne_144_n
theorem sz_145 : szOf Go.Proofs.Tryd.prog 145 = some 1 := by kernel_rfl
attribute [go_sem] sz_145
theorem ld_145 (h : H) (id off : Nat) : loadT Go.Proofs.Tryd.prog h 145 id off = @thn _ _ (h.blk id) ⟨fun b => b.get off⟩ := by kernel_rfl
attribute [go_sem] ld_145
theorem st_145 (h : H) (id off : Nat) (v : CV) : storeT Go.Proofs.Tryd.prog h 145 id off v = @thn _ _ (h.blk id) ⟨fun b => cond (Nat.beq v.cells.length 1 && !b.ro) ((b.storeA off v.cells).map fun b' => h.put id (.cells b')) none⟩ := by kernel_rfl
attribute [go_sem] st_145
theorem part_145 (cs : List CV) (off : Nat) : partT Go.Proofs.Tryd.prog 145 cs off = nth cs off := by kernel_rfl
attribute [go_sem] part_145
theorem ze_145 : zeroT Go.Proofs.Tryd.prog 145 = some (.nilf) := by kernel_rfl
attribute [go_sem] ze_145
theorem eq_145 (xo yo : Operand) (f : Fn) (a b : List CV) : binT Go.Proofs.Tryd.prog .eql 145 xo yo (.fn f a b) .nilf = some (.bool false) := by kernel_rfl
attribute [go_sem] eq_145
theorem eq_145_n (xo yo : Operand) : binT Go.Proofs.Tryd.prog .eql 145 xo yo .nilf .nilf = some (.bool true) := by kernel_rfl
attribute [go_sem] eq_145_n
theorem ne_145 (xo yo : Operand) (f : Fn) (a b : List CV) : binT Go.Proofs.Tryd.prog .neq 145 xo yo (.fn f a b) .nilf = some (.bool true) := by kernel_rfl
attribute [go_sem] ne_145
theorem ne_145_n (xo yo : Operand) : binT Go.Proofs.Tryd.prog .neq 145 xo yo .nilf .nilf = some (.bool false) := by kernel_rfl
attribute [go_sem] ne_145_n
theorem sz_146 : szOf Go.Proofs.Tryd.prog 146 = some 1 := by kernel_rfl
attribute [go_sem] sz_146
theorem ld_146 (h : H) (id off : Nat) : loadT Go.Proofs.Tryd.prog h 146 id off = @thn _ _ (h.blk id) ⟨fun b => b.get off⟩ := by kernel_rfl
attribute [go_sem] ld_146
theorem st_146 (h : H) (id off : Nat) (v : CV) : storeT Go.Proofs.Tryd.prog h 146 id off v = @thn _ _ (h.blk id) ⟨fun b => cond (Nat.beq v.cells.length 1 && !b.ro) ((b.storeA off v.cells).map fun b' => h.put id (.cells b')) none⟩ := by kernel_rfl
attribute [go_sem] st_146
theorem part_146 (cs : List CV) (off : Nat) : partT Go.Proofs.Tryd.prog 146 cs off = nth cs off := by kernel_rfl
attribute [go_sem] part_146
theorem ze_146 : zeroT Go.Proofs.Tryd.prog 146 = some (.nilf) := by kernel_rfl
attribute [go_sem] ze_146
theorem eq_146 (xo yo : Operand) (f : Fn) (a b : List CV) : binT Go.Proofs.Tryd.prog .eql 146 xo yo (.fn f a b) .nilf = some (.bool false) := by kernel_rfl
attribute [go_sem] eq_146
theorem eq_146_n (xo yo : Operand) : binT Go.Proofs.Tryd.prog .eql 146 xo yo .nilf .nilf = some (.bool true) := by kernel_rfl
attribute [go_sem] eq_146_n
theorem ne_146 (xo yo : Operand) (f : Fn) (a b : List CV) : binT Go.Proofs.Tryd.prog .neq 146 xo yo (.fn f a b) .nilf = some (.bool true) := by kernel_rfl
attribute [go_sem] ne_146
theorem ne_146_n (xo yo : Operand) : binT Go.Proofs.Tryd.prog .neq 146 xo yo .nilf .nilf = some (.bool false) := by kernel_rfl
attribute [go_sem] ne_146_n
theorem sz_147 : szOf Go.Proofs.Tryd.prog 147 = some 1 := by kernel_rfl
attribute [go_sem] sz_147
theorem ld_147 (h : H) (id off : Nat) : loadT Go.Proofs.Tryd.prog h 147 id off = @thn _ _ (h.blk id) ⟨fun b => b.get off⟩ := by kernel_rfl
attribute [go_sem] ld_147
theorem st_147 (h : H) (id off : Nat) (v : CV) : storeT Go.Proofs.Tryd.prog h 147 id off v = @thn _ _ (h.blk id) ⟨fun b => cond (Nat.beq v.cells.length 1 && !b.ro) ((b.storeA off v.cells).map fun b' => h.put id (.cells b')) none⟩ := by kernel_rfl
attribute [go_sem] st_147
theorem part_147 (cs : List CV) (off : Nat) : partT Go.Proofs.Tryd.prog 147 cs off = nth cs off := by kernel_rfl
attribute [go_sem] part_147
theorem ze_147 : zeroT Go.Proofs.Tryd.prog 147 = some (.nilf) := by kernel_rfl
attribute [go_sem] ze_147
theorem eq_147 (xo yo : Operand) (f : Fn) (a b : List CV) : binT Go.Proofs.Tryd.prog .eql 147 xo yo (.fn f a b) .nilf = some (.bool false) := by kernel_rfl
attribute [go_sem] eq_147
theorem eq_147_n (xo yo : Operand) : binT Go.Proofs.Tryd.prog .eql 147 xo yo .nilf .nilf = some (.bool true) := by kernel_rfl
attribute [go_sem] eq_147_n
theorem ne_147 (xo yo : Operand) (f : Fn) (a b : List CV) : binT Go.Proofs.Tryd.prog .neq 147 xo yo (.fn f a b) .nilf = some (.bool true) := by kernel_rfl
attribute [go_sem] ne_147
theorem ne_147_n (xo yo : Operand) : binT Go.Proofs.Tryd.prog .neq 147 xo yo .nilf .nilf = some (.bool false) := by kernel_rfl
attribute [go_sem] ne_147_n
theorem sz_148 : szOf Go.Proofs.Tryd.prog 148 = some 1 := by kernel_rfl
attribute [go_sem] sz_148
theorem ld_148 (h : H) (id off : Nat) : loadT Go.Proofs.Tryd.prog h 148 id off = @thn _ _ (h.blk id) ⟨fun b => b.get off⟩ := by kernel_rfl
attribute [go_sem] ld_148
theorem st_148 (h : H) (id off : Nat) (v : CV) : storeT Go.Proofs.Tryd.prog h 148 id off v = @thn _ _ (h.blk id) ⟨fun b => cond (Nat.beq v.cells.length 1 && !b.ro) ((b.storeA off v.cells).map fun b' => h.put id (.cells b')) none⟩ := by kernel_rfl
attribute [go_sem] st_148
theorem part_148 (cs : List CV) (off : Nat) : partT Go.Proofs.Tryd.prog 148 cs off = nth cs off := by kernel_rfl
attribute [go_sem] part_148
theorem ze_148 : zeroT Go.Proofs.Tryd.prog 148 = some (.nilf) := by kernel_rfl
attribute [go_sem] ze_148
theorem eq_148 (xo yo : Operand) (f : Fn) (a b : List CV) : binT Go.Proofs.Tryd.prog .eql 148 xo yo (.fn f a b) .nilf = some (.bool false) := by kernel_rfl
attribute [go_sem] eq_148
theorem eq_148_n (xo yo : Operand) : binT Go.Proofs.Tryd.prog .eql 148 xo yo .nilf .nilf = some (.bool true) := by kernel_rfl
attribute [go_sem] eq_148_n
theorem ne_148 (xo yo : Operand) (f : Fn) (a b : List CV) : binT Go.Proofs.Tryd.prog .neq 148 xo yo (.fn f a b) .nilf = some (.bool true) := by kernel_rfl
attribute [go_sem] ne_148
theorem ne_148_n (xo yo : Operand) : binT Go.Proofs.Tryd.prog .neq 148 xo yo .nilf .nilf = some (.bool false) := by kernel_rfl
attribute [go_sem] ne_148_n
theorem sz_150 : szOf Go.Proofs.Tryd.prog 150 = some 1 := by kernel_rfl
attribute [go_sem] sz_150
theorem ld_150 (h : H) (id off : Nat) : loadT Go.Proofs.Tryd.prog h 150 id off = @thn _ _ (h.blk id) ⟨fun b => b.get off⟩ := by kernel_rfl
attribute [go_sem] ld_150
theorem st_150 (h : H) (id off : Nat) (v : CV) : storeT Go.Proofs.Tryd.prog h 150 id off v = @thn _ _ (h.blk id) ⟨fun b => cond (Nat.beq v.cells.length 1 && !b.ro) ((b.storeA off v.cells).map fun b' => h.put id (.cells b')) none⟩ := by kernel_rfl
attribute [go_sem] st_150
theorem part_150 (cs : List CV) (off : Nat) : partT Go.Proofs.Tryd.prog 150 cs off = nth cs off := by kernel_rfl
attribute [go_sem] part_150
theorem ze_150 : zeroT Go.Proofs.Tryd.prog 150 = some (.nilf) := by kernel_rfl
attribute [go_sem] ze_150
theorem eq_150 (xo yo : Operand) (f : Fn) (a b : List CV) : binT Go.Proofs.Tryd.prog .eql 150 xo yo (.fn f a b) .nilf = some (.bool false) := by kernel_rfl
attribute [go_sem] eq_150
theorem eq_150_n (xo yo : Operand) : binT Go.Proofs.Tryd.prog .eql 150 xo yo .nilf .nilf = some (.bool true) := by kernel_rfl
attribute [go_sem] eq_150_n
theorem ne_150 (xo yo : Operand) (f : Fn) (a b : List CV) : binT Go.Proofs.Tryd.prog .neq 150 xo yo (.fn f a b) .nilf = some (.bool true) := by kernel_rfl
attribute [go_sem] ne_150
theorem ne_150_n (xo yo : Operand) : binT Go.Proofs.Tryd.prog .neq 150 xo yo .nilf .nilf = some (.bool false) := by kernel_rfl
attribute [go_sem] ne_150_n
theorem sz_151 : szOf Go.Proofs.Tryd.prog 151 = some 1 := by kernel_rfl
attribute [go_sem] sz_151
theorem ld_151 (h : H) (id off : Nat) : loadT Go.Proofs.Tryd.prog h 151 id off = @thn _ _ (h.blk id) ⟨fun b => b.get off⟩ := by kernel_rfl
attribute [go_sem] ld_151
theorem st_151 (h : H) (id off : Nat) (v : CV) : storeT Go.Proofs.Tryd.prog h 151 id off v = @thn _ _ (h.blk id) ⟨fun b => cond (Nat.beq v.cells.length 1 && !b.ro) ((b.storeA off v.cells).map fun b' => h.put id (.cells b')) none⟩ := by kernel_rfl
attribute [go_sem] st_151
theorem part_151 (cs : List CV) (off : Nat) : partT Go.Proofs.Tryd.prog 151 cs off = nth cs off := by kernel_rfl
attribute [go_sem] part_151
theorem ze_151 : zeroT Go.Proofs.Tryd.prog 151 = some (.nilf) := by kernel_rfl
attribute [go_sem] ze_151
theorem eq_151 (xo yo : Operand) (f : Fn) (a b : List CV) : binT Go.Proofs.Tryd.prog .eql 151 xo yo (.fn f a b) .nilf = some (.bool false) := by kernel_rfl
attribute [go_sem] eq_151
theorem eq_151_n (xo yo : Operand) : binT Go.Proofs.Tryd.prog .eql 151 xo yo .nilf .nilf = some (.bool true) := by kernel_rfl
attribute [go_sem] eq_151_n
theorem ne_151 (xo yo : Operand) (f : Fn) (a b : List CV) : binT Go.Proofs.Tryd.prog .neq 151 xo yo (.fn f a b) .nilf = some (.bool true) := by kernel_rfl
attribute [go_sem] ne_151
theorem ne_151_n (xo yo : Operand) : binT Go.Proofs.Tryd.prog .neq 151 xo yo .nilf .nilf = some (.bool false) := by kernel_rfl
attribute [go_sem] ne_151_n
theorem sz_152 : szOf Go.Proofs.Tryd.prog 152 = some 1 := by kernel_rfl
attribute [go_sem] sz_152
theorem ld_152 (h : H) (id off : Nat) : loadT Go.Proofs.Tryd.prog h 152 id off = @thn _ _ (h.blk id) ⟨fun b => b.get off⟩ := by kernel_rfl
attribute [go_sem] ld_152
theorem st_152 (h : H) (id off : Nat) (v : CV) : storeT Go.Proofs.Tryd.prog h 152 id off v = @thn _ _ (h.blk id) ⟨fun b => cond (Nat.beq v.cells.length 1 && !b.ro) ((b.storeA off v.cells).map fun b' => h.put id (.cells b')) none⟩ := by kernel_rfl
attribute [go_sem] st_152
theorem part_152 (cs : List CV) (off : Nat) : partT Go.Proofs.Tryd.prog 152 cs off = nth cs off := by kernel_rfl
attribute [go_sem] part_152
theorem ze_152 : zeroT Go.Proofs.Tryd.prog 152 = some (.nilp) := by kernel_rfl
attribute [go_sem] ze_152
theorem eq_152 (xo yo : Operand) (a b : Nat) : binT Go.Proofs.Tryd.prog .eql 152 xo yo (.ptr a b) .nilp = some (.bool false) := by kernel_rfl
attribute [go_sem] eq_152
theorem eq_152_n (xo yo : Operand) : binT Go.Proofs.Tryd.prog .eql 152 xo yo .nilp .nilp = some (.bool true) := by kernel_rfl
attribute [go_sem] eq_152_n
theorem ne_152 (xo yo : Operand) (a b : Nat) : binT Go.Proofs.Tryd.prog .neq 152 xo yo (.ptr a b) .nilp = some (.bool true) := by kernel_rfl
attribute [go_sem] ne_152
theorem ne_152_n (xo yo : Operand) : binT Go.Proofs.Tryd.prog .neq 152 xo yo .nilp .nilp = some (.bool false) := by kernel_rfl
attribute [go_sem] ne_152_n
theorem sz_153 : szOf Go.Proofs.Tryd.prog 153 = some 1 := by kernel_rfl
attribute [go_sem] sz_153
theorem ld_153 (h : H) (id off : Nat) : loadT Go.Proofs.Tryd.prog h 153 id off = @thn _ _ (h.blk id) ⟨fun b => b.get off⟩ := by kernel_rfl
attribute [go_sem] ld_153
theorem st_153 (h : H) (id off : Nat) (v : CV) : storeT Go.Proofs.Tryd.prog h 153 id off v = @thn _ _ (h.blk id) ⟨fun b => cond (Nat.beq v.cells.length 1 && !b.ro) ((b.storeA off v.cells).map fun b' => h.put id (.cells b')) none⟩ := by kernel_rfl
attribute [go_sem] st_153
theorem part_153 (cs : List CV) (off : Nat) : partT Go.Proofs.Tryd.prog 153 cs off = nth cs off := by kernel_rfl
attribute [go_sem] part_153
theorem ze_153 : zeroT Go.Proofs.Tryd.prog 153 = some (.nilf) := by kernel_rfl
attribute [go_sem] ze_153
theorem eq_153 (xo yo : Operand) (f : Fn) (a b : List CV) : binT Go.Proofs.Tryd.prog .eql 153 xo yo (.fn f a b) .nilf = some (.bool false) := by kernel_rfl
attribute [go_sem] eq_153
theorem eq_153_n (xo yo : Operand) : binT Go.Proofs.Tryd.prog .eql 153 xo yo .nilf .nilf = some (.bool true) := by kernel_rfl
attribute [go_sem] eq_153_n
theorem ne_153 (xo yo : Operand) (f : Fn) (a b : List CV) : binT Go.Proofs.Tryd.prog .neq 153 xo yo (.fn f a b) .nilf = some (.bool true) := by kernel_rfl
attribute [go_sem] ne_153
theorem ne_153_n (xo yo : Operand) : binT Go.Proofs.Tryd.prog .neq 153 xo yo .nilf .nilf = some (.bool false) := by kernel_rfl
attribute [go_sem] ne_153_n
theorem sz_155 : szOf Go.Proofs.Tryd.prog 155 = some 1 := by kernel_rfl
attribute [go_sem] sz_155
theorem ld_155 (h : H) (id off : Nat) : loadT Go.Proofs.Tryd.prog h 155 id off = @thn _ _ (h.blk id) ⟨fun b => b.get off⟩ := by kernel_rfl
attribute [go_sem] ld_155
theorem st_155 (h : H) (id off : Nat) (v : CV) : storeT Go.Proofs.Tryd.prog h 155 id off v = @thn _ _ (h.blk id) ⟨fun b => cond (Nat.beq v.cells.length 1 && !b.ro) ((b.storeA off v.cells).map fun b' => h.put id (.cells b')) none⟩ := by kernel_rfl
attribute [go_sem] st_155
theorem part_155 (cs : List CV) (off : Nat) : partT Go.Proofs.Tryd.prog 155 cs off = nth cs off := by kernel_rfl
attribute [go_sem] part_155
theorem sz_156 : szOf Go.Proofs.Tryd.prog 156 = some 1 := by kernel_rfl
attribute [go_sem] sz_156
theorem ld_156 (h : H) (id off : Nat) : loadT Go.Proofs.Tryd.prog h 156 id off = @thn _ _ (h.blk id) ⟨fun b => b.get off⟩ := by kernel_rfl
attribute [go_sem] ld_156
theorem st_156 (h : H) (id off : Nat) (v : CV) : storeT Go.Proofs.Tryd.prog h 156 id off v = @thn _ _ (h.blk id) ⟨fun b => cond (Nat.beq v.cells.length 1 && !b.ro) ((b.storeA off v.cells).map fun b' => h.put id (.cells b')) none⟩ := by kernel_rfl
attribute [go_sem] st_156
theorem part_156 (cs : List CV) (off : Nat) : partT Go.Proofs.Tryd.prog 156 cs off = nth cs off := by kernel_rfl
attribute [go_sem] part_156
theorem ze_156 : zeroT Go.Proofs.Tryd.prog 156 = some (.nilf) := by kernel_rfl
attribute [go_sem] ze_156
theorem eq_156 (xo yo : Operand) (f : Fn) (a b : List CV) : binT Go.Proofs.Tryd.prog .eql 156 xo yo (.fn f a b) .nilf = some (.bool false) := by kernel_rfl
attribute [go_sem] eq_156
theorem eq_156_n (xo yo : Operand) : binT Go.Proofs.Tryd.prog .eql 156 xo yo .nilf .nilf = some (.bool true) := by kernel_rfl
attribute [go_sem] eq_156_n
theorem ne_156 (xo yo : Operand) (f : Fn) (a b : List CV) : binT Go.Proofs.Tryd.prog .neq 156 xo yo (.fn f a b) .nilf = some (.bool true) := by kernel_rfl
attribute [go_sem] ne_156
theorem ne_156_n (xo yo : Operand) : binT Go.Proofs.Tryd.prog .neq 156 xo yo .nilf .nilf = some (.bool false) := by kernel_rfl
attribute [go_sem] ne_156_n
theorem sz_157 : szOf Go.Proofs.Tryd.prog 157 = some 1 := by kernel_rfl
attribute [go_sem] sz_157
theorem ld_157 (h : H) (id off : Nat) : loadT Go.Proofs.Tryd.prog h 157 id off = @thn _ _ (h.blk id) ⟨fun b => b.get off⟩ := by kernel_rfl
attribute [go_sem] ld_157
theorem st_157 (h : H) (id off : Nat) (v : CV) : storeT Go.Proofs.Tryd.prog h 157 id off v = @thn _ _ (h.blk id) ⟨fun b => cond (Nat.beq v.cells.length 1 && !b.ro) ((b.storeA off v.cells).map fun b' => h.put id (.cells b')) none⟩ := by kernel_rfl
attribute [go_sem] st_157
theorem part_157 (cs : List CV) (off : Nat) : partT Go.Proofs.Tryd.prog 157 cs off = nth cs off := by kernel_rfl
attribute [go_sem] part_157
theorem ze_157 : zeroT Go.Proofs.Tryd.prog 157 = some (.nilf) := by kernel_rfl
attribute [go_sem] ze_157
theorem eq_157 (xo yo : Operand) (f : Fn) (a b : List CV) : binT Go.Proofs.Tryd.prog .eql 157 xo yo (.fn f a b) .nilf = some (.bool false) := by kernel_rfl
attribute [go_sem] eq_157
theorem eq_157_n (xo yo : Operand) : binT Go.Proofs.Tryd.prog .eql 157 xo yo .nilf .nilf = some (.bool true) := by kernel_rfl
attribute [go_sem] eq_157_n
theorem ne_157 (xo yo : Operand) (f : Fn) (a b : List CV) : binT Go.Proofs.Tryd.prog .neq 157 xo yo (.fn f a b) .nilf = some (.bool true) := by kernel_rfl
attribute [go_sem] ne_157
theorem ne_157_n (xo yo : Operand) : binT Go.Proofs.Tryd.prog .neq 157 xo yo .nilf .nilf = some (.bool false) := by kernel_rfl
attribute [go_sem] ne_157_n
theorem sz_166 : szOf Go.Proofs.Tryd.prog 166 = some 1 := by kernel_rfl
attribute [go_sem] sz_166
theorem ld_166 (h : H) (id off : Nat) : loadT Go.Proofs.Tryd.prog h 166 id off = @thn _ _ (h.blk id) ⟨fun b => b.get off⟩ := by kernel_rfl
attribute [go_sem] ld_166
theorem st_166 (h : H) (id off : Nat) (v : CV) : storeT Go.Proofs.Tryd.prog h 166 id off v = @thn _ _ (h.blk id) ⟨fun b => cond (Nat.beq v.cells.length 1 && !b.ro) ((b.storeA off v.cells).map fun b' => h.put id (.cells b')) none⟩ := by kernel_rfl
attribute [go_sem] st_166
theorem part_166 (cs : List CV) (off : Nat) : partT Go.Proofs.Tryd.prog 166 cs off = nth cs off := by kernel_rfl
attribute [go_sem] part_166
theorem ze_166 : zeroT Go.Proofs.Tryd.prog 166 = some (.nilp) := by kernel_rfl
attribute [go_sem] ze_166
theorem eq_166 (xo yo : Operand) (a b : Nat) : binT Go.Proofs.Tryd.prog .eql 166 xo yo (.ptr a b) .nilp = some (.bool false) := by kernel_rfl
attribute [go_sem] eq_166
theorem eq_166_n (xo yo : Operand) : binT Go.Proofs.Tryd.prog .eql 166 xo yo .nilp .nilp = some (.bool true) := by kernel_rfl
attribute [go_sem] eq_166_n
theorem ne_166 (xo yo : Operand) (a b : Nat) : binT Go.Proofs.Tryd.prog .neq 166 xo yo (.ptr a b) .nilp = some (.bool true) := by kernel_rfl
attribute [go_sem] ne_166
theorem ne_166_n (xo yo : Operand) : binT Go.Proofs.Tryd.prog .neq 166 xo yo .nilp .nilp = some (.bool false) := by kernel_rfl
attribute [go_sem] ne_166_n
theorem sz_171 : szOf Go.Proofs.Tryd.prog 171 = some 1 := by kernel_rfl
attribute [go_sem] sz_171
theorem ld_171 (h : H) (id off : Nat) : loadT Go.Proofs.Tryd.prog h 171 id off = @thn _ _ (h.blk id) ⟨fun b => b.get off⟩ := by kernel_rfl
attribute [go_sem] ld_171
theorem st_171 (h : H) (id off : Nat) (v : CV) : storeT Go.Proofs.Tryd.prog h 171 id off v = @thn _ _ (h.blk id) ⟨fun b => cond (Nat.beq v.cells.length 1 && !b.ro) ((b.storeA off v.cells).map fun b' => h.put id (.cells b')) none⟩ := by kernel_rfl
attribute [go_sem] st_171
theorem part_171 (cs : List CV) (off : Nat) : partT Go.Proofs.Tryd.prog 171 cs off = nth cs off := by kernel_rfl
attribute [go_sem] part_171
theorem ze_171 : zeroT Go.Proofs.Tryd.prog 171 = some (.nilf) := by kernel_rfl
attribute [go_sem] ze_171
theorem eq_171 (xo yo : Operand) (f : Fn) (a b : List CV) : binT Go.Proofs.Tryd.prog .eql 171 xo yo (.fn f a b) .nilf = some (.bool false) := by kernel_rfl
attribute [go_sem] eq_171
theorem eq_171_n (xo yo : Operand) : binT Go.Proofs.Tryd.prog .eql 171 xo yo .nilf .nilf = some (.bool true) := by kernel_rfl
attribute [go_sem] eq_171_n
theorem ne_171 (xo yo : Operand) (f : Fn) (a b : List CV) : binT Go.Proofs.Tryd.prog .neq 171 xo yo (.fn f a b) .nilf = some (.bool true) := by kernel_rfl
attribute [go_sem] ne_171
theorem ne_171_n (xo yo : Operand) : binT Go.Proofs.Tryd.prog .neq 171 xo yo .nilf .nilf = some (.bool false) := by kernel_rfl
attribute [go_sem] ne_171_n
theorem cv_5_3 (h : H) (k : IntKind) (x : Int) : convT Go.Proofs.Tryd.prog h 5 3 (.int k x) = some (.val (.int .i64 (IntKind.wrap .i64 x))) := by kernel_rfl
attribute [go_sem] cv_5_3
theorem cv_5_23 (h : H) (k : IntKind) (x : Int) : convT Go.Proofs.Tryd.prog h 5 23 (.int k x) = some (.val (.int .u64 (IntKind.wrap .u64 x))) := by kernel_rfl
attribute [go_sem] cv_5_23
theorem cv_22_23 (h : H) (k : IntKind) (x : Int) : convT Go.Proofs.Tryd.prog h 22 23 (.int k x) = some (.val (.int .u64 (IntKind.wrap .u64 x))) := by kernel_rfl
attribute [go_sem] cv_22_23
theorem cv_23_22 (h : H) (k : IntKind) (x : Int) : convT Go.Proofs.Tryd.prog h 23 22 (.int k x) = some (.val (.int .i64 (IntKind.wrap .i64 x))) := by kernel_rfl
attribute [go_sem] cv_23_22
theorem cv_24_9 (h : H) (id off len : Nat) (c : Cap) : convT Go.Proofs.Tryd.prog h 24 9 (.sl id off len c) = @thn _ _ (h.blk id) ⟨fun b => (b.loadN off len).bind fun cs => (bytesOf cs).map fun l => .val (.str l)⟩ := by kernel_rfl
attribute [go_sem] cv_24_9
theorem cv_24_9_n (h : H) : convT Go.Proofs.Tryd.prog h 24 9 .nils = some (.val (.str [])) := by kernel_rfl
attribute [go_sem] cv_24_9_n
theorem cv_24_9_z (h : H) (x y z w : Nat) : convT Go.Proofs.Tryd.prog h 24 9 (.sl0 x y z w) = some (.val (.str [])) := by kernel_rfl
attribute [go_sem] cv_24_9_z
theorem cv_3_92 (h : H) (k : IntKind) (x : Int) : convT Go.Proofs.Tryd.prog h 3 92 (.int k x) = some (.val (.int .u64 (IntKind.wrap .u64 x))) := by kernel_rfl
attribute [go_sem] cv_3_92
theorem cv_23_5 (h : H) (k : IntKind) (x : Int) : convT Go.Proofs.Tryd.prog h 23 5 (.int k x) = some (.val (.int .u8 (IntKind.wrap .u8 x))) := by kernel_rfl
attribute [go_sem] cv_23_5
theorem cv_3_23 (h : H) (k : IntKind) (x : Int) : convT Go.Proofs.Tryd.prog h 3 23 (.int k x) = some (.val (.int .u64 (IntKind.wrap .u64 x))) := by kernel_rfl
attribute [go_sem] cv_3_23
theorem cv_23_3 (h : H) (k : IntKind) (x : Int) : convT Go.Proofs.Tryd.prog h 23 3 (.int k x) = some (.val (.int .i64 (IntKind.wrap .i64 x))) := by kernel_rfl
attribute [go_sem] cv_23_3
theorem cv_22_5 (h : H) (k : IntKind) (x : Int) : convT Go.Proofs.Tryd.prog h 22 5 (.int k x) = some (.val (.int .u8 (IntKind.wrap .u8 x))) := by kernel_rfl
attribute [go_sem] cv_22_5
theorem cv_5_103 (h : H) (k : IntKind) (x : Int) : convT Go.Proofs.Tryd.prog h 5 103 (.int k x) = some (.val (.int .u32 (IntKind.wrap .u32 x))) := by kernel_rfl
attribute [go_sem] cv_5_103
theorem cv_23_103 (h : H) (k : IntKind) (x : Int) : convT Go.Proofs.Tryd.prog h 23 103 (.int k x) = some (.val (.int .u32 (IntKind.wrap .u32 x))) := by kernel_rfl
attribute [go_sem] cv_23_103
theorem cv_103_5 (h : H) (k : IntKind) (x : Int) : convT Go.Proofs.Tryd.prog h 103 5 (.int k x) = some (.val (.int .u8 (IntKind.wrap .u8 x))) := by kernel_rfl
attribute [go_sem] cv_103_5
theorem cv_92_103 (h : H) (k : IntKind) (x : Int) : convT Go.Proofs.Tryd.prog h 92 103 (.int k x) = some (.val (.int .u32 (IntKind.wrap .u32 x))) := by kernel_rfl
attribute [go_sem] cv_92_103
theorem cv_92_3 (h : H) (k : IntKind) (x : Int) : convT Go.Proofs.Tryd.prog h 92 3 (.int k x) = some (.val (.int .i64 (IntKind.wrap .i64 x))) := by kernel_rfl
attribute [go_sem] cv_92_3
theorem eq_20 (xo yo : Operand) (u : TypeId) (v : CV) : binT Go.Proofs.Tryd.prog .eql 20 xo yo (.ifc u v) .nili = some (.bool false) := by kernel_rfl
attribute [go_sem] eq_20
theorem eq_20_n (n : Nat) (v : Value) : binT Go.Proofs.Tryd.prog .eql 20 (.tmp n) (.const v) .nili .nili = some (.bool true) := by kernel_rfl
attribute [go_sem] eq_20_n
theorem ne_20 (xo yo : Operand) (u : TypeId) (v : CV) : binT Go.Proofs.Tryd.prog .neq 20 xo yo (.ifc u v) .nili = some (.bool true) := by kernel_rfl
attribute [go_sem] ne_20
theorem ne_20_n (n : Nat) (v : Value) : binT Go.Proofs.Tryd.prog .neq 20 (.tmp n) (.const v) .nili .nili = some (.bool false) := by kernel_rfl
attribute [go_sem] ne_20_n
theorem fn_4 : nth Go.Proofs.Tryd.prog.funcs.toList 4 = some Go.Proofs.Tryd.f4 := by kernel_rfl
attribute [go_sem] fn_4
theorem tx_4 : isTextO Go.Proofs.Tryd.prog 4 = some () := by kernel_rfl
attribute [go_sem] tx_4
theorem fn_7 : nth Go.Proofs.Tryd.prog.funcs.toList 7 = some Go.Proofs.Tryd.f7 := by kernel_rfl
attribute [go_sem] fn_7
theorem tx_7 : isTextO Go.Proofs.Tryd.prog 7 = some () := by kernel_rfl
attribute [go_sem] tx_7
theorem fn_8 : nth Go.Proofs.Tryd.prog.funcs.toList 8 = some Go.Proofs.Tryd.f8 := by kernel_rfl
attribute [go_sem] fn_8
theorem tx_8 : isTextO Go.Proofs.Tryd.prog 8 = some () := by kernel_rfl
attribute [go_sem] tx_8
theorem fn_9 : nth Go.Proofs.Tryd.prog.funcs.toList 9 = some Go.Proofs.Tryd.f9 := by kernel_rfl
attribute [go_sem] fn_9
theorem tx_9 : isTextO Go.Proofs.Tryd.prog 9 = some () := by kernel_rfl
attribute [go_sem] tx_9
theorem fn_10 : nth Go.Proofs.Tryd.prog.funcs.toList 10 = some Go.Proofs.Tryd.f10 := by kernel_rfl
attribute [go_sem] fn_10
theorem tx_10 : isTextO Go.Proofs.Tryd.prog 10 = some () := by kernel_rfl
attribute [go_sem] tx_10
theorem fn_11 : nth Go.Proofs.Tryd.prog.funcs.toList 11 = some Go.Proofs.Tryd.f11 := by kernel_rfl
attribute [go_sem] fn_11
theorem tx_11 : isTextO Go.Proofs.Tryd.prog 11 = some () := by kernel_rfl
attribute [go_sem] tx_11
theorem fn_12 : nth Go.Proofs.Tryd.prog.funcs.toList 12 = some Go.Proofs.Tryd.f12 := by kernel_rfl
attribute [go_sem] fn_12
theorem tx_12 : isTextO Go.Proofs.Tryd.prog 12 = some () := by kernel_rfl
attribute [go_sem] tx_12
theorem fn_33 : nth Go.Proofs.Tryd.prog.funcs.toList 33 = some Go.Proofs.Tryd.f33 := by kernel_rfl
attribute [go_sem] fn_33
theorem tx_33 : isTextO Go.Proofs.Tryd.prog 33 = some () := by kernel_rfl
attribute [go_sem] tx_33
theorem fn_34 : nth Go.Proofs.Tryd.prog.funcs.toList 34 = some Go.Proofs.Tryd.f34 := by kernel_rfl
attribute [go_sem] fn_34
theorem tx_34 : isTextO Go.Proofs.Tryd.prog 34 = some () := by kernel_rfl
attribute [go_sem] tx_34
theorem fn_35 : nth Go.Proofs.Tryd.prog.funcs.toList 35 = some Go.Proofs.Tryd.f35 := by kernel_rfl
attribute [go_sem] fn_35
theorem tx_35 : isTextO Go.Proofs.Tryd.prog 35 = some () := by kernel_rfl
attribute [go_sem] tx_35
theorem fn_36 : nth Go.Proofs.Tryd.prog.funcs.toList 36 = some Go.Proofs.Tryd.f36 := by kernel_rfl
attribute [go_sem] fn_36
theorem tx_36 : isTextO Go.Proofs.Tryd.prog 36 = some () := by kernel_rfl
attribute [go_sem] tx_36
theorem fn_37 : nth Go.Proofs.Tryd.prog.funcs.toList 37 = some Go.Proofs.Tryd.f37 := by kernel_rfl
attribute [go_sem] fn_37
theorem tx_37 : isTextO Go.Proofs.Tryd.prog 37 = some () := by kernel_rfl
attribute [go_sem] tx_37
theorem fn_38 : nth Go.Proofs.Tryd.prog.funcs.toList 38 = some Go.Proofs.Tryd.f38 := by kernel_rfl
attribute [go_sem] fn_38
theorem tx_38 : isTextO Go.Proofs.Tryd.prog 38 = some () := by kernel_rfl
attribute [go_sem] tx_38
theorem fn_39 : nth Go.Proofs.Tryd.prog.funcs.toList 39 = some Go.Proofs.Tryd.f39 := by kernel_rfl
attribute [go_sem] fn_39
theorem tx_39 : isTextO Go.Proofs.Tryd.prog 39 = some () := by kernel_rfl
attribute [go_sem] tx_39
theorem fn_40 : nth Go.Proofs.Tryd.prog.funcs.toList 40 = some Go.Proofs.Tryd.f40 := by kernel_rfl
attribute [go_sem] fn_40
theorem tx_40 : isTextO Go.Proofs.Tryd.prog 40 = some () := by kernel_rfl
attribute [go_sem] tx_40
theorem fn_41 : nth Go.Proofs.Tryd.prog.funcs.toList 41 = some Go.Proofs.Tryd.f41 := by kernel_rfl
attribute [go_sem] fn_41
theorem tx_41 : isTextO Go.Proofs.Tryd.prog 41 = some () := by kernel_rfl
attribute [go_sem] tx_41
theorem fn_42 : nth Go.Proofs.Tryd.prog.funcs.toList 42 = some Go.Proofs.Tryd.f42 := by kernel_rfl
attribute [go_sem] fn_42
theorem tx_42 : isTextO Go.Proofs.Tryd.prog 42 = some () := by kernel_rfl
attribute [go_sem] tx_42
theorem fn_43 : nth Go.Proofs.Tryd.prog.funcs.toList 43 = some Go.Proofs.Tryd.f43 := by kernel_rfl
attribute [go_sem] fn_43
theorem tx_43 : isTextO Go.Proofs.Tryd.prog 43 = some () := by kernel_rfl
attribute [go_sem] tx_43
theorem fn_44 : nth Go.Proofs.Tryd.prog.funcs.toList 44 = some Go.Proofs.Tryd.f44 := by kernel_rfl
attribute [go_sem] fn_44
theorem tx_44 : isTextO Go.Proofs.Tryd.prog 44 = some () := by kernel_rfl
attribute [go_sem] tx_44
theorem fn_45 : nth Go.Proofs.Tryd.prog.funcs.toList 45 = some Go.Proofs.Tryd.f45 := by kernel_rfl
attribute [go_sem] fn_45
theorem tx_45 : isTextO Go.Proofs.Tryd.prog 45 = some () := by kernel_rfl
attribute [go_sem] tx_45
theorem fn_46 : nth Go.Proofs.Tryd.prog.funcs.toList 46 = some Go.Proofs.Tryd.f46 := by kernel_rfl
attribute [go_sem] fn_46
theorem tx_46 : isTextO Go.Proofs.Tryd.prog 46 = some () := by kernel_rfl
attribute [go_sem] tx_46
theorem fn_47 : nth Go.Proofs.Tryd.prog.funcs.toList 47 = some Go.Proofs.Tryd.f47 := by kernel_rfl
attribute [go_sem] fn_47
theorem tx_47 : isTextO Go.Proofs.Tryd.prog 47 = some () := by kernel_rfl
attribute [go_sem] tx_47
theorem fn_48 : nth Go.Proofs.Tryd.prog.funcs.toList 48 = some Go.Proofs.Tryd.f48 := by kernel_rfl
attribute [go_sem] fn_48
theorem tx_48 : isTextO Go.Proofs.Tryd.prog 48 = some () := by kernel_rfl
attribute [go_sem] tx_48
theorem fn_49 : nth Go.Proofs.Tryd.prog.funcs.toList 49 = some Go.Proofs.Tryd.f49 := by kernel_rfl
attribute [go_sem] fn_49
theorem tx_49 : isTextO Go.Proofs.Tryd.prog 49 = some () := by kernel_rfl
attribute [go_sem] tx_49
theorem fn_50 : nth Go.Proofs.Tryd.prog.funcs.toList 50 = some Go.Proofs.Tryd.f50 := by kernel_rfl
attribute [go_sem] fn_50
theorem tx_50 : isTextO Go.Proofs.Tryd.prog 50 = some () := by kernel_rfl
attribute [go_sem] tx_50
theorem fn_65 : nth Go.Proofs.Tryd.prog.funcs.toList 65 = some Go.Proofs.Tryd.f65 := by kernel_rfl
attribute [go_sem] fn_65
theorem tx_65 : isTextO Go.Proofs.Tryd.prog 65 = some () := by kernel_rfl
attribute [go_sem] tx_65
theorem fn_66 : nth Go.Proofs.Tryd.prog.funcs.toList 66 = some Go.Proofs.Tryd.f66 := by kernel_rfl
attribute [go_sem] fn_66
theorem tx_66 : isTextO Go.Proofs.Tryd.prog 66 = some () := by kernel_rfl
attribute [go_sem] tx_66
theorem fn_67 : nth Go.Proofs.Tryd.prog.funcs.toList 67 = some Go.Proofs.Tryd.f67 := by kernel_rfl
attribute [go_sem] fn_67
theorem tx_67 : isTextO Go.Proofs.Tryd.prog 67 = some () := by kernel_rfl
attribute [go_sem] tx_67
theorem fn_68 : nth Go.Proofs.Tryd.prog.funcs.toList 68 = some Go.Proofs.Tryd.f68 := by kernel_rfl
attribute [go_sem] fn_68
theorem tx_68 : isTextO Go.Proofs.Tryd.prog 68 = some () := by kernel_rfl
attribute [go_sem] tx_68
theorem fn_69 : nth Go.Proofs.Tryd.prog.funcs.toList 69 = some Go.Proofs.Tryd.f69 := by kernel_rfl
attribute [go_sem] fn_69
theorem tx_69 : isTextO Go.Proofs.Tryd.prog 69 = some () := by kernel_rfl
attribute [go_sem] tx_69
theorem fn_70 : nth Go.Proofs.Tryd.prog.funcs.toList 70 = some Go.Proofs.Tryd.f70 := by kernel_rfl
attribute [go_sem] fn_70
theorem tx_70 : isTextO Go.Proofs.Tryd.prog 70 = some () := by kernel_rfl
attribute [go_sem] tx_70
theorem fn_71 : nth Go.Proofs.Tryd.prog.funcs.toList 71 = some Go.Proofs.Tryd.f71 := by kernel_rfl
attribute [go_sem] fn_71
theorem tx_71 : isTextO Go.Proofs.Tryd.prog 71 = some () := by kernel_rfl
attribute [go_sem] tx_71
theorem fn_72 : nth Go.Proofs.Tryd.prog.funcs.toList 72 = some Go.Proofs.Tryd.f72 := by kernel_rfl
attribute [go_sem] fn_72
theorem tx_72 : isTextO Go.Proofs.Tryd.prog 72 = some () := by kernel_rfl
attribute [go_sem] tx_72
theorem fn_73 : nth Go.Proofs.Tryd.prog.funcs.toList 73 = some Go.Proofs.Tryd.f73 := by kernel_rfl
attribute [go_sem] fn_73
theorem tx_73 : isTextO Go.Proofs.Tryd.prog 73 = some () := by kernel_rfl
attribute [go_sem] tx_73
theorem fn_74 : nth Go.Proofs.Tryd.prog.funcs.toList 74 = some Go.Proofs.Tryd.f74 := by kernel_rfl
attribute [go_sem] fn_74
theorem tx_74 : isTextO Go.Proofs.Tryd.prog 74 = some () := by kernel_rfl
attribute [go_sem] tx_74
theorem fn_75 : nth Go.Proofs.Tryd.prog.funcs.toList 75 = some Go.Proofs.Tryd.f75 := by kernel_rfl
attribute [go_sem] fn_75
theorem tx_75 : isTextO Go.Proofs.Tryd.prog 75 = some () := by kernel_rfl
attribute [go_sem] tx_75
theorem fn_76 : nth Go.Proofs.Tryd.prog.funcs.toList 76 = some Go.Proofs.Tryd.f76 := by kernel_rfl
attribute [go_sem] fn_76
theorem tx_76 : isTextO Go.Proofs.Tryd.prog 76 = some () := by kernel_rfl
attribute [go_sem] tx_76
theorem fn_83 : nth Go.Proofs.Tryd.prog.funcs.toList 83 = some Go.Proofs.Tryd.f83 := by kernel_rfl
attribute [go_sem] fn_83
theorem tx_83 : isTextO Go.Proofs.Tryd.prog 83 = some () := by kernel_rfl
attribute [go_sem] tx_83
theorem fn_84 : nth Go.Proofs.Tryd.prog.funcs.toList 84 = some Go.Proofs.Tryd.f84 := by kernel_rfl
attribute [go_sem] fn_84
theorem tx_84 : isTextO Go.Proofs.Tryd.prog 84 = some () := by kernel_rfl
attribute [go_sem] tx_84
theorem fn_85 : nth Go.Proofs.Tryd.prog.funcs.toList 85 = some Go.Proofs.Tryd.f85 := by kernel_rfl
attribute [go_sem] fn_85
theorem tx_85 : isTextO Go.Proofs.Tryd.prog 85 = some () := by kernel_rfl
attribute [go_sem] tx_85
theorem fn_86 : nth Go.Proofs.Tryd.prog.funcs.toList 86 = some Go.Proofs.Tryd.f86 := by kernel_rfl
attribute [go_sem] fn_86
theorem tx_86 : isTextO Go.Proofs.Tryd.prog 86 = some () := by kernel_rfl
attribute [go_sem] tx_86
theorem fn_87 : nth Go.Proofs.Tryd.prog.funcs.toList 87 = some Go.Proofs.Tryd.f87 := by kernel_rfl
attribute [go_sem] fn_87
theorem tx_87 : isTextO Go.Proofs.Tryd.prog 87 = some () := by kernel_rfl
attribute [go_sem] tx_87
theorem fn_88 : nth Go.Proofs.Tryd.prog.funcs.toList 88 = some Go.Proofs.Tryd.f88 := by kernel_rfl
attribute [go_sem] fn_88
theorem tx_88 : isTextO Go.Proofs.Tryd.prog 88 = some () := by kernel_rfl
attribute [go_sem] tx_88
theorem fn_91 : nth Go.Proofs.Tryd.prog.funcs.toList 91 = some Go.Proofs.Tryd.f91 := by kernel_rfl
attribute [go_sem] fn_91
theorem tx_91 : isTextO Go.Proofs.Tryd.prog 91 = some () := by kernel_rfl
attribute [go_sem] tx_91
theorem fn_92 : nth Go.Proofs.Tryd.prog.funcs.toList 92 = some Go.Proofs.Tryd.f92 := by kernel_rfl
attribute [go_sem] fn_92
theorem tx_92 : isTextO Go.Proofs.Tryd.prog 92 = some () := by kernel_rfl
attribute [go_sem] tx_92
theorem fn_93 : nth Go.Proofs.Tryd.prog.funcs.toList 93 = some Go.Proofs.Tryd.f93 := by kernel_rfl
attribute [go_sem] fn_93
theorem tx_93 : isTextO Go.Proofs.Tryd.prog 93 = some () := by kernel_rfl
attribute [go_sem] tx_93
theorem fn_94 : nth Go.Proofs.Tryd.prog.funcs.toList 94 = some Go.Proofs.Tryd.f94 := by kernel_rfl
attribute [go_sem] fn_94
theorem tx_94 : isTextO Go.Proofs.Tryd.prog 94 = some () := by kernel_rfl
attribute [go_sem] tx_94
end Go.Cl.Sh
