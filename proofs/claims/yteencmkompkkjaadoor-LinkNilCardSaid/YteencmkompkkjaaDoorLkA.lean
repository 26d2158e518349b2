/- The program's functions, run by the rewriting evaluator: what each answers and leaves (LkA). -/
import Derived.Test.YteencmkompkkjaaDoorShaN
set_option linter.all false
open Go Go.Cl Go.Proofs
namespace Go.Cl.Sh
noncomputable section
set_option maxRecDepth 1000000
def tp0 : Nat × PO := (0, .cells true (startV.map fun x => .int .u32 x))
theorem lk_plain : plainB Tryd.prog = true := by kernel_rfl
theorem lk_mixed : Tryd.prog.follows .mixedOrders = true := by kernel_rfl
def lk_1_0 : FE := ⟨52, [.agg ([.int .i64 1, .int .u64 5, .int .u64 0, .int .u64 0, .int .u64 0, .nils])], 7, 1, [tp0], .tup ([.sl 47 0 23 (.opn 1), .int .i64 0]), false, 48, 7, [(47, some (.cells false (by8 [71,80,1,0,0,0,0,0,0,0,5,0,0,0,0,0,0,0,0,65,116,49,153])))]⟩
theorem lk_1_0_ok : okFE Tryd.prog (shaS) 100000 lk_1_0 = true := by kernel_rfl
def lk_1_1 : FE := ⟨27, [.agg ([.int .i64 1, .int .u64 6, .int .u64 5, .int .u64 0, .int .u64 0, .nils])], 50, 1, [], .sl 58 0 23 (.opn 1), false, 59, 50, [(58, some (.cells false (by8 [71,80,1,0,0,0,0,0,0,0,6,0,0,0,0,0,0,0,5,214,236,204,84])))]⟩
theorem lk_1_1_ok : okFE Tryd.prog (shaS) 100000 lk_1_1 = true := by kernel_rfl
def lk_1_2 : FE := ⟨32, [.sl 58 0 23 (.opn 1)], 59, 1, [tp0, (58, .cells false (by8 [71,80,1,0,0,0,0,0,0,0,6,0,0,0,0,0,0,0,5,214,236,204,84]))], .tup ([.agg ([.int .i64 1, .int .u64 6, .int .u64 5, .int .u64 0, .int .u64 0, .nils]), .int .i64 0]), true, 59, 59, []⟩
theorem lk_1_2_ok : okFE Tryd.prog (shaS) 100000 lk_1_2 = true := by kernel_rfl
def lk_1_3 : FE := ⟨52, [.agg ([.int .i64 1, .int .u64 5, .int .u64 6, .int .u64 0, .int .u64 0, .nils])], 63, 1, [tp0], .tup ([.sl 103 0 23 (.opn 1), .int .i64 0]), false, 104, 63, [(103, some (.cells false (by8 [71,80,1,0,0,0,0,0,0,0,5,0,0,0,0,0,0,0,6,197,109,71,130])))]⟩
theorem lk_1_3_ok : okFE Tryd.prog (shaS) 100000 lk_1_3 = true := by kernel_rfl
def lk_1_4 : FE := ⟨52, [.agg ([.int .i64 2, .int .u64 5, .int .u64 6, .int .u64 0, .int .u64 1, .sl 108 0 1 (.opn 1)])], 114, 1, [tp0, (108, .cells false ([.int .u8 0]))], .tup ([.sl 191 0 42 (.opn 1), .int .i64 0]), false, 192, 114, [(191, some (.cells false (by8 [71,80,2,0,0,0,0,0,0,0,5,0,0,0,0,0,0,0,6,0,0,0,0,0,0,0,0,0,0,0,0,0,0,0,1,0,1,0,60,76,87,30])))]⟩
theorem lk_1_4_ok : okFE Tryd.prog (shaS) 100000 lk_1_4 = true := by kernel_rfl
def lk_1_5 : FE := ⟨52, [.agg ([.int .i64 2, .int .u64 5, .int .u64 6, .int .u64 0, .int .u64 2, .sl 196 0 1 (.opn 1)])], 202, 1, [tp0, (196, .cells false ([.int .u8 1]))], .tup ([.sl 279 0 42 (.opn 1), .int .i64 0]), false, 280, 202, [(279, some (.cells false (by8 [71,80,2,0,0,0,0,0,0,0,5,0,0,0,0,0,0,0,6,0,0,0,0,0,0,0,0,0,0,0,0,0,0,0,2,0,1,1,252,37,25,3])))]⟩
theorem lk_1_5_ok : okFE Tryd.prog (shaS) 100000 lk_1_5 = true := by kernel_rfl
def lk_1_6 : FE := ⟨52, [.agg ([.int .i64 2, .int .u64 5, .int .u64 6, .int .u64 0, .int .u64 3, .sl 284 0 1 (.opn 1)])], 290, 1, [tp0, (284, .cells false ([.int .u8 2]))], .tup ([.sl 367 0 42 (.opn 1), .int .i64 0]), false, 368, 290, [(367, some (.cells false (by8 [71,80,2,0,0,0,0,0,0,0,5,0,0,0,0,0,0,0,6,0,0,0,0,0,0,0,0,0,0,0,0,0,0,0,3,0,1,2,204,222,9,240])))]⟩
theorem lk_1_6_ok : okFE Tryd.prog (shaS) 100000 lk_1_6 = true := by kernel_rfl
def lk_1_7 : FE := ⟨52, [.agg ([.int .i64 2, .int .u64 5, .int .u64 6, .int .u64 0, .int .u64 4, .sl 372 0 1 (.opn 1)])], 378, 1, [tp0, (372, .cells false ([.int .u8 3]))], .tup ([.sl 455 0 42 (.opn 1), .int .i64 0]), false, 456, 378, [(455, some (.cells false (by8 [71,80,2,0,0,0,0,0,0,0,5,0,0,0,0,0,0,0,6,0,0,0,0,0,0,0,0,0,0,0,0,0,0,0,4,0,1,3,154,17,135,232])))]⟩
theorem lk_1_7_ok : okFE Tryd.prog (shaS) 100000 lk_1_7 = true := by kernel_rfl
def lk_1_8 : FE := ⟨52, [.agg ([.int .i64 2, .int .u64 5, .int .u64 6, .int .u64 0, .int .u64 5, .sl 460 0 1 (.opn 1)])], 466, 1, [tp0, (460, .cells false ([.int .u8 4]))], .tup ([.sl 543 0 42 (.opn 1), .int .i64 0]), false, 544, 466, [(543, some (.cells false (by8 [71,80,2,0,0,0,0,0,0,0,5,0,0,0,0,0,0,0,6,0,0,0,0,0,0,0,0,0,0,0,0,0,0,0,5,0,1,4,14,125,203,138])))]⟩
theorem lk_1_8_ok : okFE Tryd.prog (shaS) 100000 lk_1_8 = true := by kernel_rfl
def lk_1_9 : FE := ⟨52, [.agg ([.int .i64 2, .int .u64 5, .int .u64 6, .int .u64 0, .int .u64 6, .sl 548 0 1 (.opn 1)])], 554, 1, [tp0, (548, .cells false ([.int .u8 5]))], .tup ([.sl 631 0 42 (.opn 1), .int .i64 0]), false, 632, 554, [(631, some (.cells false (by8 [71,80,2,0,0,0,0,0,0,0,5,0,0,0,0,0,0,0,6,0,0,0,0,0,0,0,0,0,0,0,0,0,0,0,6,0,1,5,84,78,75,145])))]⟩
theorem lk_1_9_ok : okFE Tryd.prog (shaS) 100000 lk_1_9 = true := by kernel_rfl
def lk_1_10 : FE := ⟨52, [.agg ([.int .i64 2, .int .u64 5, .int .u64 6, .int .u64 0, .int .u64 7, .sl 636 0 1 (.opn 1)])], 642, 1, [tp0, (636, .cells false ([.int .u8 6]))], .tup ([.sl 719 0 42 (.opn 1), .int .i64 0]), false, 720, 642, [(719, some (.cells false (by8 [71,80,2,0,0,0,0,0,0,0,5,0,0,0,0,0,0,0,6,0,0,0,0,0,0,0,0,0,0,0,0,0,0,0,7,0,1,6,122,230,157,1])))]⟩
theorem lk_1_10_ok : okFE Tryd.prog (shaS) 100000 lk_1_10 = true := by kernel_rfl
def lk_1_11 : FE := ⟨52, [.agg ([.int .i64 2, .int .u64 5, .int .u64 6, .int .u64 0, .int .u64 8, .sl 724 0 1 (.opn 1)])], 730, 1, [tp0, (724, .cells false ([.int .u8 7]))], .tup ([.sl 807 0 42 (.opn 1), .int .i64 0]), false, 808, 730, [(807, some (.cells false (by8 [71,80,2,0,0,0,0,0,0,0,5,0,0,0,0,0,0,0,6,0,0,0,0,0,0,0,0,0,0,0,0,0,0,0,8,0,1,7,136,17,135,107])))]⟩
theorem lk_1_11_ok : okFE Tryd.prog (shaS) 100000 lk_1_11 = true := by kernel_rfl
def lk_1_12 : FE := ⟨52, [.agg ([.int .i64 2, .int .u64 5, .int .u64 6, .int .u64 0, .int .u64 9, .sl 812 0 1 (.opn 1)])], 818, 1, [tp0, (812, .cells false ([.int .u8 8]))], .tup ([.sl 895 0 42 (.opn 1), .int .i64 0]), false, 896, 818, [(895, some (.cells false (by8 [71,80,2,0,0,0,0,0,0,0,5,0,0,0,0,0,0,0,6,0,0,0,0,0,0,0,0,0,0,0,0,0,0,0,9,0,1,8,32,213,161,117])))]⟩
theorem lk_1_12_ok : okFE Tryd.prog (shaS) 100000 lk_1_12 = true := by kernel_rfl
def lk_1_13 : FE := ⟨52, [.agg ([.int .i64 2, .int .u64 5, .int .u64 6, .int .u64 0, .int .u64 10, .sl 900 0 1 (.opn 1)])], 906, 1, [tp0, (900, .cells false ([.int .u8 9]))], .tup ([.sl 983 0 42 (.opn 1), .int .i64 0]), false, 984, 906, [(983, some (.cells false (by8 [71,80,2,0,0,0,0,0,0,0,5,0,0,0,0,0,0,0,6,0,0,0,0,0,0,0,0,0,0,0,0,0,0,0,10,0,1,9,204,100,233,2])))]⟩
theorem lk_1_13_ok : okFE Tryd.prog (shaS) 100000 lk_1_13 = true := by kernel_rfl
def lk_1_14 : FE := ⟨52, [.agg ([.int .i64 2, .int .u64 5, .int .u64 6, .int .u64 0, .int .u64 11, .sl 988 0 1 (.opn 1)])], 994, 1, [tp0, (988, .cells false ([.int .u8 10]))], .tup ([.sl 1071 0 42 (.opn 1), .int .i64 0]), false, 1072, 994, [(1071, some (.cells false (by8 [71,80,2,0,0,0,0,0,0,0,5,0,0,0,0,0,0,0,6,0,0,0,0,0,0,0,0,0,0,0,0,0,0,0,11,0,1,10,23,246,175,123])))]⟩
theorem lk_1_14_ok : okFE Tryd.prog (shaS) 100000 lk_1_14 = true := by kernel_rfl
def lk_1_15 : FE := ⟨52, [.agg ([.int .i64 2, .int .u64 5, .int .u64 6, .int .u64 0, .int .u64 12, .sl 1076 0 1 (.opn 1)])], 1082, 1, [tp0, (1076, .cells false ([.int .u8 11]))], .tup ([.sl 1159 0 42 (.opn 1), .int .i64 0]), false, 1160, 1082, [(1159, some (.cells false (by8 [71,80,2,0,0,0,0,0,0,0,5,0,0,0,0,0,0,0,6,0,0,0,0,0,0,0,0,0,0,0,0,0,0,0,12,0,1,11,84,5,203,42])))]⟩
theorem lk_1_15_ok : okFE Tryd.prog (shaS) 100000 lk_1_15 = true := by kernel_rfl
def lk_1_16 : FE := ⟨52, [.agg ([.int .i64 2, .int .u64 5, .int .u64 6, .int .u64 0, .int .u64 13, .sl 1164 0 1 (.opn 1)])], 1170, 1, [tp0, (1164, .cells false ([.int .u8 12]))], .tup ([.sl 1247 0 42 (.opn 1), .int .i64 0]), false, 1248, 1170, [(1247, some (.cells false (by8 [71,80,2,0,0,0,0,0,0,0,5,0,0,0,0,0,0,0,6,0,0,0,0,0,0,0,0,0,0,0,0,0,0,0,13,0,1,12,6,245,94,243])))]⟩
theorem lk_1_16_ok : okFE Tryd.prog (shaS) 100000 lk_1_16 = true := by kernel_rfl
def lk_1_17 : FE := ⟨52, [.agg ([.int .i64 2, .int .u64 5, .int .u64 6, .int .u64 0, .int .u64 14, .sl 1252 0 1 (.opn 1)])], 1258, 1, [tp0, (1252, .cells false ([.int .u8 13]))], .tup ([.sl 1335 0 42 (.opn 1), .int .i64 0]), false, 1336, 1258, [(1335, some (.cells false (by8 [71,80,2,0,0,0,0,0,0,0,5,0,0,0,0,0,0,0,6,0,0,0,0,0,0,0,0,0,0,0,0,0,0,0,14,0,1,13,35,66,173,0])))]⟩
theorem lk_1_17_ok : okFE Tryd.prog (shaS) 100000 lk_1_17 = true := by kernel_rfl
def lk_1_18 : FE := ⟨52, [.agg ([.int .i64 2, .int .u64 5, .int .u64 6, .int .u64 0, .int .u64 15, .sl 1340 0 1 (.opn 1)])], 1346, 1, [tp0, (1340, .cells false ([.int .u8 14]))], .tup ([.sl 1423 0 42 (.opn 1), .int .i64 0]), false, 1424, 1346, [(1423, some (.cells false (by8 [71,80,2,0,0,0,0,0,0,0,5,0,0,0,0,0,0,0,6,0,0,0,0,0,0,0,0,0,0,0,0,0,0,0,15,0,1,14,117,153,103,143])))]⟩
theorem lk_1_18_ok : okFE Tryd.prog (shaS) 100000 lk_1_18 = true := by kernel_rfl
def lk_1_19 : FE := ⟨52, [.agg ([.int .i64 2, .int .u64 5, .int .u64 6, .int .u64 0, .int .u64 16, .sl 1428 0 1 (.opn 1)])], 1434, 1, [tp0, (1428, .cells false ([.int .u8 15]))], .tup ([.sl 1511 0 42 (.opn 1), .int .i64 0]), false, 1512, 1434, [(1511, some (.cells false (by8 [71,80,2,0,0,0,0,0,0,0,5,0,0,0,0,0,0,0,6,0,0,0,0,0,0,0,0,0,0,0,0,0,0,0,16,0,1,15,160,4,19,218])))]⟩
theorem lk_1_19_ok : okFE Tryd.prog (shaS) 100000 lk_1_19 = true := by kernel_rfl
def lk_1_20 : FE := ⟨52, [.agg ([.int .i64 2, .int .u64 5, .int .u64 6, .int .u64 0, .int .u64 17, .sl 1516 0 1 (.opn 1)])], 1522, 1, [tp0, (1516, .cells false ([.int .u8 16]))], .tup ([.sl 1599 0 42 (.opn 1), .int .i64 0]), false, 1600, 1522, [(1599, some (.cells false (by8 [71,80,2,0,0,0,0,0,0,0,5,0,0,0,0,0,0,0,6,0,0,0,0,0,0,0,0,0,0,0,0,0,0,0,17,0,1,16,130,229,239,91])))]⟩
theorem lk_1_20_ok : okFE Tryd.prog (shaS) 100000 lk_1_20 = true := by kernel_rfl
def lk_1_21 : FE := ⟨52, [.agg ([.int .i64 2, .int .u64 5, .int .u64 6, .int .u64 0, .int .u64 18, .sl 1604 0 1 (.opn 1)])], 1610, 1, [tp0, (1604, .cells false ([.int .u8 17]))], .tup ([.sl 1687 0 42 (.opn 1), .int .i64 0]), false, 1688, 1610, [(1687, some (.cells false (by8 [71,80,2,0,0,0,0,0,0,0,5,0,0,0,0,0,0,0,6,0,0,0,0,0,0,0,0,0,0,0,0,0,0,0,18,0,1,17,229,158,164,20])))]⟩
theorem lk_1_21_ok : okFE Tryd.prog (shaS) 100000 lk_1_21 = true := by kernel_rfl
def lk_1_22 : FE := ⟨52, [.agg ([.int .i64 2, .int .u64 5, .int .u64 6, .int .u64 0, .int .u64 19, .sl 1692 0 1 (.opn 1)])], 1698, 1, [tp0, (1692, .cells false ([.int .u8 18]))], .tup ([.sl 1775 0 42 (.opn 1), .int .i64 0]), false, 1776, 1698, [(1775, some (.cells false (by8 [71,80,2,0,0,0,0,0,0,0,5,0,0,0,0,0,0,0,6,0,0,0,0,0,0,0,0,0,0,0,0,0,0,0,19,0,1,18,174,27,71,202])))]⟩
theorem lk_1_22_ok : okFE Tryd.prog (shaS) 100000 lk_1_22 = true := by kernel_rfl
def lk_1_23 : FE := ⟨52, [.agg ([.int .i64 2, .int .u64 5, .int .u64 6, .int .u64 0, .int .u64 20, .sl 1780 0 1 (.opn 1)])], 1786, 1, [tp0, (1780, .cells false ([.int .u8 19]))], .tup ([.sl 1863 0 42 (.opn 1), .int .i64 0]), false, 1864, 1786, [(1863, some (.cells false (by8 [71,80,2,0,0,0,0,0,0,0,5,0,0,0,0,0,0,0,6,0,0,0,0,0,0,0,0,0,0,0,0,0,0,0,20,0,1,19,206,113,147,6])))]⟩
theorem lk_1_23_ok : okFE Tryd.prog (shaS) 100000 lk_1_23 = true := by kernel_rfl
def lk_1_24 : FE := ⟨52, [.agg ([.int .i64 2, .int .u64 5, .int .u64 6, .int .u64 0, .int .u64 21, .sl 1868 0 1 (.opn 1)])], 1874, 1, [tp0, (1868, .cells false ([.int .u8 20]))], .tup ([.sl 1951 0 42 (.opn 1), .int .i64 0]), false, 1952, 1874, [(1951, some (.cells false (by8 [71,80,2,0,0,0,0,0,0,0,5,0,0,0,0,0,0,0,6,0,0,0,0,0,0,0,0,0,0,0,0,0,0,0,21,0,1,20,17,50,133,98])))]⟩
theorem lk_1_24_ok : okFE Tryd.prog (shaS) 100000 lk_1_24 = true := by kernel_rfl
def lk_1_25 : FE := ⟨52, [.agg ([.int .i64 2, .int .u64 5, .int .u64 6, .int .u64 0, .int .u64 22, .sl 1956 0 1 (.opn 1)])], 1962, 1, [tp0, (1956, .cells false ([.int .u8 21]))], .tup ([.sl 2039 0 42 (.opn 1), .int .i64 0]), false, 2040, 1962, [(2039, some (.cells false (by8 [71,80,2,0,0,0,0,0,0,0,5,0,0,0,0,0,0,0,6,0,0,0,0,0,0,0,0,0,0,0,0,0,0,0,22,0,1,21,164,152,198,165])))]⟩
theorem lk_1_25_ok : okFE Tryd.prog (shaS) 100000 lk_1_25 = true := by kernel_rfl
def lk_1_26 : FE := ⟨52, [.agg ([.int .i64 2, .int .u64 5, .int .u64 6, .int .u64 0, .int .u64 23, .sl 2044 0 1 (.opn 1)])], 2050, 1, [tp0, (2044, .cells false ([.int .u8 22]))], .tup ([.sl 2127 0 42 (.opn 1), .int .i64 0]), false, 2128, 2050, [(2127, some (.cells false (by8 [71,80,2,0,0,0,0,0,0,0,5,0,0,0,0,0,0,0,6,0,0,0,0,0,0,0,0,0,0,0,0,0,0,0,23,0,1,22,9,234,81,88])))]⟩
theorem lk_1_26_ok : okFE Tryd.prog (shaS) 100000 lk_1_26 = true := by kernel_rfl
def lk_1_27 : FE := ⟨52, [.agg ([.int .i64 2, .int .u64 5, .int .u64 6, .int .u64 0, .int .u64 24, .sl 2132 0 1 (.opn 1)])], 2138, 1, [tp0, (2132, .cells false ([.int .u8 23]))], .tup ([.sl 2215 0 42 (.opn 1), .int .i64 0]), false, 2216, 2138, [(2215, some (.cells false (by8 [71,80,2,0,0,0,0,0,0,0,5,0,0,0,0,0,0,0,6,0,0,0,0,0,0,0,0,0,0,0,0,0,0,0,24,0,1,23,252,11,238,171])))]⟩
theorem lk_1_27_ok : okFE Tryd.prog (shaS) 100000 lk_1_27 = true := by kernel_rfl
def lk_1_28 : FE := ⟨52, [.agg ([.int .i64 2, .int .u64 5, .int .u64 6, .int .u64 0, .int .u64 25, .sl 2220 0 1 (.opn 1)])], 2226, 1, [tp0, (2220, .cells false ([.int .u8 24]))], .tup ([.sl 2303 0 42 (.opn 1), .int .i64 0]), false, 2304, 2226, [(2303, some (.cells false (by8 [71,80,2,0,0,0,0,0,0,0,5,0,0,0,0,0,0,0,6,0,0,0,0,0,0,0,0,0,0,0,0,0,0,0,25,0,1,24,23,63,118,57])))]⟩
theorem lk_1_28_ok : okFE Tryd.prog (shaS) 100000 lk_1_28 = true := by kernel_rfl
def lk_1_29 : FE := ⟨52, [.agg ([.int .i64 2, .int .u64 5, .int .u64 6, .int .u64 0, .int .u64 26, .sl 2308 0 1 (.opn 1)])], 2314, 1, [tp0, (2308, .cells false ([.int .u8 25]))], .tup ([.sl 2391 0 42 (.opn 1), .int .i64 0]), false, 2392, 2314, [(2391, some (.cells false (by8 [71,80,2,0,0,0,0,0,0,0,5,0,0,0,0,0,0,0,6,0,0,0,0,0,0,0,0,0,0,0,0,0,0,0,26,0,1,25,159,102,155,191])))]⟩
theorem lk_1_29_ok : okFE Tryd.prog (shaS) 100000 lk_1_29 = true := by kernel_rfl
def lk_1_30 : FE := ⟨52, [.agg ([.int .i64 2, .int .u64 5, .int .u64 6, .int .u64 0, .int .u64 27, .sl 2396 0 1 (.opn 1)])], 2402, 1, [tp0, (2396, .cells false ([.int .u8 26]))], .tup ([.sl 2479 0 42 (.opn 1), .int .i64 0]), false, 2480, 2402, [(2479, some (.cells false (by8 [71,80,2,0,0,0,0,0,0,0,5,0,0,0,0,0,0,0,6,0,0,0,0,0,0,0,0,0,0,0,0,0,0,0,27,0,1,26,143,152,74,112])))]⟩
theorem lk_1_30_ok : okFE Tryd.prog (shaS) 100000 lk_1_30 = true := by kernel_rfl
def lk_1_31 : FE := ⟨52, [.agg ([.int .i64 2, .int .u64 5, .int .u64 6, .int .u64 0, .int .u64 28, .sl 2484 0 1 (.opn 1)])], 2490, 1, [tp0, (2484, .cells false ([.int .u8 27]))], .tup ([.sl 2567 0 42 (.opn 1), .int .i64 0]), false, 2568, 2490, [(2567, some (.cells false (by8 [71,80,2,0,0,0,0,0,0,0,5,0,0,0,0,0,0,0,6,0,0,0,0,0,0,0,0,0,0,0,0,0,0,0,28,0,1,27,160,164,81,10])))]⟩
theorem lk_1_31_ok : okFE Tryd.prog (shaS) 100000 lk_1_31 = true := by kernel_rfl
def lk_1_32 : FE := ⟨52, [.agg ([.int .i64 2, .int .u64 5, .int .u64 6, .int .u64 0, .int .u64 29, .sl 2572 0 1 (.opn 1)])], 2578, 1, [tp0, (2572, .cells false ([.int .u8 28]))], .tup ([.sl 2655 0 42 (.opn 1), .int .i64 0]), false, 2656, 2578, [(2655, some (.cells false (by8 [71,80,2,0,0,0,0,0,0,0,5,0,0,0,0,0,0,0,6,0,0,0,0,0,0,0,0,0,0,0,0,0,0,0,29,0,1,28,27,70,221,225])))]⟩
theorem lk_1_32_ok : okFE Tryd.prog (shaS) 100000 lk_1_32 = true := by kernel_rfl
def lk_1_33 : FE := ⟨52, [.agg ([.int .i64 2, .int .u64 5, .int .u64 6, .int .u64 0, .int .u64 30, .sl 2660 0 1 (.opn 1)])], 2666, 1, [tp0, (2660, .cells false ([.int .u8 29]))], .tup ([.sl 2743 0 42 (.opn 1), .int .i64 0]), false, 2744, 2666, [(2743, some (.cells false (by8 [71,80,2,0,0,0,0,0,0,0,5,0,0,0,0,0,0,0,6,0,0,0,0,0,0,0,0,0,0,0,0,0,0,0,30,0,1,29,172,100,213,62])))]⟩
theorem lk_1_33_ok : okFE Tryd.prog (shaS) 100000 lk_1_33 = true := by kernel_rfl
def lk_1_34 : FE := ⟨52, [.agg ([.int .i64 2, .int .u64 5, .int .u64 6, .int .u64 0, .int .u64 31, .sl 2748 0 1 (.opn 1)])], 2754, 1, [tp0, (2748, .cells false ([.int .u8 30]))], .tup ([.sl 2831 0 42 (.opn 1), .int .i64 0]), false, 2832, 2754, [(2831, some (.cells false (by8 [71,80,2,0,0,0,0,0,0,0,5,0,0,0,0,0,0,0,6,0,0,0,0,0,0,0,0,0,0,0,0,0,0,0,31,0,1,30,202,179,31,137])))]⟩
theorem lk_1_34_ok : okFE Tryd.prog (shaS) 100000 lk_1_34 = true := by kernel_rfl
def lk_1_35 : FE := ⟨52, [.agg ([.int .i64 2, .int .u64 5, .int .u64 6, .int .u64 0, .int .u64 32, .sl 2836 0 1 (.opn 1)])], 2842, 1, [tp0, (2836, .cells false ([.int .u8 31]))], .tup ([.sl 2919 0 42 (.opn 1), .int .i64 0]), false, 2920, 2842, [(2919, some (.cells false (by8 [71,80,2,0,0,0,0,0,0,0,5,0,0,0,0,0,0,0,6,0,0,0,0,0,0,0,0,0,0,0,0,0,0,0,32,0,1,31,116,215,166,194])))]⟩
theorem lk_1_35_ok : okFE Tryd.prog (shaS) 100000 lk_1_35 = true := by kernel_rfl
def lk_1_36 : FE := ⟨52, [.agg ([.int .i64 1, .int .u64 1, .int .u64 0, .int .u64 0, .int .u64 0, .nils])], 2927, 1, [tp0], .tup ([.sl 2967 0 23 (.opn 1), .int .i64 0]), false, 2968, 2927, [(2967, some (.cells false (by8 [71,80,1,0,0,0,0,0,0,0,1,0,0,0,0,0,0,0,0,4,98,98,177])))]⟩
theorem lk_1_36_ok : okFE Tryd.prog (shaS) 100000 lk_1_36 = true := by kernel_rfl
def lk_1_37 : FE := ⟨52, [.agg ([.int .i64 1, .int .u64 2, .int .u64 0, .int .u64 0, .int .u64 0, .nils])], 2971, 1, [tp0], .tup ([.sl 3011 0 23 (.opn 1), .int .i64 0]), false, 3012, 2971, [(3011, some (.cells false (by8 [71,80,1,0,0,0,0,0,0,0,2,0,0,0,0,0,0,0,0,139,248,159,148])))]⟩
theorem lk_1_37_ok : okFE Tryd.prog (shaS) 100000 lk_1_37 = true := by kernel_rfl
def lk_1_38 : FE := ⟨32, [.sl 2967 0 23 (.opn 1)], 3014, 1, [tp0, (2967, .cells false (by8 [71,80,1,0,0,0,0,0,0,0,1,0,0,0,0,0,0,0,0,4,98,98,177]))], .tup ([.agg ([.int .i64 1, .int .u64 1, .int .u64 0, .int .u64 0, .int .u64 0, .nils]), .int .i64 0]), true, 3014, 3014, []⟩
theorem lk_1_38_ok : okFE Tryd.prog (shaS) 100000 lk_1_38 = true := by kernel_rfl
def lk_1_39 : FE := ⟨52, [.agg ([.int .i64 1, .int .u64 2, .int .u64 1, .int .u64 0, .int .u64 0, .nils])], 3018, 1, [tp0], .tup ([.sl 3058 0 23 (.opn 1), .int .i64 0]), false, 3059, 3018, [(3058, some (.cells false (by8 [71,80,1,0,0,0,0,0,0,0,2,0,0,0,0,0,0,0,1,14,214,56,35])))]⟩
theorem lk_1_39_ok : okFE Tryd.prog (shaS) 100000 lk_1_39 = true := by kernel_rfl
def lk_1_40 : FE := ⟨32, [.sl 3011 0 23 (.opn 1)], 3061, 1, [tp0, (3011, .cells false (by8 [71,80,1,0,0,0,0,0,0,0,2,0,0,0,0,0,0,0,0,139,248,159,148]))], .tup ([.agg ([.int .i64 1, .int .u64 2, .int .u64 0, .int .u64 0, .int .u64 0, .nils]), .int .i64 0]), true, 3061, 3061, []⟩
theorem lk_1_40_ok : okFE Tryd.prog (shaS) 100000 lk_1_40 = true := by kernel_rfl
def lk_1_41 : FE := ⟨52, [.agg ([.int .i64 1, .int .u64 1, .int .u64 2, .int .u64 0, .int .u64 0, .nils])], 3065, 1, [tp0], .tup ([.sl 3105 0 23 (.opn 1), .int .i64 0]), false, 3106, 3065, [(3105, some (.cells false (by8 [71,80,1,0,0,0,0,0,0,0,1,0,0,0,0,0,0,0,2,92,246,187,130])))]⟩
theorem lk_1_41_ok : okFE Tryd.prog (shaS) 100000 lk_1_41 = true := by kernel_rfl
def lk_1_42 : FE := ⟨32, [.sl 3105 0 23 (.opn 1)], 3108, 1, [tp0, (3105, .cells false (by8 [71,80,1,0,0,0,0,0,0,0,1,0,0,0,0,0,0,0,2,92,246,187,130]))], .tup ([.agg ([.int .i64 1, .int .u64 1, .int .u64 2, .int .u64 0, .int .u64 0, .nils]), .int .i64 0]), true, 3108, 3108, []⟩
theorem lk_1_42_ok : okFE Tryd.prog (shaS) 100000 lk_1_42 = true := by kernel_rfl
def lk_1_43 : FE := ⟨52, [.agg ([.int .i64 1, .int .u64 2, .int .u64 1, .int .u64 0, .int .u64 0, .nils])], 3112, 1, [tp0], .tup ([.sl 3152 0 23 (.opn 1), .int .i64 0]), false, 3153, 3112, [(3152, some (.cells false (by8 [71,80,1,0,0,0,0,0,0,0,2,0,0,0,0,0,0,0,1,14,214,56,35])))]⟩
theorem lk_1_43_ok : okFE Tryd.prog (shaS) 100000 lk_1_43 = true := by kernel_rfl
def lk_1_44 : FE := ⟨32, [.sl 3058 0 23 (.opn 1)], 3155, 1, [tp0, (3058, .cells false (by8 [71,80,1,0,0,0,0,0,0,0,2,0,0,0,0,0,0,0,1,14,214,56,35]))], .tup ([.agg ([.int .i64 1, .int .u64 2, .int .u64 1, .int .u64 0, .int .u64 0, .nils]), .int .i64 0]), true, 3155, 3155, []⟩
theorem lk_1_44_ok : okFE Tryd.prog (shaS) 100000 lk_1_44 = true := by kernel_rfl
def lk_1_45 : FE := ⟨52, [.agg ([.int .i64 1, .int .u64 1, .int .u64 2, .int .u64 0, .int .u64 0, .nils])], 3159, 1, [tp0], .tup ([.sl 3199 0 23 (.opn 1), .int .i64 0]), false, 3200, 3159, [(3199, some (.cells false (by8 [71,80,1,0,0,0,0,0,0,0,1,0,0,0,0,0,0,0,2,92,246,187,130])))]⟩
theorem lk_1_45_ok : okFE Tryd.prog (shaS) 100000 lk_1_45 = true := by kernel_rfl
def lk_1_46 : FE := ⟨32, [.sl 3199 0 23 (.opn 1)], 3202, 1, [tp0, (3199, .cells false (by8 [71,80,1,0,0,0,0,0,0,0,1,0,0,0,0,0,0,0,2,92,246,187,130]))], .tup ([.agg ([.int .i64 1, .int .u64 1, .int .u64 2, .int .u64 0, .int .u64 0, .nils]), .int .i64 0]), true, 3202, 3202, []⟩
theorem lk_1_46_ok : okFE Tryd.prog (shaS) 100000 lk_1_46 = true := by kernel_rfl
def lk_1_47 : FE := ⟨32, [.sl 3152 0 23 (.opn 1)], 3205, 1, [tp0, (3152, .cells false (by8 [71,80,1,0,0,0,0,0,0,0,2,0,0,0,0,0,0,0,1,14,214,56,35]))], .tup ([.agg ([.int .i64 1, .int .u64 2, .int .u64 1, .int .u64 0, .int .u64 0, .nils]), .int .i64 0]), true, 3205, 3205, []⟩
theorem lk_1_47_ok : okFE Tryd.prog (shaS) 100000 lk_1_47 = true := by kernel_rfl
def lk_1 : List FE := [lk_1_0, lk_1_1, lk_1_2, lk_1_3, lk_1_4, lk_1_5, lk_1_6, lk_1_7, lk_1_8, lk_1_9, lk_1_10, lk_1_11, lk_1_12, lk_1_13, lk_1_14, lk_1_15, lk_1_16, lk_1_17, lk_1_18, lk_1_19, lk_1_20, lk_1_21, lk_1_22, lk_1_23, lk_1_24, lk_1_25, lk_1_26, lk_1_27, lk_1_28, lk_1_29, lk_1_30, lk_1_31, lk_1_32, lk_1_33, lk_1_34, lk_1_35, lk_1_36, lk_1_37, lk_1_38, lk_1_39, lk_1_40, lk_1_41, lk_1_42, lk_1_43, lk_1_44, lk_1_45, lk_1_46, lk_1_47]
theorem lk_1_all : FsOk Tryd.prog (shaS) 100000 lk_1 := ⟨lk_1_0_ok, lk_1_1_ok, lk_1_2_ok, lk_1_3_ok, lk_1_4_ok, lk_1_5_ok, lk_1_6_ok, lk_1_7_ok, lk_1_8_ok, lk_1_9_ok, lk_1_10_ok, lk_1_11_ok, lk_1_12_ok, lk_1_13_ok, lk_1_14_ok, lk_1_15_ok, lk_1_16_ok, lk_1_17_ok, lk_1_18_ok, lk_1_19_ok, lk_1_20_ok, lk_1_21_ok, lk_1_22_ok, lk_1_23_ok, lk_1_24_ok, lk_1_25_ok, lk_1_26_ok, lk_1_27_ok, lk_1_28_ok, lk_1_29_ok, lk_1_30_ok, lk_1_31_ok, lk_1_32_ok, lk_1_33_ok, lk_1_34_ok, lk_1_35_ok, lk_1_36_ok, lk_1_37_ok, lk_1_38_ok, lk_1_39_ok, lk_1_40_ok, lk_1_41_ok, lk_1_42_ok, lk_1_43_ok, lk_1_44_ok, lk_1_45_ok, lk_1_46_ok, lk_1_47_ok, trivial⟩
theorem lk_1_sum : SumOk Tryd.prog (bothS (fpS lk_1) (shaS)) := both_ok (fp_ok lk_plain lk_mixed (shaS_ok lk_plain lk_mixed) lk_1_all) (shaS_ok lk_plain lk_mixed)
def lk_sig : Sums := bothS (fpS lk_1) (shaS)
theorem lk_sig_ok : SumOk Tryd.prog lk_sig := lk_1_sum
end
end Go.Cl.Sh
