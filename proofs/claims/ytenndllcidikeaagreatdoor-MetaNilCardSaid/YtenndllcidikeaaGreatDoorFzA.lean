/- The program's functions, run by the rewriting evaluator: what each answers and leaves (FzA). -/
import Derived.Test.YtenndllcidikeaaGreatDoorBdB
set_option linter.all false
open Go Go.Cl Go.Proofs
namespace Go.Cl.Sh
noncomputable section
set_option maxRecDepth 1000000

theorem fz_plain : plainB Tryz.prog = true := by kernel_rfl
theorem fz_mixed : Tryz.prog.follows .mixedOrders = true := by kernel_rfl
def fz_blk0 : FuncId × List CV × CV := (68, [.agg ([.int .i64 0, .bool false, .int .u64 0, .int .u64 0, .int .u64 0, .int .u64 0, .int .u64 0])], .tup ([.agg (rl [(.int .u8 0, 256)]), .int .i64 2]))
theorem fz_blk0_ok : okE Tryz.prog (shaS) 100000 fz_blk0 = true := by kernel_rfl
def fz_blk1 : FuncId × List CV × CV := (68, [.agg ([.int .i64 4, .bool false, .int .u64 7, .int .u64 0, .int .u64 0, .int .u64 0, .int .u64 1])], .tup ([.agg (rl [(.int .u8 71, 1), (.int .u8 69, 1), (.int .u8 77, 1), (.int .u8 76, 1), (.int .u8 4, 1), (.int .u8 0, 8), (.int .u8 1, 1), (.int .u8 0, 7), (.int .u8 7, 1), (.int .u8 0, 226), (.int .u8 116, 1), (.int .u8 22, 1), (.int .u8 45, 1), (.int .u8 20, 1), (.int .u8 101, 1), (.int .u8 55, 1), (.int .u8 171, 1), (.int .u8 32, 1)]), .int .i64 0]))
theorem fz_blk1_ok : okE Tryz.prog (shaS) 100000 fz_blk1 = true := by kernel_rfl
def fz_blk2 : FuncId × List CV × CV := (69, [.agg (rl [(.int .u64 0, 17), (.int .i64 0, 2)]), .int .u64 0], .tup ([.agg (rl [(.int .u8 71, 1), (.int .u8 69, 1), (.int .u8 82, 1), (.int .u8 86, 1), (.int .u8 0, 244), (.int .u8 180, 1), (.int .u8 17, 1), (.int .u8 135, 1), (.int .u8 72, 1), (.int .u8 227, 1), (.int .u8 45, 1), (.int .u8 78, 1), (.int .u8 244, 1)]), .int .i64 0]))
theorem fz_blk2_ok : okE Tryz.prog (shaS) 100000 fz_blk2 = true := by kernel_rfl
def fz_blk3 : FuncId × List CV × CV := (69, [.agg (rl [(.int .u64 0, 17), (.int .i64 0, 2)]), .int .u64 1], .tup ([.agg (rl [(.int .u8 71, 1), (.int .u8 69, 1), (.int .u8 82, 1), (.int .u8 86, 1), (.int .u8 0, 7), (.int .u8 1, 1), (.int .u8 0, 236), (.int .u8 108, 1), (.int .u8 232, 1), (.int .u8 255, 1), (.int .u8 164, 1), (.int .u8 209, 1), (.int .u8 17, 1), (.int .u8 68, 1), (.int .u8 231, 1)]), .int .i64 0]))
theorem fz_blk3_ok : okE Tryz.prog (shaS) 100000 fz_blk3 = true := by kernel_rfl
def fz_blk4 : FuncId × List CV × CV := (70, [.int .u64 0], .agg (rl [(.int .u8 71, 1), (.int .u8 69, 1), (.int .u8 66, 1), (.int .u8 77, 1), (.int .u8 0, 244), (.int .u8 167, 1), (.int .u8 109, 1), (.int .u8 22, 1), (.int .u8 185, 1), (.int .u8 220, 1), (.int .u8 139, 1), (.int .u8 92, 1), (.int .u8 164, 1)]))
theorem fz_blk4_ok : okE Tryz.prog (shaS) 100000 fz_blk4 = true := by kernel_rfl
def fz_blk5 : FuncId × List CV × CV := (71, [.int .u64 0, .int .u16 0], .agg (rl [(.int .u8 71, 1), (.int .u8 69, 1), (.int .u8 65, 1), (.int .u8 76, 1), (.int .u8 0, 244), (.int .u8 89, 1), (.int .u8 174, 1), (.int .u8 25, 1), (.int .u8 206, 1), (.int .u8 39, 1), (.int .u8 171, 1), (.int .u8 180, 1), (.int .u8 70, 1)]))
theorem fz_blk5_ok : okE Tryz.prog (shaS) 100000 fz_blk5 = true := by kernel_rfl
def fz_blk : List (FuncId × List CV × CV) := [fz_blk0, fz_blk1, fz_blk2, fz_blk3, fz_blk4, fz_blk5]
theorem fz_blk_all : MOk Tryz.prog (shaS) 100000 fz_blk := ⟨fz_blk0_ok, fz_blk1_ok, fz_blk2_ok, fz_blk3_ok, fz_blk4_ok, fz_blk5_ok, trivial⟩
theorem fz_blk_sum : SumOk Tryz.prog (bothS (memoS fz_blk) (shaS)) := both_ok (memo_ok fz_plain fz_mixed (shaS_ok fz_plain fz_mixed) fz_blk_all) (shaS_ok fz_plain fz_mixed)
def fz_of0 : FuncId × List CV × CV := (176, [.agg (rl [(.int .u8 0, 256)])], .tup ([.agg ([.int .i64 0, .bool false, .int .u64 0, .int .u64 0, .int .u64 0, .int .u64 0, .int .u64 0]), .int .i64 4]))
theorem fz_of0_ok : okE Tryz.prog (bothS (memoS fz_blk) (shaS)) 100000 fz_of0 = true := by kernel_rfl
def fz_of1 : FuncId × List CV × CV := (176, [.agg (rl [(.int .u8 71, 1), (.int .u8 69, 1), (.int .u8 77, 1), (.int .u8 76, 1), (.int .u8 4, 1), (.int .u8 0, 8), (.int .u8 1, 1), (.int .u8 0, 7), (.int .u8 7, 1), (.int .u8 0, 226), (.int .u8 116, 1), (.int .u8 22, 1), (.int .u8 45, 1), (.int .u8 20, 1), (.int .u8 101, 1), (.int .u8 55, 1), (.int .u8 171, 1), (.int .u8 32, 1)])], .tup ([.agg ([.int .i64 4, .bool false, .int .u64 7, .int .u64 0, .int .u64 0, .int .u64 0, .int .u64 1]), .int .i64 0]))
theorem fz_of1_ok : okE Tryz.prog (bothS (memoS fz_blk) (shaS)) 100000 fz_of1 = true := by kernel_rfl
def fz_of2 : FuncId × List CV × CV := (177, [.agg (rl [(.int .u8 0, 256)])], .tup ([.agg (rl [(.int .u64 0, 17), (.int .i64 0, 2)]), .int .u64 0, .int .i64 4]))
theorem fz_of2_ok : okE Tryz.prog (bothS (memoS fz_blk) (shaS)) 100000 fz_of2 = true := by kernel_rfl
def fz_of3 : FuncId × List CV × CV := (177, [.agg (rl [(.int .u8 71, 1), (.int .u8 69, 1), (.int .u8 82, 1), (.int .u8 86, 1), (.int .u8 0, 7), (.int .u8 1, 1), (.int .u8 0, 236), (.int .u8 108, 1), (.int .u8 232, 1), (.int .u8 255, 1), (.int .u8 164, 1), (.int .u8 209, 1), (.int .u8 17, 1), (.int .u8 68, 1), (.int .u8 231, 1)])], .tup ([.agg (rl [(.int .u64 0, 17), (.int .i64 0, 2)]), .int .u64 1, .int .i64 0]))
theorem fz_of3_ok : okE Tryz.prog (bothS (memoS fz_blk) (shaS)) 100000 fz_of3 = true := by kernel_rfl
def fz_of4 : FuncId × List CV × CV := (65, [.agg (rl [(.int .u8 71, 1), (.int .u8 69, 1), (.int .u8 66, 1), (.int .u8 77, 1), (.int .u8 0, 244), (.int .u8 167, 1), (.int .u8 109, 1), (.int .u8 22, 1), (.int .u8 185, 1), (.int .u8 220, 1), (.int .u8 139, 1), (.int .u8 92, 1), (.int .u8 164, 1)])], .tup ([.int .u64 0, .int .i64 0]))
theorem fz_of4_ok : okE Tryz.prog (bothS (memoS fz_blk) (shaS)) 100000 fz_of4 = true := by kernel_rfl
def fz_of5 : FuncId × List CV × CV := (67, [.agg (rl [(.int .u8 0, 256)])], .tup ([.int .u64 0, .int .u16 0, .int .i64 4]))
theorem fz_of5_ok : okE Tryz.prog (bothS (memoS fz_blk) (shaS)) 100000 fz_of5 = true := by kernel_rfl
def fz_of : List (FuncId × List CV × CV) := [fz_of0, fz_of1, fz_of2, fz_of3, fz_of4, fz_of5]
theorem fz_of_all : MOk Tryz.prog (bothS (memoS fz_blk) (shaS)) 100000 fz_of := ⟨fz_of0_ok, fz_of1_ok, fz_of2_ok, fz_of3_ok, fz_of4_ok, fz_of5_ok, trivial⟩
theorem fz_of_sum : SumOk Tryz.prog (bothS (memoS fz_of) (bothS (memoS fz_blk) (shaS))) := both_ok (memo_ok fz_plain fz_mixed fz_blk_sum fz_of_all) fz_blk_sum
theorem fz_all_ok : SumOk Tryz.prog (bothS (openS Tryz.prog 23 72) (bothS (memoS fz_of) (bothS (memoS fz_blk) (shaS)))) := both_ok Go.Cl.So.open_ok fz_of_sum
end
end Go.Cl.Sh
