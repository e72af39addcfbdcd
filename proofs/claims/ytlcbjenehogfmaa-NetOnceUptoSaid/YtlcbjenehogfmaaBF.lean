/- Facts of the types, each closed. -/
import Derived.Test.YtlcbjenehogfmaaProg
import Derived.Test.YtlcbjenehogfmaaAbRun2
set_option linter.unusedSimpArgs false
set_option linter.unusedVariables false
namespace Go.Proofs
open Go Go.Abs
theorem fol : Try.prog.follows .mixedOrders = true := by kernel_rfl
theorem fc1 : Try.prog.cellsOf 1 = 1 := by kernel_rfl
theorem fo1 : isOne Try.prog 1 = true := by kernel_rfl
theorem fz1 : zeroCells Try.prog 1 = some [.lit .nilFunc] := by kernel_rfl
theorem fc2 : Try.prog.cellsOf 2 = 1 := by kernel_rfl
theorem fo2 : isOne Try.prog 2 = true := by kernel_rfl
theorem fz2 : zeroCells Try.prog 2 = some [.lit (.int .i64 0)] := by kernel_rfl
theorem fc3 : Try.prog.cellsOf 3 = 1 := by kernel_rfl
theorem fo3 : isOne Try.prog 3 = true := by kernel_rfl
theorem fz3 : zeroCells Try.prog 3 = some [.lit (.int .i64 0)] := by kernel_rfl
theorem fc4 : Try.prog.cellsOf 4 = 1 := by kernel_rfl
theorem fo4 : isOne Try.prog 4 = true := by kernel_rfl
theorem fz4 : zeroCells Try.prog 4 = some [.lit (.bool false)] := by kernel_rfl
theorem fc5 : Try.prog.cellsOf 5 = 1 := by kernel_rfl
theorem fo5 : isOne Try.prog 5 = true := by kernel_rfl
theorem fz5 : zeroCells Try.prog 5 = some [.lit (.int .u8 0)] := by kernel_rfl
theorem fc6 : Try.prog.cellsOf 6 = 1 := by kernel_rfl
theorem fo6 : isOne Try.prog 6 = true := by kernel_rfl
theorem fz6 : zeroCells Try.prog 6 = some [.lit (.int .u8 0)] := by kernel_rfl
theorem fc7 : Try.prog.cellsOf 7 = 4 := by kernel_rfl
theorem fa7 : isAggT Try.prog 7 = true := by kernel_rfl
theorem fz7 : zeroCells Try.prog 7 = some [.lit (.int .i64 0), .lit (.int .i64 0), .lit (.bool false), .lit (.int .u8 0)] := by kernel_rfl
theorem fk7_0 : fldOk Try.prog 7 0 = true := by kernel_rfl
theorem ff7_0 : offOf Try.prog 7 0 = 0 := by kernel_rfl
theorem ft7_0 : typOf Try.prog 7 0 = 2 := by kernel_rfl
theorem fk7_1 : fldOk Try.prog 7 1 = true := by kernel_rfl
theorem ff7_1 : offOf Try.prog 7 1 = 1 := by kernel_rfl
theorem ft7_1 : typOf Try.prog 7 1 = 3 := by kernel_rfl
theorem fk7_2 : fldOk Try.prog 7 2 = true := by kernel_rfl
theorem ff7_2 : offOf Try.prog 7 2 = 2 := by kernel_rfl
theorem ft7_2 : typOf Try.prog 7 2 = 4 := by kernel_rfl
theorem fk7_3 : fldOk Try.prog 7 3 = true := by kernel_rfl
theorem ff7_3 : offOf Try.prog 7 3 = 3 := by kernel_rfl
theorem ft7_3 : typOf Try.prog 7 3 = 6 := by kernel_rfl
theorem fc8 : Try.prog.cellsOf 8 = 4 := by kernel_rfl
theorem fa8 : isAggT Try.prog 8 = true := by kernel_rfl
theorem fz8 : zeroCells Try.prog 8 = some [.lit (.int .i64 0), .lit (.int .i64 0), .lit (.bool false), .lit (.int .u8 0)] := by kernel_rfl
theorem fk8_0 : fldOk Try.prog 8 0 = true := by kernel_rfl
theorem ff8_0 : offOf Try.prog 8 0 = 0 := by kernel_rfl
theorem ft8_0 : typOf Try.prog 8 0 = 2 := by kernel_rfl
theorem fk8_1 : fldOk Try.prog 8 1 = true := by kernel_rfl
theorem ff8_1 : offOf Try.prog 8 1 = 1 := by kernel_rfl
theorem ft8_1 : typOf Try.prog 8 1 = 3 := by kernel_rfl
theorem fk8_2 : fldOk Try.prog 8 2 = true := by kernel_rfl
theorem ff8_2 : offOf Try.prog 8 2 = 2 := by kernel_rfl
theorem ft8_2 : typOf Try.prog 8 2 = 4 := by kernel_rfl
theorem fk8_3 : fldOk Try.prog 8 3 = true := by kernel_rfl
theorem ff8_3 : offOf Try.prog 8 3 = 3 := by kernel_rfl
theorem ft8_3 : typOf Try.prog 8 3 = 6 := by kernel_rfl
theorem fc9 : Try.prog.cellsOf 9 = 1 := by kernel_rfl
theorem fo9 : isOne Try.prog 9 = true := by kernel_rfl
theorem fz9 : zeroCells Try.prog 9 = some [.lit (.string ByteArray.empty)] := by kernel_rfl
theorem fs9 : isSlStr Try.prog 9 = true := by kernel_rfl
theorem fc10 : Try.prog.cellsOf 10 = 1 := by kernel_rfl
theorem fo10 : isOne Try.prog 10 = true := by kernel_rfl
theorem fz10 : zeroCells Try.prog 10 = some [.lit (.string ByteArray.empty)] := by kernel_rfl
theorem fs10 : isSlStr Try.prog 10 = true := by kernel_rfl
theorem fc11 : Try.prog.cellsOf 11 = 1 := by kernel_rfl
theorem fo11 : isOne Try.prog 11 = true := by kernel_rfl
theorem fz11 : zeroCells Try.prog 11 = some [.lit (.string ByteArray.empty)] := by kernel_rfl
theorem fs11 : isSlStr Try.prog 11 = true := by kernel_rfl
theorem fc12 : Try.prog.cellsOf 12 = 1 := by kernel_rfl
theorem fo12 : isOne Try.prog 12 = true := by kernel_rfl
theorem fz12 : zeroCells Try.prog 12 = some [.lit (.int .u64 0)] := by kernel_rfl
theorem fc13 : Try.prog.cellsOf 13 = 2 := by kernel_rfl
theorem fa13 : isAggT Try.prog 13 = true := by kernel_rfl
theorem fz13 : zeroCells Try.prog 13 = some [.lit (.string ByteArray.empty), .lit (.int .u64 0)] := by kernel_rfl
theorem fk13_0 : fldOk Try.prog 13 0 = true := by kernel_rfl
theorem ff13_0 : offOf Try.prog 13 0 = 0 := by kernel_rfl
theorem ft13_0 : typOf Try.prog 13 0 = 9 := by kernel_rfl
theorem fk13_1 : fldOk Try.prog 13 1 = true := by kernel_rfl
theorem ff13_1 : offOf Try.prog 13 1 = 1 := by kernel_rfl
theorem ft13_1 : typOf Try.prog 13 1 = 12 := by kernel_rfl
theorem fc14 : Try.prog.cellsOf 14 = 2 := by kernel_rfl
theorem fa14 : isAggT Try.prog 14 = true := by kernel_rfl
theorem fz14 : zeroCells Try.prog 14 = some [.lit (.string ByteArray.empty), .lit (.int .u64 0)] := by kernel_rfl
theorem fk14_0 : fldOk Try.prog 14 0 = true := by kernel_rfl
theorem ff14_0 : offOf Try.prog 14 0 = 0 := by kernel_rfl
theorem ft14_0 : typOf Try.prog 14 0 = 9 := by kernel_rfl
theorem fk14_1 : fldOk Try.prog 14 1 = true := by kernel_rfl
theorem ff14_1 : offOf Try.prog 14 1 = 1 := by kernel_rfl
theorem ft14_1 : typOf Try.prog 14 1 = 12 := by kernel_rfl
theorem fc15 : Try.prog.cellsOf 15 = 1 := by kernel_rfl
theorem fo15 : isOne Try.prog 15 = true := by kernel_rfl
theorem fz15 : zeroCells Try.prog 15 = some [.lit (.pointer none)] := by kernel_rfl
theorem fc16 : Try.prog.cellsOf 16 = 1 := by kernel_rfl
theorem fo16 : isOne Try.prog 16 = true := by kernel_rfl
theorem fz16 : zeroCells Try.prog 16 = some [.lit (.pointer none)] := by kernel_rfl
theorem fc17 : Try.prog.cellsOf 17 = 1 := by kernel_rfl
theorem fo17 : isOne Try.prog 17 = true := by kernel_rfl
theorem fz17 : zeroCells Try.prog 17 = some [.lit (.pointer none)] := by kernel_rfl
theorem fc18 : Try.prog.cellsOf 18 = 1 := by kernel_rfl
theorem fa18 : isAggT Try.prog 18 = true := by kernel_rfl
theorem fz18 : zeroCells Try.prog 18 = some [.lit (.pointer none)] := by kernel_rfl
theorem fk18_0 : fldOk Try.prog 18 0 = true := by kernel_rfl
theorem ff18_0 : offOf Try.prog 18 0 = 0 := by kernel_rfl
theorem ft18_0 : typOf Try.prog 18 0 = 17 := by kernel_rfl
theorem fc19 : Try.prog.cellsOf 19 = 1 := by kernel_rfl
theorem fa19 : isAggT Try.prog 19 = true := by kernel_rfl
theorem fz19 : zeroCells Try.prog 19 = some [.lit (.pointer none)] := by kernel_rfl
theorem fk19_0 : fldOk Try.prog 19 0 = true := by kernel_rfl
theorem ff19_0 : offOf Try.prog 19 0 = 0 := by kernel_rfl
theorem ft19_0 : typOf Try.prog 19 0 = 17 := by kernel_rfl
theorem fc20 : Try.prog.cellsOf 20 = 1 := by kernel_rfl
theorem fo20 : isOne Try.prog 20 = true := by kernel_rfl
theorem fz20 : zeroCells Try.prog 20 = some [.lit .nilIface] := by kernel_rfl
theorem fc21 : Try.prog.cellsOf 21 = 1 := by kernel_rfl
theorem fo21 : isOne Try.prog 21 = true := by kernel_rfl
theorem fz21 : zeroCells Try.prog 21 = some [.lit (.int .i32 0)] := by kernel_rfl
theorem fc22 : Try.prog.cellsOf 22 = 1 := by kernel_rfl
theorem fo22 : isOne Try.prog 22 = true := by kernel_rfl
theorem fz22 : zeroCells Try.prog 22 = some [.lit (.slice none 0 0)] := by kernel_rfl
theorem fs22 : isSlStr Try.prog 22 = true := by kernel_rfl
theorem fp22 : apOk Try.prog 22 = true := by kernel_rfl
theorem fq22 : kOf Try.prog 22 = 14 := by kernel_rfl
theorem fb22 : bOf Try.prog 22 = 152 := by kernel_rfl
theorem fc23 : Try.prog.cellsOf 23 = 1 := by kernel_rfl
theorem fo23 : isOne Try.prog 23 = true := by kernel_rfl
theorem fz23 : zeroCells Try.prog 23 = some [.lit .nilFunc] := by kernel_rfl
theorem fc24 : Try.prog.cellsOf 24 = 1 := by kernel_rfl
theorem fo24 : isOne Try.prog 24 = true := by kernel_rfl
theorem fz24 : zeroCells Try.prog 24 = some [.lit (.pointer none)] := by kernel_rfl
theorem fc25 : Try.prog.cellsOf 25 = 1 := by kernel_rfl
theorem fo25 : isOne Try.prog 25 = true := by kernel_rfl
theorem fz25 : zeroCells Try.prog 25 = some [.lit .nilFunc] := by kernel_rfl
theorem fc26 : Try.prog.cellsOf 26 = 1 := by kernel_rfl
theorem fo26 : isOne Try.prog 26 = true := by kernel_rfl
theorem fz26 : zeroCells Try.prog 26 = some [.lit (.slice none 0 0)] := by kernel_rfl
theorem fs26 : isSlStr Try.prog 26 = true := by kernel_rfl
theorem fp26 : apOk Try.prog 26 = true := by kernel_rfl
theorem fq26 : kOf Try.prog 26 = 1 := by kernel_rfl
theorem fb26 : bOf Try.prog 26 = 8 := by kernel_rfl
theorem fc27 : Try.prog.cellsOf 27 = 1 := by kernel_rfl
theorem fo27 : isOne Try.prog 27 = true := by kernel_rfl
theorem fz27 : zeroCells Try.prog 27 = some [.lit .nilFunc] := by kernel_rfl
theorem fc28 : Try.prog.cellsOf 28 = 1 := by kernel_rfl
theorem fo28 : isOne Try.prog 28 = true := by kernel_rfl
theorem fz28 : zeroCells Try.prog 28 = some [.lit (.slice none 0 0)] := by kernel_rfl
theorem fs28 : isSlStr Try.prog 28 = true := by kernel_rfl
theorem fp28 : apOk Try.prog 28 = true := by kernel_rfl
theorem fq28 : kOf Try.prog 28 = 4 := by kernel_rfl
theorem fb28 : bOf Try.prog 28 = 40 := by kernel_rfl
theorem fc29 : Try.prog.cellsOf 29 = 11 := by kernel_rfl
theorem fa29 : isAggT Try.prog 29 = true := by kernel_rfl
theorem fz29 : zeroCells Try.prog 29 = some [.lit (.int .i64 0), .lit (.int .i64 0), .lit (.int .i64 0), .lit (.int .i64 0), .lit (.int .i64 0), .lit (.int .i64 0), .lit (.int .i64 0), .lit (.bool false), .lit (.slice none 0 0), .lit (.slice none 0 0), .lit (.string ByteArray.empty)] := by kernel_rfl
theorem fk29_0 : fldOk Try.prog 29 0 = true := by kernel_rfl
theorem ff29_0 : offOf Try.prog 29 0 = 0 := by kernel_rfl
theorem ft29_0 : typOf Try.prog 29 0 = 3 := by kernel_rfl
theorem fk29_1 : fldOk Try.prog 29 1 = true := by kernel_rfl
theorem ff29_1 : offOf Try.prog 29 1 = 1 := by kernel_rfl
theorem ft29_1 : typOf Try.prog 29 1 = 3 := by kernel_rfl
theorem fk29_2 : fldOk Try.prog 29 2 = true := by kernel_rfl
theorem ff29_2 : offOf Try.prog 29 2 = 2 := by kernel_rfl
theorem ft29_2 : typOf Try.prog 29 2 = 3 := by kernel_rfl
theorem fk29_3 : fldOk Try.prog 29 3 = true := by kernel_rfl
theorem ff29_3 : offOf Try.prog 29 3 = 3 := by kernel_rfl
theorem ft29_3 : typOf Try.prog 29 3 = 3 := by kernel_rfl
theorem fk29_4 : fldOk Try.prog 29 4 = true := by kernel_rfl
theorem ff29_4 : offOf Try.prog 29 4 = 4 := by kernel_rfl
theorem ft29_4 : typOf Try.prog 29 4 = 3 := by kernel_rfl
theorem fk29_5 : fldOk Try.prog 29 5 = true := by kernel_rfl
theorem ff29_5 : offOf Try.prog 29 5 = 5 := by kernel_rfl
theorem ft29_5 : typOf Try.prog 29 5 = 3 := by kernel_rfl
theorem fk29_6 : fldOk Try.prog 29 6 = true := by kernel_rfl
theorem ff29_6 : offOf Try.prog 29 6 = 6 := by kernel_rfl
theorem ft29_6 : typOf Try.prog 29 6 = 3 := by kernel_rfl
theorem fk29_7 : fldOk Try.prog 29 7 = true := by kernel_rfl
theorem ff29_7 : offOf Try.prog 29 7 = 7 := by kernel_rfl
theorem ft29_7 : typOf Try.prog 29 7 = 4 := by kernel_rfl
theorem fk29_8 : fldOk Try.prog 29 8 = true := by kernel_rfl
theorem ff29_8 : offOf Try.prog 29 8 = 8 := by kernel_rfl
theorem ft29_8 : typOf Try.prog 29 8 = 28 := by kernel_rfl
theorem fk29_9 : fldOk Try.prog 29 9 = true := by kernel_rfl
theorem ff29_9 : offOf Try.prog 29 9 = 9 := by kernel_rfl
theorem ft29_9 : typOf Try.prog 29 9 = 26 := by kernel_rfl
theorem fk29_10 : fldOk Try.prog 29 10 = true := by kernel_rfl
theorem ff29_10 : offOf Try.prog 29 10 = 10 := by kernel_rfl
theorem ft29_10 : typOf Try.prog 29 10 = 9 := by kernel_rfl
theorem fc30 : Try.prog.cellsOf 30 = 11 := by kernel_rfl
theorem fa30 : isAggT Try.prog 30 = true := by kernel_rfl
theorem fz30 : zeroCells Try.prog 30 = some [.lit (.int .i64 0), .lit (.int .i64 0), .lit (.int .i64 0), .lit (.int .i64 0), .lit (.int .i64 0), .lit (.int .i64 0), .lit (.int .i64 0), .lit (.bool false), .lit (.slice none 0 0), .lit (.slice none 0 0), .lit (.string ByteArray.empty)] := by kernel_rfl
theorem fk30_0 : fldOk Try.prog 30 0 = true := by kernel_rfl
theorem ff30_0 : offOf Try.prog 30 0 = 0 := by kernel_rfl
theorem ft30_0 : typOf Try.prog 30 0 = 3 := by kernel_rfl
theorem fk30_1 : fldOk Try.prog 30 1 = true := by kernel_rfl
theorem ff30_1 : offOf Try.prog 30 1 = 1 := by kernel_rfl
theorem ft30_1 : typOf Try.prog 30 1 = 3 := by kernel_rfl
theorem fk30_2 : fldOk Try.prog 30 2 = true := by kernel_rfl
theorem ff30_2 : offOf Try.prog 30 2 = 2 := by kernel_rfl
theorem ft30_2 : typOf Try.prog 30 2 = 3 := by kernel_rfl
theorem fk30_3 : fldOk Try.prog 30 3 = true := by kernel_rfl
theorem ff30_3 : offOf Try.prog 30 3 = 3 := by kernel_rfl
theorem ft30_3 : typOf Try.prog 30 3 = 3 := by kernel_rfl
theorem fk30_4 : fldOk Try.prog 30 4 = true := by kernel_rfl
theorem ff30_4 : offOf Try.prog 30 4 = 4 := by kernel_rfl
theorem ft30_4 : typOf Try.prog 30 4 = 3 := by kernel_rfl
theorem fk30_5 : fldOk Try.prog 30 5 = true := by kernel_rfl
theorem ff30_5 : offOf Try.prog 30 5 = 5 := by kernel_rfl
theorem ft30_5 : typOf Try.prog 30 5 = 3 := by kernel_rfl
theorem fk30_6 : fldOk Try.prog 30 6 = true := by kernel_rfl
theorem ff30_6 : offOf Try.prog 30 6 = 6 := by kernel_rfl
theorem ft30_6 : typOf Try.prog 30 6 = 3 := by kernel_rfl
theorem fk30_7 : fldOk Try.prog 30 7 = true := by kernel_rfl
theorem ff30_7 : offOf Try.prog 30 7 = 7 := by kernel_rfl
theorem ft30_7 : typOf Try.prog 30 7 = 4 := by kernel_rfl
theorem fk30_8 : fldOk Try.prog 30 8 = true := by kernel_rfl
theorem ff30_8 : offOf Try.prog 30 8 = 8 := by kernel_rfl
theorem ft30_8 : typOf Try.prog 30 8 = 28 := by kernel_rfl
theorem fk30_9 : fldOk Try.prog 30 9 = true := by kernel_rfl
theorem ff30_9 : offOf Try.prog 30 9 = 9 := by kernel_rfl
theorem ft30_9 : typOf Try.prog 30 9 = 26 := by kernel_rfl
theorem fk30_10 : fldOk Try.prog 30 10 = true := by kernel_rfl
theorem ff30_10 : offOf Try.prog 30 10 = 10 := by kernel_rfl
theorem ft30_10 : typOf Try.prog 30 10 = 9 := by kernel_rfl
theorem fc31 : Try.prog.cellsOf 31 = 14 := by kernel_rfl
theorem fa31 : isAggT Try.prog 31 = true := by kernel_rfl
theorem fz31 : zeroCells Try.prog 31 = some [.lit (.int .i64 0), .lit (.int .i64 0), .lit (.int .i64 0), .lit (.int .i64 0), .lit (.int .i64 0), .lit (.int .i64 0), .lit (.int .i64 0), .lit (.int .i64 0), .lit (.bool false), .lit (.slice none 0 0), .lit (.slice none 0 0), .lit (.string ByteArray.empty), .lit (.int .i64 0), .lit (.int .i64 0)] := by kernel_rfl
theorem fk31_0 : fldOk Try.prog 31 0 = true := by kernel_rfl
theorem ff31_0 : offOf Try.prog 31 0 = 0 := by kernel_rfl
theorem ft31_0 : typOf Try.prog 31 0 = 3 := by kernel_rfl
theorem fk31_1 : fldOk Try.prog 31 1 = true := by kernel_rfl
theorem ff31_1 : offOf Try.prog 31 1 = 1 := by kernel_rfl
theorem ft31_1 : typOf Try.prog 31 1 = 30 := by kernel_rfl
theorem fk31_2 : fldOk Try.prog 31 2 = true := by kernel_rfl
theorem ff31_2 : offOf Try.prog 31 2 = 12 := by kernel_rfl
theorem ft31_2 : typOf Try.prog 31 2 = 3 := by kernel_rfl
theorem fk31_3 : fldOk Try.prog 31 3 = true := by kernel_rfl
theorem ff31_3 : offOf Try.prog 31 3 = 13 := by kernel_rfl
theorem ft31_3 : typOf Try.prog 31 3 = 3 := by kernel_rfl
theorem fc32 : Try.prog.cellsOf 32 = 14 := by kernel_rfl
theorem fa32 : isAggT Try.prog 32 = true := by kernel_rfl
theorem fz32 : zeroCells Try.prog 32 = some [.lit (.int .i64 0), .lit (.int .i64 0), .lit (.int .i64 0), .lit (.int .i64 0), .lit (.int .i64 0), .lit (.int .i64 0), .lit (.int .i64 0), .lit (.int .i64 0), .lit (.bool false), .lit (.slice none 0 0), .lit (.slice none 0 0), .lit (.string ByteArray.empty), .lit (.int .i64 0), .lit (.int .i64 0)] := by kernel_rfl
theorem fk32_0 : fldOk Try.prog 32 0 = true := by kernel_rfl
theorem ff32_0 : offOf Try.prog 32 0 = 0 := by kernel_rfl
theorem ft32_0 : typOf Try.prog 32 0 = 3 := by kernel_rfl
theorem fk32_1 : fldOk Try.prog 32 1 = true := by kernel_rfl
theorem ff32_1 : offOf Try.prog 32 1 = 1 := by kernel_rfl
theorem ft32_1 : typOf Try.prog 32 1 = 30 := by kernel_rfl
theorem fk32_2 : fldOk Try.prog 32 2 = true := by kernel_rfl
theorem ff32_2 : offOf Try.prog 32 2 = 12 := by kernel_rfl
theorem ft32_2 : typOf Try.prog 32 2 = 3 := by kernel_rfl
theorem fk32_3 : fldOk Try.prog 32 3 = true := by kernel_rfl
theorem ff32_3 : offOf Try.prog 32 3 = 13 := by kernel_rfl
theorem ft32_3 : typOf Try.prog 32 3 = 3 := by kernel_rfl
theorem fc33 : Try.prog.cellsOf 33 = 1 := by kernel_rfl
theorem fo33 : isOne Try.prog 33 = true := by kernel_rfl
theorem fz33 : zeroCells Try.prog 33 = some [.lit .nilFunc] := by kernel_rfl
theorem fc34 : Try.prog.cellsOf 34 = 1 := by kernel_rfl
theorem fo34 : isOne Try.prog 34 = true := by kernel_rfl
theorem fz34 : zeroCells Try.prog 34 = some [.lit (.slice none 0 0)] := by kernel_rfl
theorem fs34 : isSlStr Try.prog 34 = true := by kernel_rfl
theorem fp34 : apOk Try.prog 34 = true := by kernel_rfl
theorem fq34 : kOf Try.prog 34 = 11 := by kernel_rfl
theorem fb34 : bOf Try.prog 34 = 128 := by kernel_rfl
theorem fc35 : Try.prog.cellsOf 35 = 1 := by kernel_rfl
theorem fo35 : isOne Try.prog 35 = true := by kernel_rfl
theorem fz35 : zeroCells Try.prog 35 = some [.lit .nilFunc] := by kernel_rfl
theorem fc36 : Try.prog.cellsOf 36 = 1 := by kernel_rfl
theorem fo36 : isOne Try.prog 36 = true := by kernel_rfl
theorem fz36 : zeroCells Try.prog 36 = some [.lit .nilFunc] := by kernel_rfl
theorem fc37 : Try.prog.cellsOf 37 = 1 := by kernel_rfl
theorem fo37 : isOne Try.prog 37 = true := by kernel_rfl
theorem fz37 : zeroCells Try.prog 37 = some [.lit .nilFunc] := by kernel_rfl
theorem fc38 : Try.prog.cellsOf 38 = 1 := by kernel_rfl
theorem fo38 : isOne Try.prog 38 = true := by kernel_rfl
theorem fz38 : zeroCells Try.prog 38 = some [.lit .nilFunc] := by kernel_rfl
theorem fc39 : Try.prog.cellsOf 39 = 1 := by kernel_rfl
theorem fo39 : isOne Try.prog 39 = true := by kernel_rfl
theorem fz39 : zeroCells Try.prog 39 = some [.lit (.pointer none)] := by kernel_rfl
theorem fc40 : Try.prog.cellsOf 40 = 2 := by kernel_rfl
theorem fa40 : isAggT Try.prog 40 = true := by kernel_rfl
theorem fz40 : zeroCells Try.prog 40 = some [.lit (.slice none 0 0), .lit (.slice none 0 0)] := by kernel_rfl
theorem fk40_0 : fldOk Try.prog 40 0 = true := by kernel_rfl
theorem ff40_0 : offOf Try.prog 40 0 = 0 := by kernel_rfl
theorem ft40_0 : typOf Try.prog 40 0 = 34 := by kernel_rfl
theorem fk40_1 : fldOk Try.prog 40 1 = true := by kernel_rfl
theorem ff40_1 : offOf Try.prog 40 1 = 1 := by kernel_rfl
theorem ft40_1 : typOf Try.prog 40 1 = 26 := by kernel_rfl
theorem fc41 : Try.prog.cellsOf 41 = 2 := by kernel_rfl
theorem fa41 : isAggT Try.prog 41 = true := by kernel_rfl
theorem fz41 : zeroCells Try.prog 41 = some [.lit (.slice none 0 0), .lit (.slice none 0 0)] := by kernel_rfl
theorem fk41_0 : fldOk Try.prog 41 0 = true := by kernel_rfl
theorem ff41_0 : offOf Try.prog 41 0 = 0 := by kernel_rfl
theorem ft41_0 : typOf Try.prog 41 0 = 34 := by kernel_rfl
theorem fk41_1 : fldOk Try.prog 41 1 = true := by kernel_rfl
theorem ff41_1 : offOf Try.prog 41 1 = 1 := by kernel_rfl
theorem ft41_1 : typOf Try.prog 41 1 = 26 := by kernel_rfl
theorem fc42 : Try.prog.cellsOf 42 = 1 := by kernel_rfl
theorem fo42 : isOne Try.prog 42 = true := by kernel_rfl
theorem fz42 : zeroCells Try.prog 42 = some [.lit .nilFunc] := by kernel_rfl
theorem fc43 : Try.prog.cellsOf 43 = 1 := by kernel_rfl
theorem fo43 : isOne Try.prog 43 = true := by kernel_rfl
theorem fz43 : zeroCells Try.prog 43 = some [.lit .nilFunc] := by kernel_rfl
theorem fc44 : Try.prog.cellsOf 44 = 1 := by kernel_rfl
theorem fo44 : isOne Try.prog 44 = true := by kernel_rfl
theorem fz44 : zeroCells Try.prog 44 = some [.lit .nilFunc] := by kernel_rfl
theorem fc45 : Try.prog.cellsOf 45 = 1 := by kernel_rfl
theorem fo45 : isOne Try.prog 45 = true := by kernel_rfl
theorem fz45 : zeroCells Try.prog 45 = some [.lit .nilFunc] := by kernel_rfl
theorem fc46 : Try.prog.cellsOf 46 = 1 := by kernel_rfl
theorem fo46 : isOne Try.prog 46 = true := by kernel_rfl
theorem fz46 : zeroCells Try.prog 46 = some [.lit .nilFunc] := by kernel_rfl
theorem fc47 : Try.prog.cellsOf 47 = 1 := by kernel_rfl
theorem fo47 : isOne Try.prog 47 = true := by kernel_rfl
theorem fz47 : zeroCells Try.prog 47 = some [.lit .nilFunc] := by kernel_rfl
theorem fc48 : Try.prog.cellsOf 48 = 1 := by kernel_rfl
theorem fo48 : isOne Try.prog 48 = true := by kernel_rfl
theorem fz48 : zeroCells Try.prog 48 = some [.lit (.slice none 0 0)] := by kernel_rfl
theorem fs48 : isSlStr Try.prog 48 = true := by kernel_rfl
theorem fp48 : apOk Try.prog 48 = true := by kernel_rfl
theorem fq48 : kOf Try.prog 48 = 12 := by kernel_rfl
theorem fb48 : bOf Try.prog 48 = 136 := by kernel_rfl
theorem fc49 : Try.prog.cellsOf 49 = 1 := by kernel_rfl
theorem fa49 : isAggT Try.prog 49 = true := by kernel_rfl
theorem fz49 : zeroCells Try.prog 49 = some [.lit (.slice none 0 0)] := by kernel_rfl
theorem fk49_0 : fldOk Try.prog 49 0 = true := by kernel_rfl
theorem ff49_0 : offOf Try.prog 49 0 = 0 := by kernel_rfl
theorem ft49_0 : typOf Try.prog 49 0 = 48 := by kernel_rfl
theorem fc50 : Try.prog.cellsOf 50 = 1 := by kernel_rfl
theorem fa50 : isAggT Try.prog 50 = true := by kernel_rfl
theorem fz50 : zeroCells Try.prog 50 = some [.lit (.slice none 0 0)] := by kernel_rfl
theorem fk50_0 : fldOk Try.prog 50 0 = true := by kernel_rfl
theorem ff50_0 : offOf Try.prog 50 0 = 0 := by kernel_rfl
theorem ft50_0 : typOf Try.prog 50 0 = 48 := by kernel_rfl
theorem fc52 : Try.prog.cellsOf 52 = 1 := by kernel_rfl
theorem fo52 : isOne Try.prog 52 = true := by kernel_rfl
theorem fz52 : zeroCells Try.prog 52 = some [.lit .nilFunc] := by kernel_rfl
theorem fc53 : Try.prog.cellsOf 53 = 1 := by kernel_rfl
theorem fo53 : isOne Try.prog 53 = true := by kernel_rfl
theorem fz53 : zeroCells Try.prog 53 = some [.lit .nilFunc] := by kernel_rfl
theorem fc54 : Try.prog.cellsOf 54 = 12 := by kernel_rfl
theorem fa54 : isAggT Try.prog 54 = true := by kernel_rfl
theorem fz54 : zeroCells Try.prog 54 = some [.lit (.int .i64 0), .lit (.int .i64 0), .lit (.int .i64 0), .lit (.int .i64 0), .lit (.int .i64 0), .lit (.int .i64 0), .lit (.int .i64 0), .lit (.int .i64 0), .lit (.bool false), .lit (.slice none 0 0), .lit (.slice none 0 0), .lit (.string ByteArray.empty)] := by kernel_rfl
theorem fk54_0 : fldOk Try.prog 54 0 = true := by kernel_rfl
theorem ff54_0 : offOf Try.prog 54 0 = 0 := by kernel_rfl
theorem ft54_0 : typOf Try.prog 54 0 = 3 := by kernel_rfl
theorem fk54_1 : fldOk Try.prog 54 1 = true := by kernel_rfl
theorem ff54_1 : offOf Try.prog 54 1 = 1 := by kernel_rfl
theorem ft54_1 : typOf Try.prog 54 1 = 30 := by kernel_rfl
theorem fc55 : Try.prog.cellsOf 55 = 12 := by kernel_rfl
theorem fa55 : isAggT Try.prog 55 = true := by kernel_rfl
theorem fz55 : zeroCells Try.prog 55 = some [.lit (.int .i64 0), .lit (.int .i64 0), .lit (.int .i64 0), .lit (.int .i64 0), .lit (.int .i64 0), .lit (.int .i64 0), .lit (.int .i64 0), .lit (.int .i64 0), .lit (.bool false), .lit (.slice none 0 0), .lit (.slice none 0 0), .lit (.string ByteArray.empty)] := by kernel_rfl
theorem fk55_0 : fldOk Try.prog 55 0 = true := by kernel_rfl
theorem ff55_0 : offOf Try.prog 55 0 = 0 := by kernel_rfl
theorem ft55_0 : typOf Try.prog 55 0 = 3 := by kernel_rfl
theorem fk55_1 : fldOk Try.prog 55 1 = true := by kernel_rfl
theorem ff55_1 : offOf Try.prog 55 1 = 1 := by kernel_rfl
theorem ft55_1 : typOf Try.prog 55 1 = 30 := by kernel_rfl
theorem fc56 : Try.prog.cellsOf 56 = 1 := by kernel_rfl
theorem fo56 : isOne Try.prog 56 = true := by kernel_rfl
theorem fz56 : zeroCells Try.prog 56 = some [.lit .nilFunc] := by kernel_rfl
theorem fc57 : Try.prog.cellsOf 57 = 1 := by kernel_rfl
theorem fo57 : isOne Try.prog 57 = true := by kernel_rfl
theorem fz57 : zeroCells Try.prog 57 = some [.lit .nilFunc] := by kernel_rfl
theorem fc58 : Try.prog.cellsOf 58 = 1 := by kernel_rfl
theorem fo58 : isOne Try.prog 58 = true := by kernel_rfl
theorem fz58 : zeroCells Try.prog 58 = some [.lit (.int .u64 0)] := by kernel_rfl
theorem fc59 : Try.prog.cellsOf 59 = 1 := by kernel_rfl
theorem fo59 : isOne Try.prog 59 = true := by kernel_rfl
theorem fz59 : zeroCells Try.prog 59 = some [.lit .nilFunc] := by kernel_rfl
theorem fc60 : Try.prog.cellsOf 60 = 1 := by kernel_rfl
theorem fo60 : isOne Try.prog 60 = true := by kernel_rfl
theorem fz60 : zeroCells Try.prog 60 = some [.lit .nilFunc] := by kernel_rfl
theorem fc61 : Try.prog.cellsOf 61 = 1 := by kernel_rfl
theorem fo61 : isOne Try.prog 61 = true := by kernel_rfl
theorem fz61 : zeroCells Try.prog 61 = some [.lit .nilFunc] := by kernel_rfl
theorem fc62 : Try.prog.cellsOf 62 = 4 := by kernel_rfl
theorem fa62 : isAggT Try.prog 62 = true := by kernel_rfl
theorem fz62 : zeroCells Try.prog 62 = some [.lit (.int .i64 0), .lit (.int .i64 0), .lit (.int .i64 0), .lit (.string ByteArray.empty)] := by kernel_rfl
theorem fk62_0 : fldOk Try.prog 62 0 = true := by kernel_rfl
theorem ff62_0 : offOf Try.prog 62 0 = 0 := by kernel_rfl
theorem ft62_0 : typOf Try.prog 62 0 = 3 := by kernel_rfl
theorem fk62_1 : fldOk Try.prog 62 1 = true := by kernel_rfl
theorem ff62_1 : offOf Try.prog 62 1 = 1 := by kernel_rfl
theorem ft62_1 : typOf Try.prog 62 1 = 3 := by kernel_rfl
theorem fk62_2 : fldOk Try.prog 62 2 = true := by kernel_rfl
theorem ff62_2 : offOf Try.prog 62 2 = 2 := by kernel_rfl
theorem ft62_2 : typOf Try.prog 62 2 = 3 := by kernel_rfl
theorem fk62_3 : fldOk Try.prog 62 3 = true := by kernel_rfl
theorem ff62_3 : offOf Try.prog 62 3 = 3 := by kernel_rfl
theorem ft62_3 : typOf Try.prog 62 3 = 9 := by kernel_rfl
theorem fc63 : Try.prog.cellsOf 63 = 4 := by kernel_rfl
theorem fa63 : isAggT Try.prog 63 = true := by kernel_rfl
theorem fz63 : zeroCells Try.prog 63 = some [.lit (.int .i64 0), .lit (.int .i64 0), .lit (.int .i64 0), .lit (.string ByteArray.empty)] := by kernel_rfl
theorem fk63_0 : fldOk Try.prog 63 0 = true := by kernel_rfl
theorem ff63_0 : offOf Try.prog 63 0 = 0 := by kernel_rfl
theorem ft63_0 : typOf Try.prog 63 0 = 3 := by kernel_rfl
theorem fk63_1 : fldOk Try.prog 63 1 = true := by kernel_rfl
theorem ff63_1 : offOf Try.prog 63 1 = 1 := by kernel_rfl
theorem ft63_1 : typOf Try.prog 63 1 = 3 := by kernel_rfl
theorem fk63_2 : fldOk Try.prog 63 2 = true := by kernel_rfl
theorem ff63_2 : offOf Try.prog 63 2 = 2 := by kernel_rfl
theorem ft63_2 : typOf Try.prog 63 2 = 3 := by kernel_rfl
theorem fk63_3 : fldOk Try.prog 63 3 = true := by kernel_rfl
theorem ff63_3 : offOf Try.prog 63 3 = 3 := by kernel_rfl
theorem ft63_3 : typOf Try.prog 63 3 = 9 := by kernel_rfl
theorem fc64 : Try.prog.cellsOf 64 = 1 := by kernel_rfl
theorem fo64 : isOne Try.prog 64 = true := by kernel_rfl
theorem fz64 : zeroCells Try.prog 64 = some [.lit .nilFunc] := by kernel_rfl
theorem fc65 : Try.prog.cellsOf 65 = 1 := by kernel_rfl
theorem fo65 : isOne Try.prog 65 = true := by kernel_rfl
theorem fz65 : zeroCells Try.prog 65 = some [.lit .nilFunc] := by kernel_rfl
theorem fc66 : Try.prog.cellsOf 66 = 1 := by kernel_rfl
theorem fo66 : isOne Try.prog 66 = true := by kernel_rfl
theorem fz66 : zeroCells Try.prog 66 = some [.lit .nilFunc] := by kernel_rfl
theorem fc67 : Try.prog.cellsOf 67 = 1 := by kernel_rfl
theorem fo67 : isOne Try.prog 67 = true := by kernel_rfl
theorem fz67 : zeroCells Try.prog 67 = some [.lit .nilFunc] := by kernel_rfl
theorem fc68 : Try.prog.cellsOf 68 = 1 := by kernel_rfl
theorem fo68 : isOne Try.prog 68 = true := by kernel_rfl
theorem fz68 : zeroCells Try.prog 68 = some [.lit .nilFunc] := by kernel_rfl
theorem fc69 : Try.prog.cellsOf 69 = 1 := by kernel_rfl
theorem fo69 : isOne Try.prog 69 = true := by kernel_rfl
theorem fz69 : zeroCells Try.prog 69 = some [.lit .nilFunc] := by kernel_rfl
theorem fc70 : Try.prog.cellsOf 70 = 1 := by kernel_rfl
theorem fo70 : isOne Try.prog 70 = true := by kernel_rfl
theorem fz70 : zeroCells Try.prog 70 = some [.lit .nilFunc] := by kernel_rfl
theorem fc71 : Try.prog.cellsOf 71 = 4 := by kernel_rfl
theorem fa71 : isAggT Try.prog 71 = true := by kernel_rfl
theorem fz71 : zeroCells Try.prog 71 = some [.lit (.pointer none), .lit (.pointer none), .lit (.pointer none), .lit (.string ByteArray.empty)] := by kernel_rfl
theorem fk71_0 : fldOk Try.prog 71 0 = true := by kernel_rfl
theorem ff71_0 : offOf Try.prog 71 0 = 0 := by kernel_rfl
theorem ft71_0 : typOf Try.prog 71 0 = 17 := by kernel_rfl
theorem fk71_1 : fldOk Try.prog 71 1 = true := by kernel_rfl
theorem ff71_1 : offOf Try.prog 71 1 = 1 := by kernel_rfl
theorem ft71_1 : typOf Try.prog 71 1 = 17 := by kernel_rfl
theorem fk71_2 : fldOk Try.prog 71 2 = true := by kernel_rfl
theorem ff71_2 : offOf Try.prog 71 2 = 2 := by kernel_rfl
theorem ft71_2 : typOf Try.prog 71 2 = 17 := by kernel_rfl
theorem fk71_3 : fldOk Try.prog 71 3 = true := by kernel_rfl
theorem ff71_3 : offOf Try.prog 71 3 = 3 := by kernel_rfl
theorem ft71_3 : typOf Try.prog 71 3 = 9 := by kernel_rfl
theorem fc72 : Try.prog.cellsOf 72 = 4 := by kernel_rfl
theorem fa72 : isAggT Try.prog 72 = true := by kernel_rfl
theorem fz72 : zeroCells Try.prog 72 = some [.lit (.pointer none), .lit (.pointer none), .lit (.pointer none), .lit (.string ByteArray.empty)] := by kernel_rfl
theorem fk72_0 : fldOk Try.prog 72 0 = true := by kernel_rfl
theorem ff72_0 : offOf Try.prog 72 0 = 0 := by kernel_rfl
theorem ft72_0 : typOf Try.prog 72 0 = 17 := by kernel_rfl
theorem fk72_1 : fldOk Try.prog 72 1 = true := by kernel_rfl
theorem ff72_1 : offOf Try.prog 72 1 = 1 := by kernel_rfl
theorem ft72_1 : typOf Try.prog 72 1 = 17 := by kernel_rfl
theorem fk72_2 : fldOk Try.prog 72 2 = true := by kernel_rfl
theorem ff72_2 : offOf Try.prog 72 2 = 2 := by kernel_rfl
theorem ft72_2 : typOf Try.prog 72 2 = 17 := by kernel_rfl
theorem fk72_3 : fldOk Try.prog 72 3 = true := by kernel_rfl
theorem ff72_3 : offOf Try.prog 72 3 = 3 := by kernel_rfl
theorem ft72_3 : typOf Try.prog 72 3 = 9 := by kernel_rfl
theorem fc73 : Try.prog.cellsOf 73 = 0 := by kernel_rfl
theorem fa73 : isAggT Try.prog 73 = true := by kernel_rfl
theorem fz73 : zeroCells Try.prog 73 = some [] := by kernel_rfl
theorem fc74 : Try.prog.cellsOf 74 = 0 := by kernel_rfl
theorem fa74 : isAggT Try.prog 74 = true := by kernel_rfl
theorem fz74 : zeroCells Try.prog 74 = some [] := by kernel_rfl
theorem fc75 : Try.prog.cellsOf 75 = 0 := by kernel_rfl
theorem fa75 : isAggT Try.prog 75 = true := by kernel_rfl
theorem fz75 : zeroCells Try.prog 75 = some [] := by kernel_rfl
theorem fc76 : Try.prog.cellsOf 76 = 1 := by kernel_rfl
theorem fo76 : isOne Try.prog 76 = true := by kernel_rfl
theorem fz76 : zeroCells Try.prog 76 = some [.lit (.int .u32 0)] := by kernel_rfl
theorem fc77 : Try.prog.cellsOf 77 = 1 := by kernel_rfl
theorem fo77 : isOne Try.prog 77 = true := by kernel_rfl
theorem fz77 : zeroCells Try.prog 77 = some [.lit (.int .u8 0)] := by kernel_rfl
theorem fc78 : Try.prog.cellsOf 78 = 1 := by kernel_rfl
theorem fo78 : isOne Try.prog 78 = true := by kernel_rfl
theorem fz78 : zeroCells Try.prog 78 = some [.lit (.int .u8 0)] := by kernel_rfl
theorem fc79 : Try.prog.cellsOf 79 = 1 := by kernel_rfl
theorem fo79 : isOne Try.prog 79 = true := by kernel_rfl
theorem fz79 : zeroCells Try.prog 79 = some [.lit .nilFunc] := by kernel_rfl
theorem fc80 : Try.prog.cellsOf 80 = 1 := by kernel_rfl
theorem fo80 : isOne Try.prog 80 = true := by kernel_rfl
theorem fz80 : zeroCells Try.prog 80 = some [.lit (.pointer none)] := by kernel_rfl
theorem fc81 : Try.prog.cellsOf 81 = 1 := by kernel_rfl
theorem fo81 : isOne Try.prog 81 = true := by kernel_rfl
theorem fz81 : zeroCells Try.prog 81 = some [.lit (.int .i32 0)] := by kernel_rfl
theorem fc82 : Try.prog.cellsOf 82 = 1 := by kernel_rfl
theorem fo82 : isOne Try.prog 82 = true := by kernel_rfl
theorem fz82 : zeroCells Try.prog 82 = some [.lit (.int .i32 0)] := by kernel_rfl
theorem fc83 : Try.prog.cellsOf 83 = 11 := by kernel_rfl
theorem fa83 : isAggT Try.prog 83 = true := by kernel_rfl
theorem fz83 : zeroCells Try.prog 83 = some [.lit (.int .u64 0), .lit (.int .u64 0), .lit (.int .u32 0), .lit (.int .u8 0), .lit (.int .u8 0), .lit (.int .u8 0), .lit (.int .u8 0), .lit .nilFunc, .lit (.pointer none), .lit (.int .i32 0), .lit (.int .i32 0)] := by kernel_rfl
theorem fk83_0 : fldOk Try.prog 83 0 = true := by kernel_rfl
theorem ff83_0 : offOf Try.prog 83 0 = 0 := by kernel_rfl
theorem ft83_0 : typOf Try.prog 83 0 = 12 := by kernel_rfl
theorem fk83_1 : fldOk Try.prog 83 1 = true := by kernel_rfl
theorem ff83_1 : offOf Try.prog 83 1 = 1 := by kernel_rfl
theorem ft83_1 : typOf Try.prog 83 1 = 12 := by kernel_rfl
theorem fk83_2 : fldOk Try.prog 83 2 = true := by kernel_rfl
theorem ff83_2 : offOf Try.prog 83 2 = 2 := by kernel_rfl
theorem ft83_2 : typOf Try.prog 83 2 = 76 := by kernel_rfl
theorem fk83_3 : fldOk Try.prog 83 3 = true := by kernel_rfl
theorem ff83_3 : offOf Try.prog 83 3 = 3 := by kernel_rfl
theorem ft83_3 : typOf Try.prog 83 3 = 77 := by kernel_rfl
theorem fk83_4 : fldOk Try.prog 83 4 = true := by kernel_rfl
theorem ff83_4 : offOf Try.prog 83 4 = 4 := by kernel_rfl
theorem ft83_4 : typOf Try.prog 83 4 = 5 := by kernel_rfl
theorem fk83_5 : fldOk Try.prog 83 5 = true := by kernel_rfl
theorem ff83_5 : offOf Try.prog 83 5 = 5 := by kernel_rfl
theorem ft83_5 : typOf Try.prog 83 5 = 5 := by kernel_rfl
theorem fk83_6 : fldOk Try.prog 83 6 = true := by kernel_rfl
theorem ff83_6 : offOf Try.prog 83 6 = 6 := by kernel_rfl
theorem ft83_6 : typOf Try.prog 83 6 = 78 := by kernel_rfl
theorem fk83_7 : fldOk Try.prog 83 7 = true := by kernel_rfl
theorem ff83_7 : offOf Try.prog 83 7 = 7 := by kernel_rfl
theorem ft83_7 : typOf Try.prog 83 7 = 79 := by kernel_rfl
theorem fk83_8 : fldOk Try.prog 83 8 = true := by kernel_rfl
theorem ff83_8 : offOf Try.prog 83 8 = 8 := by kernel_rfl
theorem ft83_8 : typOf Try.prog 83 8 = 80 := by kernel_rfl
theorem fk83_9 : fldOk Try.prog 83 9 = true := by kernel_rfl
theorem ff83_9 : offOf Try.prog 83 9 = 9 := by kernel_rfl
theorem ft83_9 : typOf Try.prog 83 9 = 81 := by kernel_rfl
theorem fk83_10 : fldOk Try.prog 83 10 = true := by kernel_rfl
theorem ff83_10 : offOf Try.prog 83 10 = 10 := by kernel_rfl
theorem ft83_10 : typOf Try.prog 83 10 = 82 := by kernel_rfl
theorem fc84 : Try.prog.cellsOf 84 = 11 := by kernel_rfl
theorem fa84 : isAggT Try.prog 84 = true := by kernel_rfl
theorem fz84 : zeroCells Try.prog 84 = some [.lit (.int .u64 0), .lit (.int .u64 0), .lit (.int .u32 0), .lit (.int .u8 0), .lit (.int .u8 0), .lit (.int .u8 0), .lit (.int .u8 0), .lit .nilFunc, .lit (.pointer none), .lit (.int .i32 0), .lit (.int .i32 0)] := by kernel_rfl
theorem fk84_0 : fldOk Try.prog 84 0 = true := by kernel_rfl
theorem ff84_0 : offOf Try.prog 84 0 = 0 := by kernel_rfl
theorem ft84_0 : typOf Try.prog 84 0 = 12 := by kernel_rfl
theorem fk84_1 : fldOk Try.prog 84 1 = true := by kernel_rfl
theorem ff84_1 : offOf Try.prog 84 1 = 1 := by kernel_rfl
theorem ft84_1 : typOf Try.prog 84 1 = 12 := by kernel_rfl
theorem fk84_2 : fldOk Try.prog 84 2 = true := by kernel_rfl
theorem ff84_2 : offOf Try.prog 84 2 = 2 := by kernel_rfl
theorem ft84_2 : typOf Try.prog 84 2 = 76 := by kernel_rfl
theorem fk84_3 : fldOk Try.prog 84 3 = true := by kernel_rfl
theorem ff84_3 : offOf Try.prog 84 3 = 3 := by kernel_rfl
theorem ft84_3 : typOf Try.prog 84 3 = 77 := by kernel_rfl
theorem fk84_4 : fldOk Try.prog 84 4 = true := by kernel_rfl
theorem ff84_4 : offOf Try.prog 84 4 = 4 := by kernel_rfl
theorem ft84_4 : typOf Try.prog 84 4 = 5 := by kernel_rfl
theorem fk84_5 : fldOk Try.prog 84 5 = true := by kernel_rfl
theorem ff84_5 : offOf Try.prog 84 5 = 5 := by kernel_rfl
theorem ft84_5 : typOf Try.prog 84 5 = 5 := by kernel_rfl
theorem fk84_6 : fldOk Try.prog 84 6 = true := by kernel_rfl
theorem ff84_6 : offOf Try.prog 84 6 = 6 := by kernel_rfl
theorem ft84_6 : typOf Try.prog 84 6 = 78 := by kernel_rfl
theorem fk84_7 : fldOk Try.prog 84 7 = true := by kernel_rfl
theorem ff84_7 : offOf Try.prog 84 7 = 7 := by kernel_rfl
theorem ft84_7 : typOf Try.prog 84 7 = 79 := by kernel_rfl
theorem fk84_8 : fldOk Try.prog 84 8 = true := by kernel_rfl
theorem ff84_8 : offOf Try.prog 84 8 = 8 := by kernel_rfl
theorem ft84_8 : typOf Try.prog 84 8 = 80 := by kernel_rfl
theorem fk84_9 : fldOk Try.prog 84 9 = true := by kernel_rfl
theorem ff84_9 : offOf Try.prog 84 9 = 9 := by kernel_rfl
theorem ft84_9 : typOf Try.prog 84 9 = 81 := by kernel_rfl
theorem fk84_10 : fldOk Try.prog 84 10 = true := by kernel_rfl
theorem ff84_10 : offOf Try.prog 84 10 = 10 := by kernel_rfl
theorem ft84_10 : typOf Try.prog 84 10 = 82 := by kernel_rfl
theorem fc85 : Try.prog.cellsOf 85 = 1 := by kernel_rfl
theorem fo85 : isOne Try.prog 85 = true := by kernel_rfl
attribute [go_sem] Try.underlying0 Try.underlying1 fc1 fo1 fz1 Try.underlying2 fc2 fo2 fz2 Try.underlying3 fc3 fo3 fz3 Try.underlying4 fc4 fo4 fz4 Try.underlying5 fc5 fo5 fz5 Try.underlying6 fc6 fo6 fz6 Try.underlying7 fc7 fa7 fz7 fk7_0 ff7_0 ft7_0 fk7_1 ff7_1 ft7_1 fk7_2 ff7_2 ft7_2 fk7_3 ff7_3 ft7_3 Try.underlying8 fc8 fa8 fz8 fk8_0 ff8_0 ft8_0 fk8_1 ff8_1 ft8_1 fk8_2 ff8_2 ft8_2 fk8_3 ff8_3 ft8_3 Try.underlying9 fc9 fo9 fz9 fs9 Try.underlying10 fc10 fo10 fz10 fs10 Try.underlying11 fc11 fo11 fz11 fs11 Try.underlying12 fc12 fo12 fz12 Try.underlying13 fc13 fa13 fz13 fk13_0 ff13_0 ft13_0 fk13_1 ff13_1 ft13_1 Try.underlying14 fc14 fa14 fz14 fk14_0 ff14_0 ft14_0 fk14_1 ff14_1 ft14_1 Try.underlying15 fc15 fo15 fz15 Try.underlying16 fc16 fo16 fz16 Try.underlying17 fc17 fo17 fz17 Try.underlying18 fc18 fa18 fz18 fk18_0 ff18_0 ft18_0 Try.underlying19 fc19 fa19 fz19 fk19_0 ff19_0 ft19_0 Try.underlying20 fc20 fo20 fz20 Try.underlying21 fc21 fo21 fz21 Try.underlying22 fc22 fo22 fz22 fs22 fp22 fq22 fb22 Try.underlying23 fc23 fo23 fz23 Try.underlying24 fc24 fo24 fz24 Try.underlying25 fc25 fo25 fz25 Try.underlying26 fc26 fo26 fz26 fs26 fp26 fq26 fb26 Try.underlying27 fc27 fo27 fz27 Try.underlying28 fc28 fo28 fz28 fs28 fp28 fq28 fb28 Try.underlying29 fc29 fa29 fz29 fk29_0 ff29_0 ft29_0 fk29_1 ff29_1 ft29_1 fk29_2 ff29_2 ft29_2 fk29_3 ff29_3 ft29_3 fk29_4 ff29_4 ft29_4 fk29_5 ff29_5 ft29_5 fk29_6 ff29_6 ft29_6 fk29_7 ff29_7 ft29_7 fk29_8 ff29_8 ft29_8 fk29_9 ff29_9 ft29_9 fk29_10 ff29_10 ft29_10 Try.underlying30 fc30 fa30 fz30 fk30_0 ff30_0 ft30_0 fk30_1 ff30_1 ft30_1 fk30_2 ff30_2 ft30_2 fk30_3 ff30_3 ft30_3 fk30_4 ff30_4 ft30_4 fk30_5 ff30_5 ft30_5 fk30_6 ff30_6 ft30_6 fk30_7 ff30_7 ft30_7 fk30_8 ff30_8 ft30_8 fk30_9 ff30_9 ft30_9 fk30_10 ff30_10 ft30_10 Try.underlying31 fc31 fa31 fz31 fk31_0 ff31_0 ft31_0 fk31_1 ff31_1 ft31_1 fk31_2 ff31_2 ft31_2 fk31_3 ff31_3 ft31_3 Try.underlying32 fc32 fa32 fz32 fk32_0 ff32_0 ft32_0 fk32_1 ff32_1 ft32_1 fk32_2 ff32_2 ft32_2 fk32_3 ff32_3 ft32_3 Try.underlying33 fc33 fo33 fz33 Try.underlying34 fc34 fo34 fz34 fs34 fp34 fq34 fb34 Try.underlying35 fc35 fo35 fz35 Try.underlying36 fc36 fo36 fz36 Try.underlying37 fc37 fo37 fz37 Try.underlying38 fc38 fo38 fz38 Try.underlying39 fc39 fo39 fz39 Try.underlying40 fc40 fa40 fz40 fk40_0 ff40_0 ft40_0 fk40_1 ff40_1 ft40_1 Try.underlying41 fc41 fa41 fz41 fk41_0 ff41_0 ft41_0 fk41_1 ff41_1 ft41_1 Try.underlying42 fc42 fo42 fz42 Try.underlying43 fc43 fo43 fz43 Try.underlying44 fc44 fo44 fz44 Try.underlying45 fc45 fo45 fz45 Try.underlying46 fc46 fo46 fz46 Try.underlying47 fc47 fo47 fz47 Try.underlying48 fc48 fo48 fz48 fs48 fp48 fq48 fb48 Try.underlying49 fc49 fa49 fz49 fk49_0 ff49_0 ft49_0 Try.underlying50 fc50 fa50 fz50 fk50_0 ff50_0 ft50_0 Try.underlying51 Try.underlying52 fc52 fo52 fz52 Try.underlying53 fc53 fo53 fz53 Try.underlying54 fc54 fa54 fz54 fk54_0 ff54_0 ft54_0 fk54_1 ff54_1 ft54_1 Try.underlying55 fc55 fa55 fz55 fk55_0 ff55_0 ft55_0 fk55_1 ff55_1 ft55_1 Try.underlying56 fc56 fo56 fz56 Try.underlying57 fc57 fo57 fz57 Try.underlying58 fc58 fo58 fz58 Try.underlying59 fc59 fo59 fz59 Try.underlying60 fc60 fo60 fz60 Try.underlying61 fc61 fo61 fz61 Try.underlying62 fc62 fa62 fz62 fk62_0 ff62_0 ft62_0 fk62_1 ff62_1 ft62_1 fk62_2 ff62_2 ft62_2 fk62_3 ff62_3 ft62_3 Try.underlying63 fc63 fa63 fz63 fk63_0 ff63_0 ft63_0 fk63_1 ff63_1 ft63_1 fk63_2 ff63_2 ft63_2 fk63_3 ff63_3 ft63_3 Try.underlying64 fc64 fo64 fz64 Try.underlying65 fc65 fo65 fz65 Try.underlying66 fc66 fo66 fz66 Try.underlying67 fc67 fo67 fz67 Try.underlying68 fc68 fo68 fz68 Try.underlying69 fc69 fo69 fz69 Try.underlying70 fc70 fo70 fz70 Try.underlying71 fc71 fa71 fz71 fk71_0 ff71_0 ft71_0 fk71_1 ff71_1 ft71_1 fk71_2 ff71_2 ft71_2 fk71_3 ff71_3 ft71_3 Try.underlying72 fc72 fa72 fz72 fk72_0 ff72_0 ft72_0 fk72_1 ff72_1 ft72_1 fk72_2 ff72_2 ft72_2 fk72_3 ff72_3 ft72_3 Try.underlying73 fc73 fa73 fz73 Try.underlying74 fc74 fa74 fz74 Try.underlying75 fc75 fa75 fz75 Try.underlying76 fc76 fo76 fz76 Try.underlying77 fc77 fo77 fz77 Try.underlying78 fc78 fo78 fz78 Try.underlying79 fc79 fo79 fz79 Try.underlying80 fc80 fo80 fz80 Try.underlying81 fc81 fo81 fz81 Try.underlying82 fc82 fo82 fz82 Try.underlying83 fc83 fa83 fz83 fk83_0 ff83_0 ft83_0 fk83_1 ff83_1 ft83_1 fk83_2 ff83_2 ft83_2 fk83_3 ff83_3 ft83_3 fk83_4 ff83_4 ft83_4 fk83_5 ff83_5 ft83_5 fk83_6 ff83_6 ft83_6 fk83_7 ff83_7 ft83_7 fk83_8 ff83_8 ft83_8 fk83_9 ff83_9 ft83_9 fk83_10 ff83_10 ft83_10 Try.underlying84 fc84 fa84 fz84 fk84_0 ff84_0 ft84_0 fk84_1 ff84_1 ft84_1 fk84_2 ff84_2 ft84_2 fk84_3 ff84_3 ft84_3 fk84_4 ff84_4 ft84_4 fk84_5 ff84_5 ft84_5 fk84_6 ff84_6 ft84_6 fk84_7 ff84_7 ft84_7 fk84_8 ff84_8 ft84_8 fk84_9 ff84_9 ft84_9 fk84_10 ff84_10 ft84_10 Try.underlying85 fc85 fo85
end Go.Proofs
