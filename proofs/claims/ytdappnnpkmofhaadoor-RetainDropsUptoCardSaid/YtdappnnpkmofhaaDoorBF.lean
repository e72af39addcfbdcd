/- Facts of the types, each closed. -/
import Derived.Test.YtdappnnpkmofhaaDoorProg
import Derived.Test.YtdappnnpkmofhaaDoorAbRun2
set_option linter.unusedSimpArgs false
set_option linter.unusedVariables false
namespace Go.Proofs
open Go Go.Abs
theorem fol : Tryd.prog.follows .mixedOrders = true := by kernel_rfl
theorem fc1 : Tryd.prog.cellsOf 1 = 1 := by kernel_rfl
theorem fo1 : isOne Tryd.prog 1 = true := by kernel_rfl
theorem fz1 : zeroCells Tryd.prog 1 = some [.lit .nilFunc] := by kernel_rfl
theorem fc2 : Tryd.prog.cellsOf 2 = 1 := by kernel_rfl
theorem fo2 : isOne Tryd.prog 2 = true := by kernel_rfl
theorem fz2 : zeroCells Tryd.prog 2 = some [.lit (.int .i64 0)] := by kernel_rfl
theorem fc3 : Tryd.prog.cellsOf 3 = 1 := by kernel_rfl
theorem fo3 : isOne Tryd.prog 3 = true := by kernel_rfl
theorem fz3 : zeroCells Tryd.prog 3 = some [.lit (.int .i64 0)] := by kernel_rfl
theorem fc4 : Tryd.prog.cellsOf 4 = 1 := by kernel_rfl
theorem fo4 : isOne Tryd.prog 4 = true := by kernel_rfl
theorem fz4 : zeroCells Tryd.prog 4 = some [.lit (.bool false)] := by kernel_rfl
theorem fc5 : Tryd.prog.cellsOf 5 = 1 := by kernel_rfl
theorem fo5 : isOne Tryd.prog 5 = true := by kernel_rfl
theorem fz5 : zeroCells Tryd.prog 5 = some [.lit (.int .u8 0)] := by kernel_rfl
theorem fc6 : Tryd.prog.cellsOf 6 = 1 := by kernel_rfl
theorem fo6 : isOne Tryd.prog 6 = true := by kernel_rfl
theorem fz6 : zeroCells Tryd.prog 6 = some [.lit (.int .u8 0)] := by kernel_rfl
theorem fc7 : Tryd.prog.cellsOf 7 = 4 := by kernel_rfl
theorem fa7 : isAggT Tryd.prog 7 = true := by kernel_rfl
theorem fz7 : zeroCells Tryd.prog 7 = some [.lit (.int .i64 0), .lit (.int .i64 0), .lit (.bool false), .lit (.int .u8 0)] := by kernel_rfl
theorem fk7_0 : fldOk Tryd.prog 7 0 = true := by kernel_rfl
theorem ff7_0 : offOf Tryd.prog 7 0 = 0 := by kernel_rfl
theorem ft7_0 : typOf Tryd.prog 7 0 = 2 := by kernel_rfl
theorem fk7_1 : fldOk Tryd.prog 7 1 = true := by kernel_rfl
theorem ff7_1 : offOf Tryd.prog 7 1 = 1 := by kernel_rfl
theorem ft7_1 : typOf Tryd.prog 7 1 = 3 := by kernel_rfl
theorem fk7_2 : fldOk Tryd.prog 7 2 = true := by kernel_rfl
theorem ff7_2 : offOf Tryd.prog 7 2 = 2 := by kernel_rfl
theorem ft7_2 : typOf Tryd.prog 7 2 = 4 := by kernel_rfl
theorem fk7_3 : fldOk Tryd.prog 7 3 = true := by kernel_rfl
theorem ff7_3 : offOf Tryd.prog 7 3 = 3 := by kernel_rfl
theorem ft7_3 : typOf Tryd.prog 7 3 = 6 := by kernel_rfl
theorem fc8 : Tryd.prog.cellsOf 8 = 4 := by kernel_rfl
theorem fa8 : isAggT Tryd.prog 8 = true := by kernel_rfl
theorem fz8 : zeroCells Tryd.prog 8 = some [.lit (.int .i64 0), .lit (.int .i64 0), .lit (.bool false), .lit (.int .u8 0)] := by kernel_rfl
theorem fk8_0 : fldOk Tryd.prog 8 0 = true := by kernel_rfl
theorem ff8_0 : offOf Tryd.prog 8 0 = 0 := by kernel_rfl
theorem ft8_0 : typOf Tryd.prog 8 0 = 2 := by kernel_rfl
theorem fk8_1 : fldOk Tryd.prog 8 1 = true := by kernel_rfl
theorem ff8_1 : offOf Tryd.prog 8 1 = 1 := by kernel_rfl
theorem ft8_1 : typOf Tryd.prog 8 1 = 3 := by kernel_rfl
theorem fk8_2 : fldOk Tryd.prog 8 2 = true := by kernel_rfl
theorem ff8_2 : offOf Tryd.prog 8 2 = 2 := by kernel_rfl
theorem ft8_2 : typOf Tryd.prog 8 2 = 4 := by kernel_rfl
theorem fk8_3 : fldOk Tryd.prog 8 3 = true := by kernel_rfl
theorem ff8_3 : offOf Tryd.prog 8 3 = 3 := by kernel_rfl
theorem ft8_3 : typOf Tryd.prog 8 3 = 6 := by kernel_rfl
theorem fc9 : Tryd.prog.cellsOf 9 = 1 := by kernel_rfl
theorem fo9 : isOne Tryd.prog 9 = true := by kernel_rfl
theorem fz9 : zeroCells Tryd.prog 9 = some [.lit (.string ByteArray.empty)] := by kernel_rfl
theorem fs9 : isSlStr Tryd.prog 9 = true := by kernel_rfl
theorem fc10 : Tryd.prog.cellsOf 10 = 1 := by kernel_rfl
theorem fo10 : isOne Tryd.prog 10 = true := by kernel_rfl
theorem fz10 : zeroCells Tryd.prog 10 = some [.lit (.string ByteArray.empty)] := by kernel_rfl
theorem fs10 : isSlStr Tryd.prog 10 = true := by kernel_rfl
theorem fc11 : Tryd.prog.cellsOf 11 = 1 := by kernel_rfl
theorem fo11 : isOne Tryd.prog 11 = true := by kernel_rfl
theorem fz11 : zeroCells Tryd.prog 11 = some [.lit (.string ByteArray.empty)] := by kernel_rfl
theorem fs11 : isSlStr Tryd.prog 11 = true := by kernel_rfl
theorem fc12 : Tryd.prog.cellsOf 12 = 1 := by kernel_rfl
theorem fo12 : isOne Tryd.prog 12 = true := by kernel_rfl
theorem fz12 : zeroCells Tryd.prog 12 = some [.lit (.int .u64 0)] := by kernel_rfl
theorem fc13 : Tryd.prog.cellsOf 13 = 2 := by kernel_rfl
theorem fa13 : isAggT Tryd.prog 13 = true := by kernel_rfl
theorem fz13 : zeroCells Tryd.prog 13 = some [.lit (.string ByteArray.empty), .lit (.int .u64 0)] := by kernel_rfl
theorem fk13_0 : fldOk Tryd.prog 13 0 = true := by kernel_rfl
theorem ff13_0 : offOf Tryd.prog 13 0 = 0 := by kernel_rfl
theorem ft13_0 : typOf Tryd.prog 13 0 = 9 := by kernel_rfl
theorem fk13_1 : fldOk Tryd.prog 13 1 = true := by kernel_rfl
theorem ff13_1 : offOf Tryd.prog 13 1 = 1 := by kernel_rfl
theorem ft13_1 : typOf Tryd.prog 13 1 = 12 := by kernel_rfl
theorem fc14 : Tryd.prog.cellsOf 14 = 2 := by kernel_rfl
theorem fa14 : isAggT Tryd.prog 14 = true := by kernel_rfl
theorem fz14 : zeroCells Tryd.prog 14 = some [.lit (.string ByteArray.empty), .lit (.int .u64 0)] := by kernel_rfl
theorem fk14_0 : fldOk Tryd.prog 14 0 = true := by kernel_rfl
theorem ff14_0 : offOf Tryd.prog 14 0 = 0 := by kernel_rfl
theorem ft14_0 : typOf Tryd.prog 14 0 = 9 := by kernel_rfl
theorem fk14_1 : fldOk Tryd.prog 14 1 = true := by kernel_rfl
theorem ff14_1 : offOf Tryd.prog 14 1 = 1 := by kernel_rfl
theorem ft14_1 : typOf Tryd.prog 14 1 = 12 := by kernel_rfl
theorem fc15 : Tryd.prog.cellsOf 15 = 1 := by kernel_rfl
theorem fo15 : isOne Tryd.prog 15 = true := by kernel_rfl
theorem fz15 : zeroCells Tryd.prog 15 = some [.lit (.pointer none)] := by kernel_rfl
theorem fc16 : Tryd.prog.cellsOf 16 = 1 := by kernel_rfl
theorem fo16 : isOne Tryd.prog 16 = true := by kernel_rfl
theorem fz16 : zeroCells Tryd.prog 16 = some [.lit (.pointer none)] := by kernel_rfl
theorem fc17 : Tryd.prog.cellsOf 17 = 1 := by kernel_rfl
theorem fo17 : isOne Tryd.prog 17 = true := by kernel_rfl
theorem fz17 : zeroCells Tryd.prog 17 = some [.lit (.pointer none)] := by kernel_rfl
theorem fc18 : Tryd.prog.cellsOf 18 = 1 := by kernel_rfl
theorem fa18 : isAggT Tryd.prog 18 = true := by kernel_rfl
theorem fz18 : zeroCells Tryd.prog 18 = some [.lit (.pointer none)] := by kernel_rfl
theorem fk18_0 : fldOk Tryd.prog 18 0 = true := by kernel_rfl
theorem ff18_0 : offOf Tryd.prog 18 0 = 0 := by kernel_rfl
theorem ft18_0 : typOf Tryd.prog 18 0 = 17 := by kernel_rfl
theorem fc19 : Tryd.prog.cellsOf 19 = 1 := by kernel_rfl
theorem fa19 : isAggT Tryd.prog 19 = true := by kernel_rfl
theorem fz19 : zeroCells Tryd.prog 19 = some [.lit (.pointer none)] := by kernel_rfl
theorem fk19_0 : fldOk Tryd.prog 19 0 = true := by kernel_rfl
theorem ff19_0 : offOf Tryd.prog 19 0 = 0 := by kernel_rfl
theorem ft19_0 : typOf Tryd.prog 19 0 = 17 := by kernel_rfl
theorem fc20 : Tryd.prog.cellsOf 20 = 1 := by kernel_rfl
theorem fo20 : isOne Tryd.prog 20 = true := by kernel_rfl
theorem fz20 : zeroCells Tryd.prog 20 = some [.lit .nilIface] := by kernel_rfl
theorem fc21 : Tryd.prog.cellsOf 21 = 1 := by kernel_rfl
theorem fo21 : isOne Tryd.prog 21 = true := by kernel_rfl
theorem fz21 : zeroCells Tryd.prog 21 = some [.lit (.int .i32 0)] := by kernel_rfl
theorem fc22 : Tryd.prog.cellsOf 22 = 1 := by kernel_rfl
theorem fo22 : isOne Tryd.prog 22 = true := by kernel_rfl
theorem fz22 : zeroCells Tryd.prog 22 = some [.lit (.slice none 0 0)] := by kernel_rfl
theorem fs22 : isSlStr Tryd.prog 22 = true := by kernel_rfl
theorem fp22 : apOk Tryd.prog 22 = true := by kernel_rfl
theorem fq22 : kOf Tryd.prog 22 = 10 := by kernel_rfl
theorem fb22 : bOf Tryd.prog 22 = 144 := by kernel_rfl
theorem fc23 : Tryd.prog.cellsOf 23 = 1 := by kernel_rfl
theorem fo23 : isOne Tryd.prog 23 = true := by kernel_rfl
theorem fz23 : zeroCells Tryd.prog 23 = some [.lit .nilFunc] := by kernel_rfl
theorem fc24 : Tryd.prog.cellsOf 24 = 1 := by kernel_rfl
theorem fo24 : isOne Tryd.prog 24 = true := by kernel_rfl
theorem fz24 : zeroCells Tryd.prog 24 = some [.lit (.slice none 0 0)] := by kernel_rfl
theorem fs24 : isSlStr Tryd.prog 24 = true := by kernel_rfl
theorem fp24 : apOk Tryd.prog 24 = true := by kernel_rfl
theorem fq24 : kOf Tryd.prog 24 = 7 := by kernel_rfl
theorem fb24 : bOf Tryd.prog 24 = 96 := by kernel_rfl
theorem fc25 : Tryd.prog.cellsOf 25 = 1 := by kernel_rfl
theorem fo25 : isOne Tryd.prog 25 = true := by kernel_rfl
theorem fz25 : zeroCells Tryd.prog 25 = some [.lit (.slice none 0 0)] := by kernel_rfl
theorem fs25 : isSlStr Tryd.prog 25 = true := by kernel_rfl
theorem fp25 : apOk Tryd.prog 25 = true := by kernel_rfl
theorem fq25 : kOf Tryd.prog 25 = 4 := by kernel_rfl
theorem fb25 : bOf Tryd.prog 25 = 48 := by kernel_rfl
theorem fc26 : Tryd.prog.cellsOf 26 = 7 := by kernel_rfl
theorem fa26 : isAggT Tryd.prog 26 = true := by kernel_rfl
theorem fz26 : zeroCells Tryd.prog 26 = some [.lit (.string ByteArray.empty), .lit (.string ByteArray.empty), .lit (.int .i64 0), .lit (.bool false), .lit (.string ByteArray.empty), .lit (.int .i64 0), .lit (.slice none 0 0)] := by kernel_rfl
theorem fk26_0 : fldOk Tryd.prog 26 0 = true := by kernel_rfl
theorem ff26_0 : offOf Tryd.prog 26 0 = 0 := by kernel_rfl
theorem ft26_0 : typOf Tryd.prog 26 0 = 9 := by kernel_rfl
theorem fk26_1 : fldOk Tryd.prog 26 1 = true := by kernel_rfl
theorem ff26_1 : offOf Tryd.prog 26 1 = 1 := by kernel_rfl
theorem ft26_1 : typOf Tryd.prog 26 1 = 9 := by kernel_rfl
theorem fk26_2 : fldOk Tryd.prog 26 2 = true := by kernel_rfl
theorem ff26_2 : offOf Tryd.prog 26 2 = 2 := by kernel_rfl
theorem ft26_2 : typOf Tryd.prog 26 2 = 3 := by kernel_rfl
theorem fk26_3 : fldOk Tryd.prog 26 3 = true := by kernel_rfl
theorem ff26_3 : offOf Tryd.prog 26 3 = 3 := by kernel_rfl
theorem ft26_3 : typOf Tryd.prog 26 3 = 4 := by kernel_rfl
theorem fk26_4 : fldOk Tryd.prog 26 4 = true := by kernel_rfl
theorem ff26_4 : offOf Tryd.prog 26 4 = 4 := by kernel_rfl
theorem ft26_4 : typOf Tryd.prog 26 4 = 9 := by kernel_rfl
theorem fk26_5 : fldOk Tryd.prog 26 5 = true := by kernel_rfl
theorem ff26_5 : offOf Tryd.prog 26 5 = 5 := by kernel_rfl
theorem ft26_5 : typOf Tryd.prog 26 5 = 3 := by kernel_rfl
theorem fk26_6 : fldOk Tryd.prog 26 6 = true := by kernel_rfl
theorem ff26_6 : offOf Tryd.prog 26 6 = 6 := by kernel_rfl
theorem ft26_6 : typOf Tryd.prog 26 6 = 25 := by kernel_rfl
theorem fc27 : Tryd.prog.cellsOf 27 = 7 := by kernel_rfl
theorem fa27 : isAggT Tryd.prog 27 = true := by kernel_rfl
theorem fz27 : zeroCells Tryd.prog 27 = some [.lit (.string ByteArray.empty), .lit (.string ByteArray.empty), .lit (.int .i64 0), .lit (.bool false), .lit (.string ByteArray.empty), .lit (.int .i64 0), .lit (.slice none 0 0)] := by kernel_rfl
theorem fk27_0 : fldOk Tryd.prog 27 0 = true := by kernel_rfl
theorem ff27_0 : offOf Tryd.prog 27 0 = 0 := by kernel_rfl
theorem ft27_0 : typOf Tryd.prog 27 0 = 9 := by kernel_rfl
theorem fk27_1 : fldOk Tryd.prog 27 1 = true := by kernel_rfl
theorem ff27_1 : offOf Tryd.prog 27 1 = 1 := by kernel_rfl
theorem ft27_1 : typOf Tryd.prog 27 1 = 9 := by kernel_rfl
theorem fk27_2 : fldOk Tryd.prog 27 2 = true := by kernel_rfl
theorem ff27_2 : offOf Tryd.prog 27 2 = 2 := by kernel_rfl
theorem ft27_2 : typOf Tryd.prog 27 2 = 3 := by kernel_rfl
theorem fk27_3 : fldOk Tryd.prog 27 3 = true := by kernel_rfl
theorem ff27_3 : offOf Tryd.prog 27 3 = 3 := by kernel_rfl
theorem ft27_3 : typOf Tryd.prog 27 3 = 4 := by kernel_rfl
theorem fk27_4 : fldOk Tryd.prog 27 4 = true := by kernel_rfl
theorem ff27_4 : offOf Tryd.prog 27 4 = 4 := by kernel_rfl
theorem ft27_4 : typOf Tryd.prog 27 4 = 9 := by kernel_rfl
theorem fk27_5 : fldOk Tryd.prog 27 5 = true := by kernel_rfl
theorem ff27_5 : offOf Tryd.prog 27 5 = 5 := by kernel_rfl
theorem ft27_5 : typOf Tryd.prog 27 5 = 3 := by kernel_rfl
theorem fk27_6 : fldOk Tryd.prog 27 6 = true := by kernel_rfl
theorem ff27_6 : offOf Tryd.prog 27 6 = 6 := by kernel_rfl
theorem ft27_6 : typOf Tryd.prog 27 6 = 25 := by kernel_rfl
theorem fc28 : Tryd.prog.cellsOf 28 = 10 := by kernel_rfl
theorem fa28 : isAggT Tryd.prog 28 = true := by kernel_rfl
theorem fz28 : zeroCells Tryd.prog 28 = some [.lit (.slice none 0 0), .lit (.string ByteArray.empty), .lit (.string ByteArray.empty), .lit (.int .i64 0), .lit (.bool false), .lit (.string ByteArray.empty), .lit (.int .i64 0), .lit (.slice none 0 0), .lit (.string ByteArray.empty), .lit (.int .i64 0)] := by kernel_rfl
theorem fk28_0 : fldOk Tryd.prog 28 0 = true := by kernel_rfl
theorem ff28_0 : offOf Tryd.prog 28 0 = 0 := by kernel_rfl
theorem ft28_0 : typOf Tryd.prog 28 0 = 24 := by kernel_rfl
theorem fk28_1 : fldOk Tryd.prog 28 1 = true := by kernel_rfl
theorem ff28_1 : offOf Tryd.prog 28 1 = 1 := by kernel_rfl
theorem ft28_1 : typOf Tryd.prog 28 1 = 27 := by kernel_rfl
theorem fk28_2 : fldOk Tryd.prog 28 2 = true := by kernel_rfl
theorem ff28_2 : offOf Tryd.prog 28 2 = 8 := by kernel_rfl
theorem ft28_2 : typOf Tryd.prog 28 2 = 9 := by kernel_rfl
theorem fk28_3 : fldOk Tryd.prog 28 3 = true := by kernel_rfl
theorem ff28_3 : offOf Tryd.prog 28 3 = 9 := by kernel_rfl
theorem ft28_3 : typOf Tryd.prog 28 3 = 3 := by kernel_rfl
theorem fc29 : Tryd.prog.cellsOf 29 = 10 := by kernel_rfl
theorem fa29 : isAggT Tryd.prog 29 = true := by kernel_rfl
theorem fz29 : zeroCells Tryd.prog 29 = some [.lit (.slice none 0 0), .lit (.string ByteArray.empty), .lit (.string ByteArray.empty), .lit (.int .i64 0), .lit (.bool false), .lit (.string ByteArray.empty), .lit (.int .i64 0), .lit (.slice none 0 0), .lit (.string ByteArray.empty), .lit (.int .i64 0)] := by kernel_rfl
theorem fk29_0 : fldOk Tryd.prog 29 0 = true := by kernel_rfl
theorem ff29_0 : offOf Tryd.prog 29 0 = 0 := by kernel_rfl
theorem ft29_0 : typOf Tryd.prog 29 0 = 24 := by kernel_rfl
theorem fk29_1 : fldOk Tryd.prog 29 1 = true := by kernel_rfl
theorem ff29_1 : offOf Tryd.prog 29 1 = 1 := by kernel_rfl
theorem ft29_1 : typOf Tryd.prog 29 1 = 27 := by kernel_rfl
theorem fk29_2 : fldOk Tryd.prog 29 2 = true := by kernel_rfl
theorem ff29_2 : offOf Tryd.prog 29 2 = 8 := by kernel_rfl
theorem ft29_2 : typOf Tryd.prog 29 2 = 9 := by kernel_rfl
theorem fk29_3 : fldOk Tryd.prog 29 3 = true := by kernel_rfl
theorem ff29_3 : offOf Tryd.prog 29 3 = 9 := by kernel_rfl
theorem ft29_3 : typOf Tryd.prog 29 3 = 3 := by kernel_rfl
theorem fc30 : Tryd.prog.cellsOf 30 = 1 := by kernel_rfl
theorem fo30 : isOne Tryd.prog 30 = true := by kernel_rfl
theorem fz30 : zeroCells Tryd.prog 30 = some [.lit .nilIface] := by kernel_rfl
theorem fc31 : Tryd.prog.cellsOf 31 = 1 := by kernel_rfl
theorem fo31 : isOne Tryd.prog 31 = true := by kernel_rfl
theorem fz31 : zeroCells Tryd.prog 31 = some [.lit .nilIface] := by kernel_rfl
theorem fc33 : Tryd.prog.cellsOf 33 = 1 := by kernel_rfl
theorem fo33 : isOne Tryd.prog 33 = true := by kernel_rfl
theorem fz33 : zeroCells Tryd.prog 33 = some [.lit .nilFunc] := by kernel_rfl
theorem fc34 : Tryd.prog.cellsOf 34 = 1 := by kernel_rfl
theorem fo34 : isOne Tryd.prog 34 = true := by kernel_rfl
theorem fz34 : zeroCells Tryd.prog 34 = some [.lit .nilFunc] := by kernel_rfl
theorem fc35 : Tryd.prog.cellsOf 35 = 1 := by kernel_rfl
theorem fo35 : isOne Tryd.prog 35 = true := by kernel_rfl
theorem fz35 : zeroCells Tryd.prog 35 = some [.lit .nilFunc] := by kernel_rfl
theorem fc37 : Tryd.prog.cellsOf 37 = 1 := by kernel_rfl
theorem fo37 : isOne Tryd.prog 37 = true := by kernel_rfl
theorem fz37 : zeroCells Tryd.prog 37 = some [.lit .nilFunc] := by kernel_rfl
theorem fc38 : Tryd.prog.cellsOf 38 = 1 := by kernel_rfl
theorem fo38 : isOne Tryd.prog 38 = true := by kernel_rfl
theorem fz38 : zeroCells Tryd.prog 38 = some [.lit .nilFunc] := by kernel_rfl
theorem fc39 : Tryd.prog.cellsOf 39 = 1 := by kernel_rfl
theorem fo39 : isOne Tryd.prog 39 = true := by kernel_rfl
theorem fz39 : zeroCells Tryd.prog 39 = some [.lit .nilFunc] := by kernel_rfl
theorem fc40 : Tryd.prog.cellsOf 40 = 1 := by kernel_rfl
theorem fo40 : isOne Tryd.prog 40 = true := by kernel_rfl
theorem fz40 : zeroCells Tryd.prog 40 = some [.lit .nilFunc] := by kernel_rfl
theorem fc41 : Tryd.prog.cellsOf 41 = 1 := by kernel_rfl
theorem fo41 : isOne Tryd.prog 41 = true := by kernel_rfl
theorem fz41 : zeroCells Tryd.prog 41 = some [.lit .nilFunc] := by kernel_rfl
theorem fc42 : Tryd.prog.cellsOf 42 = 1 := by kernel_rfl
theorem fo42 : isOne Tryd.prog 42 = true := by kernel_rfl
theorem fz42 : zeroCells Tryd.prog 42 = some [.lit .nilFunc] := by kernel_rfl
theorem fc43 : Tryd.prog.cellsOf 43 = 1 := by kernel_rfl
theorem fo43 : isOne Tryd.prog 43 = true := by kernel_rfl
theorem fz43 : zeroCells Tryd.prog 43 = some [.lit .nilFunc] := by kernel_rfl
theorem fc44 : Tryd.prog.cellsOf 44 = 1 := by kernel_rfl
theorem fo44 : isOne Tryd.prog 44 = true := by kernel_rfl
theorem fz44 : zeroCells Tryd.prog 44 = some [.lit .nilFunc] := by kernel_rfl
theorem fc45 : Tryd.prog.cellsOf 45 = 1 := by kernel_rfl
theorem fo45 : isOne Tryd.prog 45 = true := by kernel_rfl
theorem fz45 : zeroCells Tryd.prog 45 = some [.lit (.int .i64 0)] := by kernel_rfl
theorem fc46 : Tryd.prog.cellsOf 46 = 1 := by kernel_rfl
theorem fo46 : isOne Tryd.prog 46 = true := by kernel_rfl
theorem fz46 : zeroCells Tryd.prog 46 = some [.lit .nilFunc] := by kernel_rfl
theorem fc48 : Tryd.prog.cellsOf 48 = 1 := by kernel_rfl
theorem fo48 : isOne Tryd.prog 48 = true := by kernel_rfl
theorem fz48 : zeroCells Tryd.prog 48 = some [.lit .nilFunc] := by kernel_rfl
theorem fc49 : Tryd.prog.cellsOf 49 = 1 := by kernel_rfl
theorem fo49 : isOne Tryd.prog 49 = true := by kernel_rfl
theorem fz49 : zeroCells Tryd.prog 49 = some [.lit .nilFunc] := by kernel_rfl
theorem fc50 : Tryd.prog.cellsOf 50 = 1 := by kernel_rfl
theorem fo50 : isOne Tryd.prog 50 = true := by kernel_rfl
theorem fz50 : zeroCells Tryd.prog 50 = some [.lit .nilFunc] := by kernel_rfl
theorem fc51 : Tryd.prog.cellsOf 51 = 1 := by kernel_rfl
theorem fo51 : isOne Tryd.prog 51 = true := by kernel_rfl
theorem fz51 : zeroCells Tryd.prog 51 = some [.lit .nilFunc] := by kernel_rfl
theorem fc52 : Tryd.prog.cellsOf 52 = 1 := by kernel_rfl
theorem fo52 : isOne Tryd.prog 52 = true := by kernel_rfl
theorem fz52 : zeroCells Tryd.prog 52 = some [.lit .nilFunc] := by kernel_rfl
theorem fc53 : Tryd.prog.cellsOf 53 = 1 := by kernel_rfl
theorem fo53 : isOne Tryd.prog 53 = true := by kernel_rfl
theorem fz53 : zeroCells Tryd.prog 53 = some [.lit .nilFunc] := by kernel_rfl
theorem fc54 : Tryd.prog.cellsOf 54 = 1 := by kernel_rfl
theorem fo54 : isOne Tryd.prog 54 = true := by kernel_rfl
theorem fz54 : zeroCells Tryd.prog 54 = some [.lit .nilFunc] := by kernel_rfl
theorem fc55 : Tryd.prog.cellsOf 55 = 1 := by kernel_rfl
theorem fo55 : isOne Tryd.prog 55 = true := by kernel_rfl
theorem fz55 : zeroCells Tryd.prog 55 = some [.lit .nilFunc] := by kernel_rfl
theorem fc56 : Tryd.prog.cellsOf 56 = 1 := by kernel_rfl
theorem fo56 : isOne Tryd.prog 56 = true := by kernel_rfl
theorem fz56 : zeroCells Tryd.prog 56 = some [.lit .nilFunc] := by kernel_rfl
theorem fc57 : Tryd.prog.cellsOf 57 = 1 := by kernel_rfl
theorem fo57 : isOne Tryd.prog 57 = true := by kernel_rfl
theorem fz57 : zeroCells Tryd.prog 57 = some [.lit .nilFunc] := by kernel_rfl
theorem fc58 : Tryd.prog.cellsOf 58 = 1 := by kernel_rfl
theorem fo58 : isOne Tryd.prog 58 = true := by kernel_rfl
theorem fz58 : zeroCells Tryd.prog 58 = some [.lit .nilFunc] := by kernel_rfl
theorem fc59 : Tryd.prog.cellsOf 59 = 1 := by kernel_rfl
theorem fo59 : isOne Tryd.prog 59 = true := by kernel_rfl
theorem fz59 : zeroCells Tryd.prog 59 = some [.lit .nilFunc] := by kernel_rfl
theorem fc60 : Tryd.prog.cellsOf 60 = 1 := by kernel_rfl
theorem fo60 : isOne Tryd.prog 60 = true := by kernel_rfl
theorem fz60 : zeroCells Tryd.prog 60 = some [.lit (.pointer none)] := by kernel_rfl
theorem fc61 : Tryd.prog.cellsOf 61 = 2 := by kernel_rfl
theorem fa61 : isAggT Tryd.prog 61 = true := by kernel_rfl
theorem fz61 : zeroCells Tryd.prog 61 = some [.lit (.string ByteArray.empty), .lit .nilIface] := by kernel_rfl
theorem fk61_0 : fldOk Tryd.prog 61 0 = true := by kernel_rfl
theorem ff61_0 : offOf Tryd.prog 61 0 = 0 := by kernel_rfl
theorem ft61_0 : typOf Tryd.prog 61 0 = 9 := by kernel_rfl
theorem fk61_1 : fldOk Tryd.prog 61 1 = true := by kernel_rfl
theorem ff61_1 : offOf Tryd.prog 61 1 = 1 := by kernel_rfl
theorem ft61_1 : typOf Tryd.prog 61 1 = 31 := by kernel_rfl
theorem fc62 : Tryd.prog.cellsOf 62 = 2 := by kernel_rfl
theorem fa62 : isAggT Tryd.prog 62 = true := by kernel_rfl
theorem fz62 : zeroCells Tryd.prog 62 = some [.lit (.string ByteArray.empty), .lit .nilIface] := by kernel_rfl
theorem fk62_0 : fldOk Tryd.prog 62 0 = true := by kernel_rfl
theorem ff62_0 : offOf Tryd.prog 62 0 = 0 := by kernel_rfl
theorem ft62_0 : typOf Tryd.prog 62 0 = 9 := by kernel_rfl
theorem fk62_1 : fldOk Tryd.prog 62 1 = true := by kernel_rfl
theorem ff62_1 : offOf Tryd.prog 62 1 = 1 := by kernel_rfl
theorem ft62_1 : typOf Tryd.prog 62 1 = 31 := by kernel_rfl
theorem fc63 : Tryd.prog.cellsOf 63 = 1 := by kernel_rfl
theorem fo63 : isOne Tryd.prog 63 = true := by kernel_rfl
theorem fz63 : zeroCells Tryd.prog 63 = some [.lit (.int .u64 0)] := by kernel_rfl
theorem fc64 : Tryd.prog.cellsOf 64 = 1 := by kernel_rfl
theorem fo64 : isOne Tryd.prog 64 = true := by kernel_rfl
theorem fz64 : zeroCells Tryd.prog 64 = some [.lit .nilFunc] := by kernel_rfl
theorem fc65 : Tryd.prog.cellsOf 65 = 1 := by kernel_rfl
theorem fo65 : isOne Tryd.prog 65 = true := by kernel_rfl
theorem fz65 : zeroCells Tryd.prog 65 = some [.lit .nilFunc] := by kernel_rfl
theorem fc66 : Tryd.prog.cellsOf 66 = 1 := by kernel_rfl
theorem fo66 : isOne Tryd.prog 66 = true := by kernel_rfl
theorem fz66 : zeroCells Tryd.prog 66 = some [.lit .nilFunc] := by kernel_rfl
theorem fc67 : Tryd.prog.cellsOf 67 = 1 := by kernel_rfl
theorem fo67 : isOne Tryd.prog 67 = true := by kernel_rfl
theorem fz67 : zeroCells Tryd.prog 67 = some [.lit (.slice none 0 0)] := by kernel_rfl
theorem fs67 : isSlStr Tryd.prog 67 = true := by kernel_rfl
theorem fp67 : apOk Tryd.prog 67 = true := by kernel_rfl
theorem fq67 : kOf Tryd.prog 67 = 1 := by kernel_rfl
theorem fb67 : bOf Tryd.prog 67 = 16 := by kernel_rfl
theorem fc68 : Tryd.prog.cellsOf 68 = 1 := by kernel_rfl
theorem fo68 : isOne Tryd.prog 68 = true := by kernel_rfl
theorem fz68 : zeroCells Tryd.prog 68 = some [.lit .nilFunc] := by kernel_rfl
theorem fc69 : Tryd.prog.cellsOf 69 = 1 := by kernel_rfl
theorem fo69 : isOne Tryd.prog 69 = true := by kernel_rfl
theorem fz69 : zeroCells Tryd.prog 69 = some [.lit .nilFunc] := by kernel_rfl
theorem fc70 : Tryd.prog.cellsOf 70 = 1 := by kernel_rfl
theorem fo70 : isOne Tryd.prog 70 = true := by kernel_rfl
theorem fz70 : zeroCells Tryd.prog 70 = some [.lit (.pointer none)] := by kernel_rfl
theorem fc71 : Tryd.prog.cellsOf 71 = 1 := by kernel_rfl
theorem fo71 : isOne Tryd.prog 71 = true := by kernel_rfl
theorem fz71 : zeroCells Tryd.prog 71 = some [.lit .nilFunc] := by kernel_rfl
theorem fc72 : Tryd.prog.cellsOf 72 = 1 := by kernel_rfl
theorem fo72 : isOne Tryd.prog 72 = true := by kernel_rfl
theorem fz72 : zeroCells Tryd.prog 72 = some [.lit .nilFunc] := by kernel_rfl
theorem fc73 : Tryd.prog.cellsOf 73 = 4 := by kernel_rfl
theorem fa73 : isAggT Tryd.prog 73 = true := by kernel_rfl
theorem fz73 : zeroCells Tryd.prog 73 = some [.lit (.int .i64 0), .lit (.int .i64 0), .lit (.string ByteArray.empty), .lit (.string ByteArray.empty)] := by kernel_rfl
theorem fk73_0 : fldOk Tryd.prog 73 0 = true := by kernel_rfl
theorem ff73_0 : offOf Tryd.prog 73 0 = 0 := by kernel_rfl
theorem ft73_0 : typOf Tryd.prog 73 0 = 3 := by kernel_rfl
theorem fk73_1 : fldOk Tryd.prog 73 1 = true := by kernel_rfl
theorem ff73_1 : offOf Tryd.prog 73 1 = 1 := by kernel_rfl
theorem ft73_1 : typOf Tryd.prog 73 1 = 3 := by kernel_rfl
theorem fk73_2 : fldOk Tryd.prog 73 2 = true := by kernel_rfl
theorem ff73_2 : offOf Tryd.prog 73 2 = 2 := by kernel_rfl
theorem ft73_2 : typOf Tryd.prog 73 2 = 9 := by kernel_rfl
theorem fk73_3 : fldOk Tryd.prog 73 3 = true := by kernel_rfl
theorem ff73_3 : offOf Tryd.prog 73 3 = 3 := by kernel_rfl
theorem ft73_3 : typOf Tryd.prog 73 3 = 9 := by kernel_rfl
theorem fc74 : Tryd.prog.cellsOf 74 = 4 := by kernel_rfl
theorem fa74 : isAggT Tryd.prog 74 = true := by kernel_rfl
theorem fz74 : zeroCells Tryd.prog 74 = some [.lit (.int .i64 0), .lit (.int .i64 0), .lit (.string ByteArray.empty), .lit (.string ByteArray.empty)] := by kernel_rfl
theorem fk74_0 : fldOk Tryd.prog 74 0 = true := by kernel_rfl
theorem ff74_0 : offOf Tryd.prog 74 0 = 0 := by kernel_rfl
theorem ft74_0 : typOf Tryd.prog 74 0 = 3 := by kernel_rfl
theorem fk74_1 : fldOk Tryd.prog 74 1 = true := by kernel_rfl
theorem ff74_1 : offOf Tryd.prog 74 1 = 1 := by kernel_rfl
theorem ft74_1 : typOf Tryd.prog 74 1 = 3 := by kernel_rfl
theorem fk74_2 : fldOk Tryd.prog 74 2 = true := by kernel_rfl
theorem ff74_2 : offOf Tryd.prog 74 2 = 2 := by kernel_rfl
theorem ft74_2 : typOf Tryd.prog 74 2 = 9 := by kernel_rfl
theorem fk74_3 : fldOk Tryd.prog 74 3 = true := by kernel_rfl
theorem ff74_3 : offOf Tryd.prog 74 3 = 3 := by kernel_rfl
theorem ft74_3 : typOf Tryd.prog 74 3 = 9 := by kernel_rfl
theorem fc75 : Tryd.prog.cellsOf 75 = 1 := by kernel_rfl
theorem fo75 : isOne Tryd.prog 75 = true := by kernel_rfl
theorem fz75 : zeroCells Tryd.prog 75 = some [.lit .nilFunc] := by kernel_rfl
theorem fc76 : Tryd.prog.cellsOf 76 = 1 := by kernel_rfl
theorem fo76 : isOne Tryd.prog 76 = true := by kernel_rfl
theorem fz76 : zeroCells Tryd.prog 76 = some [.lit .nilFunc] := by kernel_rfl
theorem fc77 : Tryd.prog.cellsOf 77 = 1 := by kernel_rfl
theorem fo77 : isOne Tryd.prog 77 = true := by kernel_rfl
theorem fz77 : zeroCells Tryd.prog 77 = some [.lit (.slice none 0 0)] := by kernel_rfl
theorem fs77 : isSlStr Tryd.prog 77 = true := by kernel_rfl
theorem fp77 : apOk Tryd.prog 77 = true := by kernel_rfl
theorem fq77 : kOf Tryd.prog 77 = 1 := by kernel_rfl
theorem fb77 : bOf Tryd.prog 77 = 1 := by kernel_rfl
theorem fc78 : Tryd.prog.cellsOf 78 = 1 := by kernel_rfl
theorem fo78 : isOne Tryd.prog 78 = true := by kernel_rfl
theorem fc79 : Tryd.prog.cellsOf 79 = 1 := by kernel_rfl
theorem fo79 : isOne Tryd.prog 79 = true := by kernel_rfl
theorem fz79 : zeroCells Tryd.prog 79 = some [.lit (.int .u64 0)] := by kernel_rfl
theorem fc80 : Tryd.prog.cellsOf 80 = 3 := by kernel_rfl
theorem fa80 : isAggT Tryd.prog 80 = true := by kernel_rfl
theorem fk80_0 : fldOk Tryd.prog 80 0 = true := by kernel_rfl
theorem ff80_0 : offOf Tryd.prog 80 0 = 0 := by kernel_rfl
theorem ft80_0 : typOf Tryd.prog 80 0 = 17 := by kernel_rfl
theorem fk80_1 : fldOk Tryd.prog 80 1 = true := by kernel_rfl
theorem ff80_1 : offOf Tryd.prog 80 1 = 1 := by kernel_rfl
theorem ft80_1 : typOf Tryd.prog 80 1 = 78 := by kernel_rfl
theorem fk80_2 : fldOk Tryd.prog 80 2 = true := by kernel_rfl
theorem ff80_2 : offOf Tryd.prog 80 2 = 2 := by kernel_rfl
theorem ft80_2 : typOf Tryd.prog 80 2 = 79 := by kernel_rfl
theorem fc81 : Tryd.prog.cellsOf 81 = 3 := by kernel_rfl
theorem fa81 : isAggT Tryd.prog 81 = true := by kernel_rfl
theorem fk81_0 : fldOk Tryd.prog 81 0 = true := by kernel_rfl
theorem ff81_0 : offOf Tryd.prog 81 0 = 0 := by kernel_rfl
theorem ft81_0 : typOf Tryd.prog 81 0 = 17 := by kernel_rfl
theorem fk81_1 : fldOk Tryd.prog 81 1 = true := by kernel_rfl
theorem ff81_1 : offOf Tryd.prog 81 1 = 1 := by kernel_rfl
theorem ft81_1 : typOf Tryd.prog 81 1 = 78 := by kernel_rfl
theorem fk81_2 : fldOk Tryd.prog 81 2 = true := by kernel_rfl
theorem ff81_2 : offOf Tryd.prog 81 2 = 2 := by kernel_rfl
theorem ft81_2 : typOf Tryd.prog 81 2 = 79 := by kernel_rfl
theorem fc82 : Tryd.prog.cellsOf 82 = 1 := by kernel_rfl
theorem fo82 : isOne Tryd.prog 82 = true := by kernel_rfl
theorem fz82 : zeroCells Tryd.prog 82 = some [.lit .nilFunc] := by kernel_rfl
theorem fc83 : Tryd.prog.cellsOf 83 = 1 := by kernel_rfl
theorem fo83 : isOne Tryd.prog 83 = true := by kernel_rfl
theorem fz83 : zeroCells Tryd.prog 83 = some [.lit .nilIface] := by kernel_rfl
theorem fc84 : Tryd.prog.cellsOf 84 = 1 := by kernel_rfl
theorem fo84 : isOne Tryd.prog 84 = true := by kernel_rfl
theorem fz84 : zeroCells Tryd.prog 84 = some [.lit .nilIface] := by kernel_rfl
theorem fc85 : Tryd.prog.cellsOf 85 = 1 := by kernel_rfl
theorem fo85 : isOne Tryd.prog 85 = true := by kernel_rfl
theorem fz85 : zeroCells Tryd.prog 85 = some [.lit .nilFunc] := by kernel_rfl
theorem fc86 : Tryd.prog.cellsOf 86 = 1 := by kernel_rfl
theorem fo86 : isOne Tryd.prog 86 = true := by kernel_rfl
theorem fz86 : zeroCells Tryd.prog 86 = some [.lit (.int .u8 0)] := by kernel_rfl
theorem fc87 : Tryd.prog.cellsOf 87 = 1 := by kernel_rfl
theorem fo87 : isOne Tryd.prog 87 = true := by kernel_rfl
theorem fz87 : zeroCells Tryd.prog 87 = some [.lit .nilFunc] := by kernel_rfl
theorem fc88 : Tryd.prog.cellsOf 88 = 1 := by kernel_rfl
theorem fo88 : isOne Tryd.prog 88 = true := by kernel_rfl
theorem fz88 : zeroCells Tryd.prog 88 = some [.lit .nilFunc] := by kernel_rfl
theorem fc89 : Tryd.prog.cellsOf 89 = 1 := by kernel_rfl
theorem fo89 : isOne Tryd.prog 89 = true := by kernel_rfl
theorem fz89 : zeroCells Tryd.prog 89 = some [.lit .nilFunc] := by kernel_rfl
theorem fc90 : Tryd.prog.cellsOf 90 = 1 := by kernel_rfl
theorem fo90 : isOne Tryd.prog 90 = true := by kernel_rfl
theorem fz90 : zeroCells Tryd.prog 90 = some [.lit .nilFunc] := by kernel_rfl
theorem fc91 : Tryd.prog.cellsOf 91 = 1 := by kernel_rfl
theorem fo91 : isOne Tryd.prog 91 = true := by kernel_rfl
theorem fz91 : zeroCells Tryd.prog 91 = some [.lit .nilFunc] := by kernel_rfl
theorem fc92 : Tryd.prog.cellsOf 92 = 1 := by kernel_rfl
theorem fa92 : isAggT Tryd.prog 92 = true := by kernel_rfl
theorem fz92 : zeroCells Tryd.prog 92 = some [.lit (.pointer none)] := by kernel_rfl
theorem fk92_0 : fldOk Tryd.prog 92 0 = true := by kernel_rfl
theorem ff92_0 : offOf Tryd.prog 92 0 = 0 := by kernel_rfl
theorem ft92_0 : typOf Tryd.prog 92 0 = 17 := by kernel_rfl
theorem fc93 : Tryd.prog.cellsOf 93 = 1 := by kernel_rfl
theorem fa93 : isAggT Tryd.prog 93 = true := by kernel_rfl
theorem fz93 : zeroCells Tryd.prog 93 = some [.lit (.pointer none)] := by kernel_rfl
theorem fk93_0 : fldOk Tryd.prog 93 0 = true := by kernel_rfl
theorem ff93_0 : offOf Tryd.prog 93 0 = 0 := by kernel_rfl
theorem ft93_0 : typOf Tryd.prog 93 0 = 17 := by kernel_rfl
theorem fc94 : Tryd.prog.cellsOf 94 = 1 := by kernel_rfl
theorem fo94 : isOne Tryd.prog 94 = true := by kernel_rfl
theorem fz94 : zeroCells Tryd.prog 94 = some [.lit (.pointer none)] := by kernel_rfl
theorem fc95 : Tryd.prog.cellsOf 95 = 1 := by kernel_rfl
theorem fo95 : isOne Tryd.prog 95 = true := by kernel_rfl
theorem fz95 : zeroCells Tryd.prog 95 = some [.lit .nilFunc] := by kernel_rfl
theorem fc96 : Tryd.prog.cellsOf 96 = 1 := by kernel_rfl
theorem fo96 : isOne Tryd.prog 96 = true := by kernel_rfl
theorem fz96 : zeroCells Tryd.prog 96 = some [.lit .nilFunc] := by kernel_rfl
theorem fc97 : Tryd.prog.cellsOf 97 = 1 := by kernel_rfl
theorem fo97 : isOne Tryd.prog 97 = true := by kernel_rfl
theorem fz97 : zeroCells Tryd.prog 97 = some [.lit .nilFunc] := by kernel_rfl
theorem fc98 : Tryd.prog.cellsOf 98 = 1 := by kernel_rfl
theorem fo98 : isOne Tryd.prog 98 = true := by kernel_rfl
theorem fz98 : zeroCells Tryd.prog 98 = some [.lit .nilIface] := by kernel_rfl
theorem fc100 : Tryd.prog.cellsOf 100 = 1 := by kernel_rfl
theorem fo100 : isOne Tryd.prog 100 = true := by kernel_rfl
theorem fz100 : zeroCells Tryd.prog 100 = some [.lit .nilFunc] := by kernel_rfl
theorem fc101 : Tryd.prog.cellsOf 101 = 1 := by kernel_rfl
theorem fo101 : isOne Tryd.prog 101 = true := by kernel_rfl
theorem fz101 : zeroCells Tryd.prog 101 = some [.lit .nilIface] := by kernel_rfl
theorem fc102 : Tryd.prog.cellsOf 102 = 1 := by kernel_rfl
theorem fo102 : isOne Tryd.prog 102 = true := by kernel_rfl
theorem fz102 : zeroCells Tryd.prog 102 = some [.lit .nilFunc] := by kernel_rfl
theorem fc103 : Tryd.prog.cellsOf 103 = 1 := by kernel_rfl
theorem fo103 : isOne Tryd.prog 103 = true := by kernel_rfl
theorem fz103 : zeroCells Tryd.prog 103 = some [.lit .nilIface] := by kernel_rfl
theorem fc104 : Tryd.prog.cellsOf 104 = 1 := by kernel_rfl
theorem fo104 : isOne Tryd.prog 104 = true := by kernel_rfl
theorem fz104 : zeroCells Tryd.prog 104 = some [.lit (.slice none 0 0)] := by kernel_rfl
theorem fs104 : isSlStr Tryd.prog 104 = true := by kernel_rfl
theorem fp104 : apOk Tryd.prog 104 = true := by kernel_rfl
theorem fq104 : kOf Tryd.prog 104 = 1 := by kernel_rfl
theorem fb104 : bOf Tryd.prog 104 = 16 := by kernel_rfl
theorem fc105 : Tryd.prog.cellsOf 105 = 1 := by kernel_rfl
theorem fo105 : isOne Tryd.prog 105 = true := by kernel_rfl
theorem fz105 : zeroCells Tryd.prog 105 = some [.lit .nilFunc] := by kernel_rfl
theorem fc106 : Tryd.prog.cellsOf 106 = 1 := by kernel_rfl
theorem fo106 : isOne Tryd.prog 106 = true := by kernel_rfl
theorem fz106 : zeroCells Tryd.prog 106 = some [.lit .nilFunc] := by kernel_rfl
theorem fc107 : Tryd.prog.cellsOf 107 = 1 := by kernel_rfl
theorem fo107 : isOne Tryd.prog 107 = true := by kernel_rfl
theorem fz107 : zeroCells Tryd.prog 107 = some [.lit .nilFunc] := by kernel_rfl
theorem fc108 : Tryd.prog.cellsOf 108 = 1 := by kernel_rfl
theorem fo108 : isOne Tryd.prog 108 = true := by kernel_rfl
theorem fz108 : zeroCells Tryd.prog 108 = some [.lit .nilFunc] := by kernel_rfl
theorem fc109 : Tryd.prog.cellsOf 109 = 256 := by kernel_rfl
theorem fa109 : isAggT Tryd.prog 109 = true := by kernel_rfl
theorem fc110 : Tryd.prog.cellsOf 110 = 256 := by kernel_rfl
theorem fa110 : isAggT Tryd.prog 110 = true := by kernel_rfl
theorem fc112 : Tryd.prog.cellsOf 112 = 1 := by kernel_rfl
theorem fo112 : isOne Tryd.prog 112 = true := by kernel_rfl
theorem fz112 : zeroCells Tryd.prog 112 = some [.lit .nilFunc] := by kernel_rfl
theorem fc113 : Tryd.prog.cellsOf 113 = 1 := by kernel_rfl
theorem fo113 : isOne Tryd.prog 113 = true := by kernel_rfl
theorem fz113 : zeroCells Tryd.prog 113 = some [.lit .nilFunc] := by kernel_rfl
theorem fc114 : Tryd.prog.cellsOf 114 = 1 := by kernel_rfl
theorem fo114 : isOne Tryd.prog 114 = true := by kernel_rfl
theorem fz114 : zeroCells Tryd.prog 114 = some [.lit .nilFunc] := by kernel_rfl
theorem fc115 : Tryd.prog.cellsOf 115 = 1 := by kernel_rfl
theorem fo115 : isOne Tryd.prog 115 = true := by kernel_rfl
theorem fz115 : zeroCells Tryd.prog 115 = some [.lit .nilFunc] := by kernel_rfl
theorem fc116 : Tryd.prog.cellsOf 116 = 1 := by kernel_rfl
theorem fo116 : isOne Tryd.prog 116 = true := by kernel_rfl
theorem fz116 : zeroCells Tryd.prog 116 = some [.lit .nilFunc] := by kernel_rfl
theorem fc117 : Tryd.prog.cellsOf 117 = 1 := by kernel_rfl
theorem fo117 : isOne Tryd.prog 117 = true := by kernel_rfl
theorem fz117 : zeroCells Tryd.prog 117 = some [.lit .nilFunc] := by kernel_rfl
theorem fc118 : Tryd.prog.cellsOf 118 = 1 := by kernel_rfl
theorem fo118 : isOne Tryd.prog 118 = true := by kernel_rfl
theorem fz118 : zeroCells Tryd.prog 118 = some [.lit (.pointer none)] := by kernel_rfl
theorem fc119 : Tryd.prog.cellsOf 119 = 1 := by kernel_rfl
theorem fo119 : isOne Tryd.prog 119 = true := by kernel_rfl
theorem fz119 : zeroCells Tryd.prog 119 = some [.lit .nilFunc] := by kernel_rfl
theorem fc120 : Tryd.prog.cellsOf 120 = 256 := by kernel_rfl
theorem fa120 : isAggT Tryd.prog 120 = true := by kernel_rfl
theorem fc121 : Tryd.prog.cellsOf 121 = 2 := by kernel_rfl
theorem fa121 : isAggT Tryd.prog 121 = true := by kernel_rfl
theorem fz121 : zeroCells Tryd.prog 121 = some [.lit (.int .u8 0), .lit (.int .u8 0)] := by kernel_rfl
theorem fk121_0 : fldOk Tryd.prog 121 0 = true := by kernel_rfl
theorem ff121_0 : offOf Tryd.prog 121 0 = 0 := by kernel_rfl
theorem ft121_0 : typOf Tryd.prog 121 0 = 5 := by kernel_rfl
theorem fk121_1 : fldOk Tryd.prog 121 1 = true := by kernel_rfl
theorem ff121_1 : offOf Tryd.prog 121 1 = 1 := by kernel_rfl
theorem ft121_1 : typOf Tryd.prog 121 1 = 5 := by kernel_rfl
theorem fc122 : Tryd.prog.cellsOf 122 = 2 := by kernel_rfl
theorem fa122 : isAggT Tryd.prog 122 = true := by kernel_rfl
theorem fz122 : zeroCells Tryd.prog 122 = some [.lit (.int .u8 0), .lit (.int .u8 0)] := by kernel_rfl
theorem fk122_0 : fldOk Tryd.prog 122 0 = true := by kernel_rfl
theorem ff122_0 : offOf Tryd.prog 122 0 = 0 := by kernel_rfl
theorem ft122_0 : typOf Tryd.prog 122 0 = 5 := by kernel_rfl
theorem fk122_1 : fldOk Tryd.prog 122 1 = true := by kernel_rfl
theorem ff122_1 : offOf Tryd.prog 122 1 = 1 := by kernel_rfl
theorem ft122_1 : typOf Tryd.prog 122 1 = 5 := by kernel_rfl
theorem fc123 : Tryd.prog.cellsOf 123 = 32 := by kernel_rfl
theorem fa123 : isAggT Tryd.prog 123 = true := by kernel_rfl
theorem fz123 : zeroCells Tryd.prog 123 = some [.lit (.int .u8 0), .lit (.int .u8 0), .lit (.int .u8 0), .lit (.int .u8 0), .lit (.int .u8 0), .lit (.int .u8 0), .lit (.int .u8 0), .lit (.int .u8 0), .lit (.int .u8 0), .lit (.int .u8 0), .lit (.int .u8 0), .lit (.int .u8 0), .lit (.int .u8 0), .lit (.int .u8 0), .lit (.int .u8 0), .lit (.int .u8 0), .lit (.int .u8 0), .lit (.int .u8 0), .lit (.int .u8 0), .lit (.int .u8 0), .lit (.int .u8 0), .lit (.int .u8 0), .lit (.int .u8 0), .lit (.int .u8 0), .lit (.int .u8 0), .lit (.int .u8 0), .lit (.int .u8 0), .lit (.int .u8 0), .lit (.int .u8 0), .lit (.int .u8 0), .lit (.int .u8 0), .lit (.int .u8 0)] := by kernel_rfl
theorem fc124 : Tryd.prog.cellsOf 124 = 1 := by kernel_rfl
theorem fo124 : isOne Tryd.prog 124 = true := by kernel_rfl
theorem fz124 : zeroCells Tryd.prog 124 = some [.lit .nilFunc] := by kernel_rfl
theorem fc125 : Tryd.prog.cellsOf 125 = 1 := by kernel_rfl
theorem fo125 : isOne Tryd.prog 125 = true := by kernel_rfl
theorem fz125 : zeroCells Tryd.prog 125 = some [.lit (.int .u64 0)] := by kernel_rfl
theorem fc127 : Tryd.prog.cellsOf 127 = 1 := by kernel_rfl
theorem fo127 : isOne Tryd.prog 127 = true := by kernel_rfl
theorem fz127 : zeroCells Tryd.prog 127 = some [.lit .nilFunc] := by kernel_rfl
theorem fc128 : Tryd.prog.cellsOf 128 = 1 := by kernel_rfl
theorem fo128 : isOne Tryd.prog 128 = true := by kernel_rfl
theorem fz128 : zeroCells Tryd.prog 128 = some [.lit (.int .u32 0)] := by kernel_rfl
theorem fc130 : Tryd.prog.cellsOf 130 = 1 := by kernel_rfl
theorem fo130 : isOne Tryd.prog 130 = true := by kernel_rfl
theorem fz130 : zeroCells Tryd.prog 130 = some [.lit .nilFunc] := by kernel_rfl
theorem fc131 : Tryd.prog.cellsOf 131 = 1 := by kernel_rfl
theorem fo131 : isOne Tryd.prog 131 = true := by kernel_rfl
theorem fz131 : zeroCells Tryd.prog 131 = some [.lit .nilFunc] := by kernel_rfl
theorem fc132 : Tryd.prog.cellsOf 132 = 4 := by kernel_rfl
theorem fa132 : isAggT Tryd.prog 132 = true := by kernel_rfl
theorem fz132 : zeroCells Tryd.prog 132 = some [.lit (.pointer none), .lit (.pointer none), .lit (.pointer none), .lit (.string ByteArray.empty)] := by kernel_rfl
theorem fk132_0 : fldOk Tryd.prog 132 0 = true := by kernel_rfl
theorem ff132_0 : offOf Tryd.prog 132 0 = 0 := by kernel_rfl
theorem ft132_0 : typOf Tryd.prog 132 0 = 17 := by kernel_rfl
theorem fk132_1 : fldOk Tryd.prog 132 1 = true := by kernel_rfl
theorem ff132_1 : offOf Tryd.prog 132 1 = 1 := by kernel_rfl
theorem ft132_1 : typOf Tryd.prog 132 1 = 17 := by kernel_rfl
theorem fk132_2 : fldOk Tryd.prog 132 2 = true := by kernel_rfl
theorem ff132_2 : offOf Tryd.prog 132 2 = 2 := by kernel_rfl
theorem ft132_2 : typOf Tryd.prog 132 2 = 17 := by kernel_rfl
theorem fk132_3 : fldOk Tryd.prog 132 3 = true := by kernel_rfl
theorem ff132_3 : offOf Tryd.prog 132 3 = 3 := by kernel_rfl
theorem ft132_3 : typOf Tryd.prog 132 3 = 9 := by kernel_rfl
theorem fc133 : Tryd.prog.cellsOf 133 = 4 := by kernel_rfl
theorem fa133 : isAggT Tryd.prog 133 = true := by kernel_rfl
theorem fz133 : zeroCells Tryd.prog 133 = some [.lit (.pointer none), .lit (.pointer none), .lit (.pointer none), .lit (.string ByteArray.empty)] := by kernel_rfl
theorem fk133_0 : fldOk Tryd.prog 133 0 = true := by kernel_rfl
theorem ff133_0 : offOf Tryd.prog 133 0 = 0 := by kernel_rfl
theorem ft133_0 : typOf Tryd.prog 133 0 = 17 := by kernel_rfl
theorem fk133_1 : fldOk Tryd.prog 133 1 = true := by kernel_rfl
theorem ff133_1 : offOf Tryd.prog 133 1 = 1 := by kernel_rfl
theorem ft133_1 : typOf Tryd.prog 133 1 = 17 := by kernel_rfl
theorem fk133_2 : fldOk Tryd.prog 133 2 = true := by kernel_rfl
theorem ff133_2 : offOf Tryd.prog 133 2 = 2 := by kernel_rfl
theorem ft133_2 : typOf Tryd.prog 133 2 = 17 := by kernel_rfl
theorem fk133_3 : fldOk Tryd.prog 133 3 = true := by kernel_rfl
theorem ff133_3 : offOf Tryd.prog 133 3 = 3 := by kernel_rfl
theorem ft133_3 : typOf Tryd.prog 133 3 = 9 := by kernel_rfl
theorem fc134 : Tryd.prog.cellsOf 134 = 0 := by kernel_rfl
theorem fa134 : isAggT Tryd.prog 134 = true := by kernel_rfl
theorem fz134 : zeroCells Tryd.prog 134 = some [] := by kernel_rfl
theorem fc135 : Tryd.prog.cellsOf 135 = 0 := by kernel_rfl
theorem fa135 : isAggT Tryd.prog 135 = true := by kernel_rfl
theorem fz135 : zeroCells Tryd.prog 135 = some [] := by kernel_rfl
theorem fc136 : Tryd.prog.cellsOf 136 = 0 := by kernel_rfl
theorem fa136 : isAggT Tryd.prog 136 = true := by kernel_rfl
theorem fz136 : zeroCells Tryd.prog 136 = some [] := by kernel_rfl
theorem fc137 : Tryd.prog.cellsOf 137 = 1 := by kernel_rfl
theorem fo137 : isOne Tryd.prog 137 = true := by kernel_rfl
theorem fz137 : zeroCells Tryd.prog 137 = some [.lit .nilFunc] := by kernel_rfl
theorem fc138 : Tryd.prog.cellsOf 138 = 1 := by kernel_rfl
theorem fo138 : isOne Tryd.prog 138 = true := by kernel_rfl
theorem fz138 : zeroCells Tryd.prog 138 = some [.lit .nilFunc] := by kernel_rfl
theorem fc139 : Tryd.prog.cellsOf 139 = 1 := by kernel_rfl
theorem fo139 : isOne Tryd.prog 139 = true := by kernel_rfl
theorem fz139 : zeroCells Tryd.prog 139 = some [.lit (.int .u8 0)] := by kernel_rfl
theorem fc140 : Tryd.prog.cellsOf 140 = 1 := by kernel_rfl
theorem fo140 : isOne Tryd.prog 140 = true := by kernel_rfl
theorem fz140 : zeroCells Tryd.prog 140 = some [.lit .nilFunc] := by kernel_rfl
theorem fc141 : Tryd.prog.cellsOf 141 = 1 := by kernel_rfl
theorem fo141 : isOne Tryd.prog 141 = true := by kernel_rfl
theorem fz141 : zeroCells Tryd.prog 141 = some [.lit (.pointer none)] := by kernel_rfl
theorem fc142 : Tryd.prog.cellsOf 142 = 1 := by kernel_rfl
theorem fo142 : isOne Tryd.prog 142 = true := by kernel_rfl
theorem fz142 : zeroCells Tryd.prog 142 = some [.lit (.int .i32 0)] := by kernel_rfl
theorem fc143 : Tryd.prog.cellsOf 143 = 1 := by kernel_rfl
theorem fo143 : isOne Tryd.prog 143 = true := by kernel_rfl
theorem fz143 : zeroCells Tryd.prog 143 = some [.lit (.int .i32 0)] := by kernel_rfl
theorem fc144 : Tryd.prog.cellsOf 144 = 11 := by kernel_rfl
theorem fa144 : isAggT Tryd.prog 144 = true := by kernel_rfl
theorem fz144 : zeroCells Tryd.prog 144 = some [.lit (.int .u64 0), .lit (.int .u64 0), .lit (.int .u32 0), .lit (.int .u8 0), .lit (.int .u8 0), .lit (.int .u8 0), .lit (.int .u8 0), .lit .nilFunc, .lit (.pointer none), .lit (.int .i32 0), .lit (.int .i32 0)] := by kernel_rfl
theorem fk144_0 : fldOk Tryd.prog 144 0 = true := by kernel_rfl
theorem ff144_0 : offOf Tryd.prog 144 0 = 0 := by kernel_rfl
theorem ft144_0 : typOf Tryd.prog 144 0 = 12 := by kernel_rfl
theorem fk144_1 : fldOk Tryd.prog 144 1 = true := by kernel_rfl
theorem ff144_1 : offOf Tryd.prog 144 1 = 1 := by kernel_rfl
theorem ft144_1 : typOf Tryd.prog 144 1 = 12 := by kernel_rfl
theorem fk144_2 : fldOk Tryd.prog 144 2 = true := by kernel_rfl
theorem ff144_2 : offOf Tryd.prog 144 2 = 2 := by kernel_rfl
theorem ft144_2 : typOf Tryd.prog 144 2 = 128 := by kernel_rfl
theorem fk144_3 : fldOk Tryd.prog 144 3 = true := by kernel_rfl
theorem ff144_3 : offOf Tryd.prog 144 3 = 3 := by kernel_rfl
theorem ft144_3 : typOf Tryd.prog 144 3 = 139 := by kernel_rfl
theorem fk144_4 : fldOk Tryd.prog 144 4 = true := by kernel_rfl
theorem ff144_4 : offOf Tryd.prog 144 4 = 4 := by kernel_rfl
theorem ft144_4 : typOf Tryd.prog 144 4 = 5 := by kernel_rfl
theorem fk144_5 : fldOk Tryd.prog 144 5 = true := by kernel_rfl
theorem ff144_5 : offOf Tryd.prog 144 5 = 5 := by kernel_rfl
theorem ft144_5 : typOf Tryd.prog 144 5 = 5 := by kernel_rfl
theorem fk144_6 : fldOk Tryd.prog 144 6 = true := by kernel_rfl
theorem ff144_6 : offOf Tryd.prog 144 6 = 6 := by kernel_rfl
theorem ft144_6 : typOf Tryd.prog 144 6 = 86 := by kernel_rfl
theorem fk144_7 : fldOk Tryd.prog 144 7 = true := by kernel_rfl
theorem ff144_7 : offOf Tryd.prog 144 7 = 7 := by kernel_rfl
theorem ft144_7 : typOf Tryd.prog 144 7 = 140 := by kernel_rfl
theorem fk144_8 : fldOk Tryd.prog 144 8 = true := by kernel_rfl
theorem ff144_8 : offOf Tryd.prog 144 8 = 8 := by kernel_rfl
theorem ft144_8 : typOf Tryd.prog 144 8 = 141 := by kernel_rfl
theorem fk144_9 : fldOk Tryd.prog 144 9 = true := by kernel_rfl
theorem ff144_9 : offOf Tryd.prog 144 9 = 9 := by kernel_rfl
theorem ft144_9 : typOf Tryd.prog 144 9 = 142 := by kernel_rfl
theorem fk144_10 : fldOk Tryd.prog 144 10 = true := by kernel_rfl
theorem ff144_10 : offOf Tryd.prog 144 10 = 10 := by kernel_rfl
theorem ft144_10 : typOf Tryd.prog 144 10 = 143 := by kernel_rfl
theorem fc145 : Tryd.prog.cellsOf 145 = 11 := by kernel_rfl
theorem fa145 : isAggT Tryd.prog 145 = true := by kernel_rfl
theorem fz145 : zeroCells Tryd.prog 145 = some [.lit (.int .u64 0), .lit (.int .u64 0), .lit (.int .u32 0), .lit (.int .u8 0), .lit (.int .u8 0), .lit (.int .u8 0), .lit (.int .u8 0), .lit .nilFunc, .lit (.pointer none), .lit (.int .i32 0), .lit (.int .i32 0)] := by kernel_rfl
theorem fk145_0 : fldOk Tryd.prog 145 0 = true := by kernel_rfl
theorem ff145_0 : offOf Tryd.prog 145 0 = 0 := by kernel_rfl
theorem ft145_0 : typOf Tryd.prog 145 0 = 12 := by kernel_rfl
theorem fk145_1 : fldOk Tryd.prog 145 1 = true := by kernel_rfl
theorem ff145_1 : offOf Tryd.prog 145 1 = 1 := by kernel_rfl
theorem ft145_1 : typOf Tryd.prog 145 1 = 12 := by kernel_rfl
theorem fk145_2 : fldOk Tryd.prog 145 2 = true := by kernel_rfl
theorem ff145_2 : offOf Tryd.prog 145 2 = 2 := by kernel_rfl
theorem ft145_2 : typOf Tryd.prog 145 2 = 128 := by kernel_rfl
theorem fk145_3 : fldOk Tryd.prog 145 3 = true := by kernel_rfl
theorem ff145_3 : offOf Tryd.prog 145 3 = 3 := by kernel_rfl
theorem ft145_3 : typOf Tryd.prog 145 3 = 139 := by kernel_rfl
theorem fk145_4 : fldOk Tryd.prog 145 4 = true := by kernel_rfl
theorem ff145_4 : offOf Tryd.prog 145 4 = 4 := by kernel_rfl
theorem ft145_4 : typOf Tryd.prog 145 4 = 5 := by kernel_rfl
theorem fk145_5 : fldOk Tryd.prog 145 5 = true := by kernel_rfl
theorem ff145_5 : offOf Tryd.prog 145 5 = 5 := by kernel_rfl
theorem ft145_5 : typOf Tryd.prog 145 5 = 5 := by kernel_rfl
theorem fk145_6 : fldOk Tryd.prog 145 6 = true := by kernel_rfl
theorem ff145_6 : offOf Tryd.prog 145 6 = 6 := by kernel_rfl
theorem ft145_6 : typOf Tryd.prog 145 6 = 86 := by kernel_rfl
theorem fk145_7 : fldOk Tryd.prog 145 7 = true := by kernel_rfl
theorem ff145_7 : offOf Tryd.prog 145 7 = 7 := by kernel_rfl
theorem ft145_7 : typOf Tryd.prog 145 7 = 140 := by kernel_rfl
theorem fk145_8 : fldOk Tryd.prog 145 8 = true := by kernel_rfl
theorem ff145_8 : offOf Tryd.prog 145 8 = 8 := by kernel_rfl
theorem ft145_8 : typOf Tryd.prog 145 8 = 141 := by kernel_rfl
theorem fk145_9 : fldOk Tryd.prog 145 9 = true := by kernel_rfl
theorem ff145_9 : offOf Tryd.prog 145 9 = 9 := by kernel_rfl
theorem ft145_9 : typOf Tryd.prog 145 9 = 142 := by kernel_rfl
theorem fk145_10 : fldOk Tryd.prog 145 10 = true := by kernel_rfl
theorem ff145_10 : offOf Tryd.prog 145 10 = 10 := by kernel_rfl
theorem ft145_10 : typOf Tryd.prog 145 10 = 143 := by kernel_rfl
theorem fc146 : Tryd.prog.cellsOf 146 = 1 := by kernel_rfl
theorem fo146 : isOne Tryd.prog 146 = true := by kernel_rfl
theorem fz146 : zeroCells Tryd.prog 146 = some [.lit .nilFunc] := by kernel_rfl
theorem fc147 : Tryd.prog.cellsOf 147 = 1 := by kernel_rfl
theorem fo147 : isOne Tryd.prog 147 = true := by kernel_rfl
theorem fz147 : zeroCells Tryd.prog 147 = some [.lit .nilFunc] := by kernel_rfl
theorem fc148 : Tryd.prog.cellsOf 148 = 2 := by kernel_rfl
theorem fa148 : isAggT Tryd.prog 148 = true := by kernel_rfl
theorem fz148 : zeroCells Tryd.prog 148 = some [.lit (.string ByteArray.empty), .lit (.int .u8 0)] := by kernel_rfl
theorem fk148_0 : fldOk Tryd.prog 148 0 = true := by kernel_rfl
theorem ff148_0 : offOf Tryd.prog 148 0 = 0 := by kernel_rfl
theorem ft148_0 : typOf Tryd.prog 148 0 = 9 := by kernel_rfl
theorem fk148_1 : fldOk Tryd.prog 148 1 = true := by kernel_rfl
theorem ff148_1 : offOf Tryd.prog 148 1 = 1 := by kernel_rfl
theorem ft148_1 : typOf Tryd.prog 148 1 = 86 := by kernel_rfl
theorem fc149 : Tryd.prog.cellsOf 149 = 2 := by kernel_rfl
theorem fa149 : isAggT Tryd.prog 149 = true := by kernel_rfl
theorem fz149 : zeroCells Tryd.prog 149 = some [.lit (.string ByteArray.empty), .lit (.int .u8 0)] := by kernel_rfl
theorem fk149_0 : fldOk Tryd.prog 149 0 = true := by kernel_rfl
theorem ff149_0 : offOf Tryd.prog 149 0 = 0 := by kernel_rfl
theorem ft149_0 : typOf Tryd.prog 149 0 = 9 := by kernel_rfl
theorem fk149_1 : fldOk Tryd.prog 149 1 = true := by kernel_rfl
theorem ff149_1 : offOf Tryd.prog 149 1 = 1 := by kernel_rfl
theorem ft149_1 : typOf Tryd.prog 149 1 = 86 := by kernel_rfl
theorem fc150 : Tryd.prog.cellsOf 150 = 1 := by kernel_rfl
theorem fo150 : isOne Tryd.prog 150 = true := by kernel_rfl
theorem fz150 : zeroCells Tryd.prog 150 = some [.lit (.pointer none)] := by kernel_rfl
theorem fc151 : Tryd.prog.cellsOf 151 = 1 := by kernel_rfl
theorem fo151 : isOne Tryd.prog 151 = true := by kernel_rfl
theorem fz151 : zeroCells Tryd.prog 151 = some [.lit .nilFunc] := by kernel_rfl
theorem fc152 : Tryd.prog.cellsOf 152 = 1 := by kernel_rfl
theorem fo152 : isOne Tryd.prog 152 = true := by kernel_rfl
theorem fz152 : zeroCells Tryd.prog 152 = some [.lit (.int .u16 0)] := by kernel_rfl
theorem fc153 : Tryd.prog.cellsOf 153 = 5 := by kernel_rfl
theorem fa153 : isAggT Tryd.prog 153 = true := by kernel_rfl
theorem fz153 : zeroCells Tryd.prog 153 = some [.lit (.int .i32 0), .lit (.int .u16 0), .lit (.int .u16 0), .lit (.int .u32 0), .lit (.int .u32 0)] := by kernel_rfl
theorem fk153_0 : fldOk Tryd.prog 153 0 = true := by kernel_rfl
theorem ff153_0 : offOf Tryd.prog 153 0 = 0 := by kernel_rfl
theorem ft153_0 : typOf Tryd.prog 153 0 = 142 := by kernel_rfl
theorem fk153_1 : fldOk Tryd.prog 153 1 = true := by kernel_rfl
theorem ff153_1 : offOf Tryd.prog 153 1 = 1 := by kernel_rfl
theorem ft153_1 : typOf Tryd.prog 153 1 = 152 := by kernel_rfl
theorem fk153_2 : fldOk Tryd.prog 153 2 = true := by kernel_rfl
theorem ff153_2 : offOf Tryd.prog 153 2 = 2 := by kernel_rfl
theorem ft153_2 : typOf Tryd.prog 153 2 = 152 := by kernel_rfl
theorem fk153_3 : fldOk Tryd.prog 153 3 = true := by kernel_rfl
theorem ff153_3 : offOf Tryd.prog 153 3 = 3 := by kernel_rfl
theorem ft153_3 : typOf Tryd.prog 153 3 = 128 := by kernel_rfl
theorem fk153_4 : fldOk Tryd.prog 153 4 = true := by kernel_rfl
theorem ff153_4 : offOf Tryd.prog 153 4 = 4 := by kernel_rfl
theorem ft153_4 : typOf Tryd.prog 153 4 = 128 := by kernel_rfl
theorem fc154 : Tryd.prog.cellsOf 154 = 5 := by kernel_rfl
theorem fa154 : isAggT Tryd.prog 154 = true := by kernel_rfl
theorem fz154 : zeroCells Tryd.prog 154 = some [.lit (.int .i32 0), .lit (.int .u16 0), .lit (.int .u16 0), .lit (.int .u32 0), .lit (.int .u32 0)] := by kernel_rfl
theorem fk154_0 : fldOk Tryd.prog 154 0 = true := by kernel_rfl
theorem ff154_0 : offOf Tryd.prog 154 0 = 0 := by kernel_rfl
theorem ft154_0 : typOf Tryd.prog 154 0 = 142 := by kernel_rfl
theorem fk154_1 : fldOk Tryd.prog 154 1 = true := by kernel_rfl
theorem ff154_1 : offOf Tryd.prog 154 1 = 1 := by kernel_rfl
theorem ft154_1 : typOf Tryd.prog 154 1 = 152 := by kernel_rfl
theorem fk154_2 : fldOk Tryd.prog 154 2 = true := by kernel_rfl
theorem ff154_2 : offOf Tryd.prog 154 2 = 2 := by kernel_rfl
theorem ft154_2 : typOf Tryd.prog 154 2 = 152 := by kernel_rfl
theorem fk154_3 : fldOk Tryd.prog 154 3 = true := by kernel_rfl
theorem ff154_3 : offOf Tryd.prog 154 3 = 3 := by kernel_rfl
theorem ft154_3 : typOf Tryd.prog 154 3 = 128 := by kernel_rfl
theorem fk154_4 : fldOk Tryd.prog 154 4 = true := by kernel_rfl
theorem ff154_4 : offOf Tryd.prog 154 4 = 4 := by kernel_rfl
theorem ft154_4 : typOf Tryd.prog 154 4 = 128 := by kernel_rfl
theorem fc155 : Tryd.prog.cellsOf 155 = 1 := by kernel_rfl
theorem fo155 : isOne Tryd.prog 155 = true := by kernel_rfl
theorem fz155 : zeroCells Tryd.prog 155 = some [.lit (.slice none 0 0)] := by kernel_rfl
theorem fs155 : isSlStr Tryd.prog 155 = true := by kernel_rfl
theorem fp155 : apOk Tryd.prog 155 = true := by kernel_rfl
theorem fq155 : kOf Tryd.prog 155 = 4 := by kernel_rfl
theorem fb155 : bOf Tryd.prog 155 = 16 := by kernel_rfl
theorem fc156 : Tryd.prog.cellsOf 156 = 1 := by kernel_rfl
theorem fo156 : isOne Tryd.prog 156 = true := by kernel_rfl
theorem fz156 : zeroCells Tryd.prog 156 = some [.lit (.int .i32 0)] := by kernel_rfl
theorem fc157 : Tryd.prog.cellsOf 157 = 4 := by kernel_rfl
theorem fa157 : isAggT Tryd.prog 157 = true := by kernel_rfl
theorem fz157 : zeroCells Tryd.prog 157 = some [.lit (.int .i32 0), .lit (.int .i32 0), .lit (.int .i32 0), .lit (.int .i32 0)] := by kernel_rfl
theorem fk157_0 : fldOk Tryd.prog 157 0 = true := by kernel_rfl
theorem ff157_0 : offOf Tryd.prog 157 0 = 0 := by kernel_rfl
theorem ft157_0 : typOf Tryd.prog 157 0 = 142 := by kernel_rfl
theorem fk157_1 : fldOk Tryd.prog 157 1 = true := by kernel_rfl
theorem ff157_1 : offOf Tryd.prog 157 1 = 1 := by kernel_rfl
theorem ft157_1 : typOf Tryd.prog 157 1 = 143 := by kernel_rfl
theorem fk157_2 : fldOk Tryd.prog 157 2 = true := by kernel_rfl
theorem ff157_2 : offOf Tryd.prog 157 2 = 2 := by kernel_rfl
theorem ft157_2 : typOf Tryd.prog 157 2 = 156 := by kernel_rfl
theorem fk157_3 : fldOk Tryd.prog 157 3 = true := by kernel_rfl
theorem ff157_3 : offOf Tryd.prog 157 3 = 3 := by kernel_rfl
theorem ft157_3 : typOf Tryd.prog 157 3 = 156 := by kernel_rfl
theorem fc158 : Tryd.prog.cellsOf 158 = 4 := by kernel_rfl
theorem fa158 : isAggT Tryd.prog 158 = true := by kernel_rfl
theorem fz158 : zeroCells Tryd.prog 158 = some [.lit (.int .i32 0), .lit (.int .i32 0), .lit (.int .i32 0), .lit (.int .i32 0)] := by kernel_rfl
theorem fk158_0 : fldOk Tryd.prog 158 0 = true := by kernel_rfl
theorem ff158_0 : offOf Tryd.prog 158 0 = 0 := by kernel_rfl
theorem ft158_0 : typOf Tryd.prog 158 0 = 142 := by kernel_rfl
theorem fk158_1 : fldOk Tryd.prog 158 1 = true := by kernel_rfl
theorem ff158_1 : offOf Tryd.prog 158 1 = 1 := by kernel_rfl
theorem ft158_1 : typOf Tryd.prog 158 1 = 143 := by kernel_rfl
theorem fk158_2 : fldOk Tryd.prog 158 2 = true := by kernel_rfl
theorem ff158_2 : offOf Tryd.prog 158 2 = 2 := by kernel_rfl
theorem ft158_2 : typOf Tryd.prog 158 2 = 156 := by kernel_rfl
theorem fk158_3 : fldOk Tryd.prog 158 3 = true := by kernel_rfl
theorem ff158_3 : offOf Tryd.prog 158 3 = 3 := by kernel_rfl
theorem ft158_3 : typOf Tryd.prog 158 3 = 156 := by kernel_rfl
theorem fc159 : Tryd.prog.cellsOf 159 = 1 := by kernel_rfl
theorem fo159 : isOne Tryd.prog 159 = true := by kernel_rfl
theorem fz159 : zeroCells Tryd.prog 159 = some [.lit (.pointer none)] := by kernel_rfl
attribute [go_sem] Tryd.underlying0 Tryd.underlying1 fc1 fo1 fz1 Tryd.underlying2 fc2 fo2 fz2 Tryd.underlying3 fc3 fo3 fz3 Tryd.underlying4 fc4 fo4 fz4 Tryd.underlying5 fc5 fo5 fz5 Tryd.underlying6 fc6 fo6 fz6 Tryd.underlying7 fc7 fa7 fz7 fk7_0 ff7_0 ft7_0 fk7_1 ff7_1 ft7_1 fk7_2 ff7_2 ft7_2 fk7_3 ff7_3 ft7_3 Tryd.underlying8 fc8 fa8 fz8 fk8_0 ff8_0 ft8_0 fk8_1 ff8_1 ft8_1 fk8_2 ff8_2 ft8_2 fk8_3 ff8_3 ft8_3 Tryd.underlying9 fc9 fo9 fz9 fs9 Tryd.underlying10 fc10 fo10 fz10 fs10 Tryd.underlying11 fc11 fo11 fz11 fs11 Tryd.underlying12 fc12 fo12 fz12 Tryd.underlying13 fc13 fa13 fz13 fk13_0 ff13_0 ft13_0 fk13_1 ff13_1 ft13_1 Tryd.underlying14 fc14 fa14 fz14 fk14_0 ff14_0 ft14_0 fk14_1 ff14_1 ft14_1 Tryd.underlying15 fc15 fo15 fz15 Tryd.underlying16 fc16 fo16 fz16 Tryd.underlying17 fc17 fo17 fz17 Tryd.underlying18 fc18 fa18 fz18 fk18_0 ff18_0 ft18_0 Tryd.underlying19 fc19 fa19 fz19 fk19_0 ff19_0 ft19_0 Tryd.underlying20 fc20 fo20 fz20 Tryd.underlying21 fc21 fo21 fz21 Tryd.underlying22 fc22 fo22 fz22 fs22 fp22 fq22 fb22 Tryd.underlying23 fc23 fo23 fz23 Tryd.underlying24 fc24 fo24 fz24 fs24 fp24 fq24 fb24 Tryd.underlying25 fc25 fo25 fz25 fs25 fp25 fq25 fb25 Tryd.underlying26 fc26 fa26 fz26 fk26_0 ff26_0 ft26_0 fk26_1 ff26_1 ft26_1 fk26_2 ff26_2 ft26_2 fk26_3 ff26_3 ft26_3 fk26_4 ff26_4 ft26_4 fk26_5 ff26_5 ft26_5 fk26_6 ff26_6 ft26_6 Tryd.underlying27 fc27 fa27 fz27 fk27_0 ff27_0 ft27_0 fk27_1 ff27_1 ft27_1 fk27_2 ff27_2 ft27_2 fk27_3 ff27_3 ft27_3 fk27_4 ff27_4 ft27_4 fk27_5 ff27_5 ft27_5 fk27_6 ff27_6 ft27_6 Tryd.underlying28 fc28 fa28 fz28 fk28_0 ff28_0 ft28_0 fk28_1 ff28_1 ft28_1 fk28_2 ff28_2 ft28_2 fk28_3 ff28_3 ft28_3 Tryd.underlying29 fc29 fa29 fz29 fk29_0 ff29_0 ft29_0 fk29_1 ff29_1 ft29_1 fk29_2 ff29_2 ft29_2 fk29_3 ff29_3 ft29_3 Tryd.underlying30 fc30 fo30 fz30 Tryd.underlying31 fc31 fo31 fz31 Tryd.underlying32 Tryd.underlying33 fc33 fo33 fz33 Tryd.underlying34 fc34 fo34 fz34 Tryd.underlying35 fc35 fo35 fz35 Tryd.underlying36 Tryd.underlying37 fc37 fo37 fz37 Tryd.underlying38 fc38 fo38 fz38 Tryd.underlying39 fc39 fo39 fz39 Tryd.underlying40 fc40 fo40 fz40 Tryd.underlying41 fc41 fo41 fz41 Tryd.underlying42 fc42 fo42 fz42 Tryd.underlying43 fc43 fo43 fz43 Tryd.underlying44 fc44 fo44 fz44 Tryd.underlying45 fc45 fo45 fz45 Tryd.underlying46 fc46 fo46 fz46 Tryd.underlying47 Tryd.underlying48 fc48 fo48 fz48 Tryd.underlying49 fc49 fo49 fz49 Tryd.underlying50 fc50 fo50 fz50 Tryd.underlying51 fc51 fo51 fz51 Tryd.underlying52 fc52 fo52 fz52 Tryd.underlying53 fc53 fo53 fz53 Tryd.underlying54 fc54 fo54 fz54 Tryd.underlying55 fc55 fo55 fz55 Tryd.underlying56 fc56 fo56 fz56 Tryd.underlying57 fc57 fo57 fz57 Tryd.underlying58 fc58 fo58 fz58 Tryd.underlying59 fc59 fo59 fz59 Tryd.underlying60 fc60 fo60 fz60 Tryd.underlying61 fc61 fa61 fz61 fk61_0 ff61_0 ft61_0 fk61_1 ff61_1 ft61_1 Tryd.underlying62 fc62 fa62 fz62 fk62_0 ff62_0 ft62_0 fk62_1 ff62_1 ft62_1 Tryd.underlying63 fc63 fo63 fz63 Tryd.underlying64 fc64 fo64 fz64 Tryd.underlying65 fc65 fo65 fz65 Tryd.underlying66 fc66 fo66 fz66 Tryd.underlying67 fc67 fo67 fz67 fs67 fp67 fq67 fb67 Tryd.underlying68 fc68 fo68 fz68 Tryd.underlying69 fc69 fo69 fz69 Tryd.underlying70 fc70 fo70 fz70 Tryd.underlying71 fc71 fo71 fz71 Tryd.underlying72 fc72 fo72 fz72 Tryd.underlying73 fc73 fa73 fz73 fk73_0 ff73_0 ft73_0 fk73_1 ff73_1 ft73_1 fk73_2 ff73_2 ft73_2 fk73_3 ff73_3 ft73_3 Tryd.underlying74 fc74 fa74 fz74 fk74_0 ff74_0 ft74_0 fk74_1 ff74_1 ft74_1 fk74_2 ff74_2 ft74_2 fk74_3 ff74_3 ft74_3 Tryd.underlying75 fc75 fo75 fz75 Tryd.underlying76 fc76 fo76 fz76 Tryd.underlying77 fc77 fo77 fz77 fs77 fp77 fq77 fb77 Tryd.underlying78 fc78 fo78 Tryd.underlying79 fc79 fo79 fz79 Tryd.underlying80 fc80 fa80 fk80_0 ff80_0 ft80_0 fk80_1 ff80_1 ft80_1 fk80_2 ff80_2 ft80_2 Tryd.underlying81 fc81 fa81 fk81_0 ff81_0 ft81_0 fk81_1 ff81_1 ft81_1 fk81_2 ff81_2 ft81_2 Tryd.underlying82 fc82 fo82 fz82 Tryd.underlying83 fc83 fo83 fz83 Tryd.underlying84 fc84 fo84 fz84 Tryd.underlying85 fc85 fo85 fz85 Tryd.underlying86 fc86 fo86 fz86 Tryd.underlying87 fc87 fo87 fz87 Tryd.underlying88 fc88 fo88 fz88 Tryd.underlying89 fc89 fo89 fz89 Tryd.underlying90 fc90 fo90 fz90 Tryd.underlying91 fc91 fo91 fz91 Tryd.underlying92 fc92 fa92 fz92 fk92_0 ff92_0 ft92_0 Tryd.underlying93 fc93 fa93 fz93 fk93_0 ff93_0 ft93_0 Tryd.underlying94 fc94 fo94 fz94 Tryd.underlying95 fc95 fo95 fz95 Tryd.underlying96 fc96 fo96 fz96 Tryd.underlying97 fc97 fo97 fz97 Tryd.underlying98 fc98 fo98 fz98 Tryd.underlying99 Tryd.underlying100 fc100 fo100 fz100 Tryd.underlying101 fc101 fo101 fz101 Tryd.underlying102 fc102 fo102 fz102 Tryd.underlying103 fc103 fo103 fz103 Tryd.underlying104 fc104 fo104 fz104 fs104 fp104 fq104 fb104 Tryd.underlying105 fc105 fo105 fz105 Tryd.underlying106 fc106 fo106 fz106 Tryd.underlying107 fc107 fo107 fz107 Tryd.underlying108 fc108 fo108 fz108 Tryd.underlying109 fc109 fa109 Tryd.underlying110 fc110 fa110 Tryd.underlying111 Tryd.underlying112 fc112 fo112 fz112 Tryd.underlying113 fc113 fo113 fz113 Tryd.underlying114 fc114 fo114 fz114 Tryd.underlying115 fc115 fo115 fz115 Tryd.underlying116 fc116 fo116 fz116 Tryd.underlying117 fc117 fo117 fz117 Tryd.underlying118 fc118 fo118 fz118 Tryd.underlying119 fc119 fo119 fz119 Tryd.underlying120 fc120 fa120 Tryd.underlying121 fc121 fa121 fz121 fk121_0 ff121_0 ft121_0 fk121_1 ff121_1 ft121_1 Tryd.underlying122 fc122 fa122 fz122 fk122_0 ff122_0 ft122_0 fk122_1 ff122_1 ft122_1 Tryd.underlying123 fc123 fa123 fz123 Tryd.underlying124 fc124 fo124 fz124 Tryd.underlying125 fc125 fo125 fz125 Tryd.underlying126 Tryd.underlying127 fc127 fo127 fz127 Tryd.underlying128 fc128 fo128 fz128 Tryd.underlying129 Tryd.underlying130 fc130 fo130 fz130 Tryd.underlying131 fc131 fo131 fz131 Tryd.underlying132 fc132 fa132 fz132 fk132_0 ff132_0 ft132_0 fk132_1 ff132_1 ft132_1 fk132_2 ff132_2 ft132_2 fk132_3 ff132_3 ft132_3 Tryd.underlying133 fc133 fa133 fz133 fk133_0 ff133_0 ft133_0 fk133_1 ff133_1 ft133_1 fk133_2 ff133_2 ft133_2 fk133_3 ff133_3 ft133_3 Tryd.underlying134 fc134 fa134 fz134 Tryd.underlying135 fc135 fa135 fz135 Tryd.underlying136 fc136 fa136 fz136 Tryd.underlying137 fc137 fo137 fz137 Tryd.underlying138 fc138 fo138 fz138 Tryd.underlying139 fc139 fo139 fz139 Tryd.underlying140 fc140 fo140 fz140 Tryd.underlying141 fc141 fo141 fz141 Tryd.underlying142 fc142 fo142 fz142 Tryd.underlying143 fc143 fo143 fz143 Tryd.underlying144 fc144 fa144 fz144 fk144_0 ff144_0 ft144_0 fk144_1 ff144_1 ft144_1 fk144_2 ff144_2 ft144_2 fk144_3 ff144_3 ft144_3 fk144_4 ff144_4 ft144_4 fk144_5 ff144_5 ft144_5 fk144_6 ff144_6 ft144_6 fk144_7 ff144_7 ft144_7 fk144_8 ff144_8 ft144_8 fk144_9 ff144_9 ft144_9 fk144_10 ff144_10 ft144_10 Tryd.underlying145 fc145 fa145 fz145 fk145_0 ff145_0 ft145_0 fk145_1 ff145_1 ft145_1 fk145_2 ff145_2 ft145_2 fk145_3 ff145_3 ft145_3 fk145_4 ff145_4 ft145_4 fk145_5 ff145_5 ft145_5 fk145_6 ff145_6 ft145_6 fk145_7 ff145_7 ft145_7 fk145_8 ff145_8 ft145_8 fk145_9 ff145_9 ft145_9 fk145_10 ff145_10 ft145_10 Tryd.underlying146 fc146 fo146 fz146 Tryd.underlying147 fc147 fo147 fz147 Tryd.underlying148 fc148 fa148 fz148 fk148_0 ff148_0 ft148_0 fk148_1 ff148_1 ft148_1 Tryd.underlying149 fc149 fa149 fz149 fk149_0 ff149_0 ft149_0 fk149_1 ff149_1 ft149_1 Tryd.underlying150 fc150 fo150 fz150 Tryd.underlying151 fc151 fo151 fz151 Tryd.underlying152 fc152 fo152 fz152 Tryd.underlying153 fc153 fa153 fz153 fk153_0 ff153_0 ft153_0 fk153_1 ff153_1 ft153_1 fk153_2 ff153_2 ft153_2 fk153_3 ff153_3 ft153_3 fk153_4 ff153_4 ft153_4 Tryd.underlying154 fc154 fa154 fz154 fk154_0 ff154_0 ft154_0 fk154_1 ff154_1 ft154_1 fk154_2 ff154_2 ft154_2 fk154_3 ff154_3 ft154_3 fk154_4 ff154_4 ft154_4 Tryd.underlying155 fc155 fo155 fz155 fs155 fp155 fq155 fb155 Tryd.underlying156 fc156 fo156 fz156 Tryd.underlying157 fc157 fa157 fz157 fk157_0 ff157_0 ft157_0 fk157_1 ff157_1 ft157_1 fk157_2 ff157_2 ft157_2 fk157_3 ff157_3 ft157_3 Tryd.underlying158 fc158 fa158 fz158 fk158_0 ff158_0 ft158_0 fk158_1 ff158_1 ft158_1 fk158_2 ff158_2 ft158_2 fk158_3 ff158_3 ft158_3 Tryd.underlying159 fc159 fo159 fz159
end Go.Proofs
