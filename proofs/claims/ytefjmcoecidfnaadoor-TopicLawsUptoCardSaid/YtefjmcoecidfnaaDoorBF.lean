/- Facts of the types, each closed. -/
import Derived.Test.YtefjmcoecidfnaaDoorProg
import Derived.Test.YtefjmcoecidfnaaDoorAbRun2
set_option linter.unusedSimpArgs false
set_option linter.unusedVariables false
namespace Go.Proofs
open Go Go.Abs
theorem fol : Tryd.prog.follows .mixedOrders = true := by kernel_rfl
theorem fc1 : Tryd.prog.cellsOf 1 = 1 := by kernel_rfl
theorem fo1 : isOne Tryd.prog 1 = true := by kernel_rfl
theorem fz1 : zeroCells Tryd.prog 1 = some [.lit .nilFunc] := by kernel_rfl
theorem fc2 : Tryd.prog.cellsOf 2 = 1 := by kernel_rfl
theorem fo2 : isOne Tryd.prog 2 = true := by kernel_rfl
theorem fz2 : zeroCells Tryd.prog 2 = some [.lit (.int .i64 0)] := by kernel_rfl
theorem fc3 : Tryd.prog.cellsOf 3 = 1 := by kernel_rfl
theorem fo3 : isOne Tryd.prog 3 = true := by kernel_rfl
theorem fz3 : zeroCells Tryd.prog 3 = some [.lit (.int .i64 0)] := by kernel_rfl
theorem fc4 : Tryd.prog.cellsOf 4 = 1 := by kernel_rfl
theorem fo4 : isOne Tryd.prog 4 = true := by kernel_rfl
theorem fz4 : zeroCells Tryd.prog 4 = some [.lit (.bool false)] := by kernel_rfl
theorem fc5 : Tryd.prog.cellsOf 5 = 1 := by kernel_rfl
theorem fo5 : isOne Tryd.prog 5 = true := by kernel_rfl
theorem fz5 : zeroCells Tryd.prog 5 = some [.lit (.int .u8 0)] := by kernel_rfl
theorem fc6 : Tryd.prog.cellsOf 6 = 1 := by kernel_rfl
theorem fo6 : isOne Tryd.prog 6 = true := by kernel_rfl
theorem fz6 : zeroCells Tryd.prog 6 = some [.lit (.int .u8 0)] := by kernel_rfl
theorem fc7 : Tryd.prog.cellsOf 7 = 4 := by kernel_rfl
theorem fa7 : isAggT Tryd.prog 7 = true := by kernel_rfl
theorem fz7 : zeroCells Tryd.prog 7 = some [.lit (.int .i64 0), .lit (.int .i64 0), .lit (.bool false), .lit (.int .u8 0)] := by kernel_rfl
theorem fk7_0 : fldOk Tryd.prog 7 0 = true := by kernel_rfl
theorem ff7_0 : offOf Tryd.prog 7 0 = 0 := by kernel_rfl
theorem ft7_0 : typOf Tryd.prog 7 0 = 2 := by kernel_rfl
theorem fk7_1 : fldOk Tryd.prog 7 1 = true := by kernel_rfl
theorem ff7_1 : offOf Tryd.prog 7 1 = 1 := by kernel_rfl
theorem ft7_1 : typOf Tryd.prog 7 1 = 3 := by kernel_rfl
theorem fk7_2 : fldOk Tryd.prog 7 2 = true := by kernel_rfl
theorem ff7_2 : offOf Tryd.prog 7 2 = 2 := by kernel_rfl
theorem ft7_2 : typOf Tryd.prog 7 2 = 4 := by kernel_rfl
theorem fk7_3 : fldOk Tryd.prog 7 3 = true := by kernel_rfl
theorem ff7_3 : offOf Tryd.prog 7 3 = 3 := by kernel_rfl
theorem ft7_3 : typOf Tryd.prog 7 3 = 6 := by kernel_rfl
theorem fc8 : Tryd.prog.cellsOf 8 = 4 := by kernel_rfl
theorem fa8 : isAggT Tryd.prog 8 = true := by kernel_rfl
theorem fz8 : zeroCells Tryd.prog 8 = some [.lit (.int .i64 0), .lit (.int .i64 0), .lit (.bool false), .lit (.int .u8 0)] := by kernel_rfl
theorem fk8_0 : fldOk Tryd.prog 8 0 = true := by kernel_rfl
theorem ff8_0 : offOf Tryd.prog 8 0 = 0 := by kernel_rfl
theorem ft8_0 : typOf Tryd.prog 8 0 = 2 := by kernel_rfl
theorem fk8_1 : fldOk Tryd.prog 8 1 = true := by kernel_rfl
theorem ff8_1 : offOf Tryd.prog 8 1 = 1 := by kernel_rfl
theorem ft8_1 : typOf Tryd.prog 8 1 = 3 := by kernel_rfl
theorem fk8_2 : fldOk Tryd.prog 8 2 = true := by kernel_rfl
theorem ff8_2 : offOf Tryd.prog 8 2 = 2 := by kernel_rfl
theorem ft8_2 : typOf Tryd.prog 8 2 = 4 := by kernel_rfl
theorem fk8_3 : fldOk Tryd.prog 8 3 = true := by kernel_rfl
theorem ff8_3 : offOf Tryd.prog 8 3 = 3 := by kernel_rfl
theorem ft8_3 : typOf Tryd.prog 8 3 = 6 := by kernel_rfl
theorem fc9 : Tryd.prog.cellsOf 9 = 1 := by kernel_rfl
theorem fo9 : isOne Tryd.prog 9 = true := by kernel_rfl
theorem fz9 : zeroCells Tryd.prog 9 = some [.lit (.string ByteArray.empty)] := by kernel_rfl
theorem fs9 : isSlStr Tryd.prog 9 = true := by kernel_rfl
theorem fc10 : Tryd.prog.cellsOf 10 = 1 := by kernel_rfl
theorem fo10 : isOne Tryd.prog 10 = true := by kernel_rfl
theorem fz10 : zeroCells Tryd.prog 10 = some [.lit (.string ByteArray.empty)] := by kernel_rfl
theorem fs10 : isSlStr Tryd.prog 10 = true := by kernel_rfl
theorem fc11 : Tryd.prog.cellsOf 11 = 1 := by kernel_rfl
theorem fo11 : isOne Tryd.prog 11 = true := by kernel_rfl
theorem fz11 : zeroCells Tryd.prog 11 = some [.lit (.string ByteArray.empty)] := by kernel_rfl
theorem fs11 : isSlStr Tryd.prog 11 = true := by kernel_rfl
theorem fc12 : Tryd.prog.cellsOf 12 = 1 := by kernel_rfl
theorem fo12 : isOne Tryd.prog 12 = true := by kernel_rfl
theorem fz12 : zeroCells Tryd.prog 12 = some [.lit (.int .u64 0)] := by kernel_rfl
theorem fc13 : Tryd.prog.cellsOf 13 = 2 := by kernel_rfl
theorem fa13 : isAggT Tryd.prog 13 = true := by kernel_rfl
theorem fz13 : zeroCells Tryd.prog 13 = some [.lit (.string ByteArray.empty), .lit (.int .u64 0)] := by kernel_rfl
theorem fk13_0 : fldOk Tryd.prog 13 0 = true := by kernel_rfl
theorem ff13_0 : offOf Tryd.prog 13 0 = 0 := by kernel_rfl
theorem ft13_0 : typOf Tryd.prog 13 0 = 9 := by kernel_rfl
theorem fk13_1 : fldOk Tryd.prog 13 1 = true := by kernel_rfl
theorem ff13_1 : offOf Tryd.prog 13 1 = 1 := by kernel_rfl
theorem ft13_1 : typOf Tryd.prog 13 1 = 12 := by kernel_rfl
theorem fc14 : Tryd.prog.cellsOf 14 = 2 := by kernel_rfl
theorem fa14 : isAggT Tryd.prog 14 = true := by kernel_rfl
theorem fz14 : zeroCells Tryd.prog 14 = some [.lit (.string ByteArray.empty), .lit (.int .u64 0)] := by kernel_rfl
theorem fk14_0 : fldOk Tryd.prog 14 0 = true := by kernel_rfl
theorem ff14_0 : offOf Tryd.prog 14 0 = 0 := by kernel_rfl
theorem ft14_0 : typOf Tryd.prog 14 0 = 9 := by kernel_rfl
theorem fk14_1 : fldOk Tryd.prog 14 1 = true := by kernel_rfl
theorem ff14_1 : offOf Tryd.prog 14 1 = 1 := by kernel_rfl
theorem ft14_1 : typOf Tryd.prog 14 1 = 12 := by kernel_rfl
theorem fc15 : Tryd.prog.cellsOf 15 = 1 := by kernel_rfl
theorem fo15 : isOne Tryd.prog 15 = true := by kernel_rfl
theorem fz15 : zeroCells Tryd.prog 15 = some [.lit (.pointer none)] := by kernel_rfl
theorem fc16 : Tryd.prog.cellsOf 16 = 1 := by kernel_rfl
theorem fo16 : isOne Tryd.prog 16 = true := by kernel_rfl
theorem fz16 : zeroCells Tryd.prog 16 = some [.lit (.pointer none)] := by kernel_rfl
theorem fc17 : Tryd.prog.cellsOf 17 = 1 := by kernel_rfl
theorem fo17 : isOne Tryd.prog 17 = true := by kernel_rfl
theorem fz17 : zeroCells Tryd.prog 17 = some [.lit (.pointer none)] := by kernel_rfl
theorem fc18 : Tryd.prog.cellsOf 18 = 1 := by kernel_rfl
theorem fa18 : isAggT Tryd.prog 18 = true := by kernel_rfl
theorem fz18 : zeroCells Tryd.prog 18 = some [.lit (.pointer none)] := by kernel_rfl
theorem fk18_0 : fldOk Tryd.prog 18 0 = true := by kernel_rfl
theorem ff18_0 : offOf Tryd.prog 18 0 = 0 := by kernel_rfl
theorem ft18_0 : typOf Tryd.prog 18 0 = 17 := by kernel_rfl
theorem fc19 : Tryd.prog.cellsOf 19 = 1 := by kernel_rfl
theorem fa19 : isAggT Tryd.prog 19 = true := by kernel_rfl
theorem fz19 : zeroCells Tryd.prog 19 = some [.lit (.pointer none)] := by kernel_rfl
theorem fk19_0 : fldOk Tryd.prog 19 0 = true := by kernel_rfl
theorem ff19_0 : offOf Tryd.prog 19 0 = 0 := by kernel_rfl
theorem ft19_0 : typOf Tryd.prog 19 0 = 17 := by kernel_rfl
theorem fc20 : Tryd.prog.cellsOf 20 = 1 := by kernel_rfl
theorem fo20 : isOne Tryd.prog 20 = true := by kernel_rfl
theorem fz20 : zeroCells Tryd.prog 20 = some [.lit .nilIface] := by kernel_rfl
theorem fc21 : Tryd.prog.cellsOf 21 = 1 := by kernel_rfl
theorem fo21 : isOne Tryd.prog 21 = true := by kernel_rfl
theorem fz21 : zeroCells Tryd.prog 21 = some [.lit (.int .i32 0)] := by kernel_rfl
theorem fc22 : Tryd.prog.cellsOf 22 = 1 := by kernel_rfl
theorem fo22 : isOne Tryd.prog 22 = true := by kernel_rfl
theorem fz22 : zeroCells Tryd.prog 22 = some [.lit (.slice none 0 0)] := by kernel_rfl
theorem fs22 : isSlStr Tryd.prog 22 = true := by kernel_rfl
theorem fp22 : apOk Tryd.prog 22 = true := by kernel_rfl
theorem fq22 : kOf Tryd.prog 22 = 2 := by kernel_rfl
theorem fb22 : bOf Tryd.prog 22 = 32 := by kernel_rfl
theorem fc23 : Tryd.prog.cellsOf 23 = 1 := by kernel_rfl
theorem fo23 : isOne Tryd.prog 23 = true := by kernel_rfl
theorem fz23 : zeroCells Tryd.prog 23 = some [.lit .nilFunc] := by kernel_rfl
theorem fc24 : Tryd.prog.cellsOf 24 = 2 := by kernel_rfl
theorem fa24 : isAggT Tryd.prog 24 = true := by kernel_rfl
theorem fz24 : zeroCells Tryd.prog 24 = some [.lit (.string ByteArray.empty), .lit (.string ByteArray.empty)] := by kernel_rfl
theorem fk24_0 : fldOk Tryd.prog 24 0 = true := by kernel_rfl
theorem ff24_0 : offOf Tryd.prog 24 0 = 0 := by kernel_rfl
theorem ft24_0 : typOf Tryd.prog 24 0 = 9 := by kernel_rfl
theorem fk24_1 : fldOk Tryd.prog 24 1 = true := by kernel_rfl
theorem ff24_1 : offOf Tryd.prog 24 1 = 1 := by kernel_rfl
theorem ft24_1 : typOf Tryd.prog 24 1 = 9 := by kernel_rfl
theorem fc25 : Tryd.prog.cellsOf 25 = 2 := by kernel_rfl
theorem fa25 : isAggT Tryd.prog 25 = true := by kernel_rfl
theorem fz25 : zeroCells Tryd.prog 25 = some [.lit (.string ByteArray.empty), .lit (.string ByteArray.empty)] := by kernel_rfl
theorem fk25_0 : fldOk Tryd.prog 25 0 = true := by kernel_rfl
theorem ff25_0 : offOf Tryd.prog 25 0 = 0 := by kernel_rfl
theorem ft25_0 : typOf Tryd.prog 25 0 = 9 := by kernel_rfl
theorem fk25_1 : fldOk Tryd.prog 25 1 = true := by kernel_rfl
theorem ff25_1 : offOf Tryd.prog 25 1 = 1 := by kernel_rfl
theorem ft25_1 : typOf Tryd.prog 25 1 = 9 := by kernel_rfl
theorem fc27 : Tryd.prog.cellsOf 27 = 1 := by kernel_rfl
theorem fo27 : isOne Tryd.prog 27 = true := by kernel_rfl
theorem fz27 : zeroCells Tryd.prog 27 = some [.lit .nilFunc] := by kernel_rfl
theorem fc28 : Tryd.prog.cellsOf 28 = 1 := by kernel_rfl
theorem fo28 : isOne Tryd.prog 28 = true := by kernel_rfl
theorem fz28 : zeroCells Tryd.prog 28 = some [.lit .nilFunc] := by kernel_rfl
theorem fc29 : Tryd.prog.cellsOf 29 = 1 := by kernel_rfl
theorem fo29 : isOne Tryd.prog 29 = true := by kernel_rfl
theorem fz29 : zeroCells Tryd.prog 29 = some [.lit .nilIface] := by kernel_rfl
theorem fc30 : Tryd.prog.cellsOf 30 = 1 := by kernel_rfl
theorem fo30 : isOne Tryd.prog 30 = true := by kernel_rfl
theorem fz30 : zeroCells Tryd.prog 30 = some [.lit .nilIface] := by kernel_rfl
theorem fc32 : Tryd.prog.cellsOf 32 = 1 := by kernel_rfl
theorem fo32 : isOne Tryd.prog 32 = true := by kernel_rfl
theorem fz32 : zeroCells Tryd.prog 32 = some [.lit .nilFunc] := by kernel_rfl
theorem fc33 : Tryd.prog.cellsOf 33 = 1 := by kernel_rfl
theorem fo33 : isOne Tryd.prog 33 = true := by kernel_rfl
theorem fz33 : zeroCells Tryd.prog 33 = some [.lit .nilFunc] := by kernel_rfl
theorem fc34 : Tryd.prog.cellsOf 34 = 1 := by kernel_rfl
theorem fo34 : isOne Tryd.prog 34 = true := by kernel_rfl
theorem fz34 : zeroCells Tryd.prog 34 = some [.lit .nilFunc] := by kernel_rfl
theorem fc35 : Tryd.prog.cellsOf 35 = 1 := by kernel_rfl
theorem fo35 : isOne Tryd.prog 35 = true := by kernel_rfl
theorem fz35 : zeroCells Tryd.prog 35 = some [.lit .nilFunc] := by kernel_rfl
theorem fc36 : Tryd.prog.cellsOf 36 = 1 := by kernel_rfl
theorem fo36 : isOne Tryd.prog 36 = true := by kernel_rfl
theorem fz36 : zeroCells Tryd.prog 36 = some [.lit .nilFunc] := by kernel_rfl
theorem fc37 : Tryd.prog.cellsOf 37 = 1 := by kernel_rfl
theorem fo37 : isOne Tryd.prog 37 = true := by kernel_rfl
theorem fz37 : zeroCells Tryd.prog 37 = some [.lit .nilFunc] := by kernel_rfl
theorem fc39 : Tryd.prog.cellsOf 39 = 1 := by kernel_rfl
theorem fo39 : isOne Tryd.prog 39 = true := by kernel_rfl
theorem fz39 : zeroCells Tryd.prog 39 = some [.lit .nilFunc] := by kernel_rfl
theorem fc40 : Tryd.prog.cellsOf 40 = 1 := by kernel_rfl
theorem fo40 : isOne Tryd.prog 40 = true := by kernel_rfl
theorem fz40 : zeroCells Tryd.prog 40 = some [.lit .nilFunc] := by kernel_rfl
theorem fc41 : Tryd.prog.cellsOf 41 = 1 := by kernel_rfl
theorem fo41 : isOne Tryd.prog 41 = true := by kernel_rfl
theorem fz41 : zeroCells Tryd.prog 41 = some [.lit .nilFunc] := by kernel_rfl
theorem fc42 : Tryd.prog.cellsOf 42 = 1 := by kernel_rfl
theorem fo42 : isOne Tryd.prog 42 = true := by kernel_rfl
theorem fz42 : zeroCells Tryd.prog 42 = some [.lit (.slice none 0 0)] := by kernel_rfl
theorem fs42 : isSlStr Tryd.prog 42 = true := by kernel_rfl
theorem fp42 : apOk Tryd.prog 42 = true := by kernel_rfl
theorem fq42 : kOf Tryd.prog 42 = 1 := by kernel_rfl
theorem fb42 : bOf Tryd.prog 42 = 16 := by kernel_rfl
theorem fc43 : Tryd.prog.cellsOf 43 = 1 := by kernel_rfl
theorem fo43 : isOne Tryd.prog 43 = true := by kernel_rfl
theorem fz43 : zeroCells Tryd.prog 43 = some [.lit .nilFunc] := by kernel_rfl
theorem fc44 : Tryd.prog.cellsOf 44 = 1 := by kernel_rfl
theorem fo44 : isOne Tryd.prog 44 = true := by kernel_rfl
theorem fz44 : zeroCells Tryd.prog 44 = some [.lit .nilFunc] := by kernel_rfl
theorem fc45 : Tryd.prog.cellsOf 45 = 1 := by kernel_rfl
theorem fo45 : isOne Tryd.prog 45 = true := by kernel_rfl
theorem fz45 : zeroCells Tryd.prog 45 = some [.lit (.int .i64 0)] := by kernel_rfl
theorem fc46 : Tryd.prog.cellsOf 46 = 1 := by kernel_rfl
theorem fo46 : isOne Tryd.prog 46 = true := by kernel_rfl
theorem fz46 : zeroCells Tryd.prog 46 = some [.lit .nilFunc] := by kernel_rfl
theorem fc47 : Tryd.prog.cellsOf 47 = 1 := by kernel_rfl
theorem fo47 : isOne Tryd.prog 47 = true := by kernel_rfl
theorem fz47 : zeroCells Tryd.prog 47 = some [.lit .nilFunc] := by kernel_rfl
theorem fc49 : Tryd.prog.cellsOf 49 = 1 := by kernel_rfl
theorem fo49 : isOne Tryd.prog 49 = true := by kernel_rfl
theorem fz49 : zeroCells Tryd.prog 49 = some [.lit .nilFunc] := by kernel_rfl
theorem fc50 : Tryd.prog.cellsOf 50 = 1 := by kernel_rfl
theorem fo50 : isOne Tryd.prog 50 = true := by kernel_rfl
theorem fz50 : zeroCells Tryd.prog 50 = some [.lit .nilFunc] := by kernel_rfl
theorem fc51 : Tryd.prog.cellsOf 51 = 1 := by kernel_rfl
theorem fo51 : isOne Tryd.prog 51 = true := by kernel_rfl
theorem fz51 : zeroCells Tryd.prog 51 = some [.lit .nilFunc] := by kernel_rfl
theorem fc52 : Tryd.prog.cellsOf 52 = 1 := by kernel_rfl
theorem fo52 : isOne Tryd.prog 52 = true := by kernel_rfl
theorem fz52 : zeroCells Tryd.prog 52 = some [.lit (.slice none 0 0)] := by kernel_rfl
theorem fs52 : isSlStr Tryd.prog 52 = true := by kernel_rfl
theorem fp52 : apOk Tryd.prog 52 = true := by kernel_rfl
theorem fq52 : kOf Tryd.prog 52 = 1 := by kernel_rfl
theorem fb52 : bOf Tryd.prog 52 = 1 := by kernel_rfl
theorem fc53 : Tryd.prog.cellsOf 53 = 1 := by kernel_rfl
theorem fo53 : isOne Tryd.prog 53 = true := by kernel_rfl
theorem fz53 : zeroCells Tryd.prog 53 = some [.lit .nilFunc] := by kernel_rfl
theorem fc54 : Tryd.prog.cellsOf 54 = 1 := by kernel_rfl
theorem fo54 : isOne Tryd.prog 54 = true := by kernel_rfl
theorem fz54 : zeroCells Tryd.prog 54 = some [.lit (.pointer none)] := by kernel_rfl
theorem fc55 : Tryd.prog.cellsOf 55 = 2 := by kernel_rfl
theorem fa55 : isAggT Tryd.prog 55 = true := by kernel_rfl
theorem fz55 : zeroCells Tryd.prog 55 = some [.lit (.string ByteArray.empty), .lit .nilIface] := by kernel_rfl
theorem fk55_0 : fldOk Tryd.prog 55 0 = true := by kernel_rfl
theorem ff55_0 : offOf Tryd.prog 55 0 = 0 := by kernel_rfl
theorem ft55_0 : typOf Tryd.prog 55 0 = 9 := by kernel_rfl
theorem fk55_1 : fldOk Tryd.prog 55 1 = true := by kernel_rfl
theorem ff55_1 : offOf Tryd.prog 55 1 = 1 := by kernel_rfl
theorem ft55_1 : typOf Tryd.prog 55 1 = 30 := by kernel_rfl
theorem fc56 : Tryd.prog.cellsOf 56 = 2 := by kernel_rfl
theorem fa56 : isAggT Tryd.prog 56 = true := by kernel_rfl
theorem fz56 : zeroCells Tryd.prog 56 = some [.lit (.string ByteArray.empty), .lit .nilIface] := by kernel_rfl
theorem fk56_0 : fldOk Tryd.prog 56 0 = true := by kernel_rfl
theorem ff56_0 : offOf Tryd.prog 56 0 = 0 := by kernel_rfl
theorem ft56_0 : typOf Tryd.prog 56 0 = 9 := by kernel_rfl
theorem fk56_1 : fldOk Tryd.prog 56 1 = true := by kernel_rfl
theorem ff56_1 : offOf Tryd.prog 56 1 = 1 := by kernel_rfl
theorem ft56_1 : typOf Tryd.prog 56 1 = 30 := by kernel_rfl
theorem fc57 : Tryd.prog.cellsOf 57 = 1 := by kernel_rfl
theorem fo57 : isOne Tryd.prog 57 = true := by kernel_rfl
theorem fz57 : zeroCells Tryd.prog 57 = some [.lit .nilFunc] := by kernel_rfl
theorem fc58 : Tryd.prog.cellsOf 58 = 1 := by kernel_rfl
theorem fo58 : isOne Tryd.prog 58 = true := by kernel_rfl
theorem fz58 : zeroCells Tryd.prog 58 = some [.lit .nilFunc] := by kernel_rfl
theorem fc59 : Tryd.prog.cellsOf 59 = 1 := by kernel_rfl
theorem fo59 : isOne Tryd.prog 59 = true := by kernel_rfl
theorem fz59 : zeroCells Tryd.prog 59 = some [.lit .nilFunc] := by kernel_rfl
theorem fc60 : Tryd.prog.cellsOf 60 = 1 := by kernel_rfl
theorem fo60 : isOne Tryd.prog 60 = true := by kernel_rfl
theorem fz60 : zeroCells Tryd.prog 60 = some [.lit (.pointer none)] := by kernel_rfl
theorem fc61 : Tryd.prog.cellsOf 61 = 1 := by kernel_rfl
theorem fo61 : isOne Tryd.prog 61 = true := by kernel_rfl
theorem fz61 : zeroCells Tryd.prog 61 = some [.lit .nilFunc] := by kernel_rfl
theorem fc62 : Tryd.prog.cellsOf 62 = 1 := by kernel_rfl
theorem fo62 : isOne Tryd.prog 62 = true := by kernel_rfl
theorem fz62 : zeroCells Tryd.prog 62 = some [.lit .nilFunc] := by kernel_rfl
theorem fc63 : Tryd.prog.cellsOf 63 = 1 := by kernel_rfl
theorem fo63 : isOne Tryd.prog 63 = true := by kernel_rfl
theorem fz63 : zeroCells Tryd.prog 63 = some [.lit .nilFunc] := by kernel_rfl
theorem fc64 : Tryd.prog.cellsOf 64 = 1 := by kernel_rfl
theorem fo64 : isOne Tryd.prog 64 = true := by kernel_rfl
theorem fc65 : Tryd.prog.cellsOf 65 = 1 := by kernel_rfl
theorem fo65 : isOne Tryd.prog 65 = true := by kernel_rfl
theorem fz65 : zeroCells Tryd.prog 65 = some [.lit (.int .u64 0)] := by kernel_rfl
theorem fc66 : Tryd.prog.cellsOf 66 = 3 := by kernel_rfl
theorem fa66 : isAggT Tryd.prog 66 = true := by kernel_rfl
theorem fk66_0 : fldOk Tryd.prog 66 0 = true := by kernel_rfl
theorem ff66_0 : offOf Tryd.prog 66 0 = 0 := by kernel_rfl
theorem ft66_0 : typOf Tryd.prog 66 0 = 17 := by kernel_rfl
theorem fk66_1 : fldOk Tryd.prog 66 1 = true := by kernel_rfl
theorem ff66_1 : offOf Tryd.prog 66 1 = 1 := by kernel_rfl
theorem ft66_1 : typOf Tryd.prog 66 1 = 64 := by kernel_rfl
theorem fk66_2 : fldOk Tryd.prog 66 2 = true := by kernel_rfl
theorem ff66_2 : offOf Tryd.prog 66 2 = 2 := by kernel_rfl
theorem ft66_2 : typOf Tryd.prog 66 2 = 65 := by kernel_rfl
theorem fc67 : Tryd.prog.cellsOf 67 = 3 := by kernel_rfl
theorem fa67 : isAggT Tryd.prog 67 = true := by kernel_rfl
theorem fk67_0 : fldOk Tryd.prog 67 0 = true := by kernel_rfl
theorem ff67_0 : offOf Tryd.prog 67 0 = 0 := by kernel_rfl
theorem ft67_0 : typOf Tryd.prog 67 0 = 17 := by kernel_rfl
theorem fk67_1 : fldOk Tryd.prog 67 1 = true := by kernel_rfl
theorem ff67_1 : offOf Tryd.prog 67 1 = 1 := by kernel_rfl
theorem ft67_1 : typOf Tryd.prog 67 1 = 64 := by kernel_rfl
theorem fk67_2 : fldOk Tryd.prog 67 2 = true := by kernel_rfl
theorem ff67_2 : offOf Tryd.prog 67 2 = 2 := by kernel_rfl
theorem ft67_2 : typOf Tryd.prog 67 2 = 65 := by kernel_rfl
theorem fc68 : Tryd.prog.cellsOf 68 = 1 := by kernel_rfl
theorem fo68 : isOne Tryd.prog 68 = true := by kernel_rfl
theorem fz68 : zeroCells Tryd.prog 68 = some [.lit .nilFunc] := by kernel_rfl
theorem fc69 : Tryd.prog.cellsOf 69 = 1 := by kernel_rfl
theorem fo69 : isOne Tryd.prog 69 = true := by kernel_rfl
theorem fz69 : zeroCells Tryd.prog 69 = some [.lit .nilIface] := by kernel_rfl
theorem fc70 : Tryd.prog.cellsOf 70 = 1 := by kernel_rfl
theorem fo70 : isOne Tryd.prog 70 = true := by kernel_rfl
theorem fz70 : zeroCells Tryd.prog 70 = some [.lit .nilIface] := by kernel_rfl
theorem fc71 : Tryd.prog.cellsOf 71 = 1 := by kernel_rfl
theorem fo71 : isOne Tryd.prog 71 = true := by kernel_rfl
theorem fz71 : zeroCells Tryd.prog 71 = some [.lit .nilFunc] := by kernel_rfl
theorem fc72 : Tryd.prog.cellsOf 72 = 1 := by kernel_rfl
theorem fo72 : isOne Tryd.prog 72 = true := by kernel_rfl
theorem fz72 : zeroCells Tryd.prog 72 = some [.lit (.int .u8 0)] := by kernel_rfl
theorem fc73 : Tryd.prog.cellsOf 73 = 1 := by kernel_rfl
theorem fo73 : isOne Tryd.prog 73 = true := by kernel_rfl
theorem fz73 : zeroCells Tryd.prog 73 = some [.lit .nilFunc] := by kernel_rfl
theorem fc74 : Tryd.prog.cellsOf 74 = 1 := by kernel_rfl
theorem fo74 : isOne Tryd.prog 74 = true := by kernel_rfl
theorem fz74 : zeroCells Tryd.prog 74 = some [.lit .nilFunc] := by kernel_rfl
theorem fc75 : Tryd.prog.cellsOf 75 = 1 := by kernel_rfl
theorem fo75 : isOne Tryd.prog 75 = true := by kernel_rfl
theorem fz75 : zeroCells Tryd.prog 75 = some [.lit .nilFunc] := by kernel_rfl
theorem fc76 : Tryd.prog.cellsOf 76 = 1 := by kernel_rfl
theorem fo76 : isOne Tryd.prog 76 = true := by kernel_rfl
theorem fz76 : zeroCells Tryd.prog 76 = some [.lit .nilFunc] := by kernel_rfl
theorem fc77 : Tryd.prog.cellsOf 77 = 1 := by kernel_rfl
theorem fo77 : isOne Tryd.prog 77 = true := by kernel_rfl
theorem fz77 : zeroCells Tryd.prog 77 = some [.lit .nilFunc] := by kernel_rfl
theorem fc78 : Tryd.prog.cellsOf 78 = 1 := by kernel_rfl
theorem fo78 : isOne Tryd.prog 78 = true := by kernel_rfl
theorem fz78 : zeroCells Tryd.prog 78 = some [.lit .nilFunc] := by kernel_rfl
theorem fc79 : Tryd.prog.cellsOf 79 = 256 := by kernel_rfl
theorem fa79 : isAggT Tryd.prog 79 = true := by kernel_rfl
theorem fc80 : Tryd.prog.cellsOf 80 = 256 := by kernel_rfl
theorem fa80 : isAggT Tryd.prog 80 = true := by kernel_rfl
theorem fc82 : Tryd.prog.cellsOf 82 = 1 := by kernel_rfl
theorem fo82 : isOne Tryd.prog 82 = true := by kernel_rfl
theorem fz82 : zeroCells Tryd.prog 82 = some [.lit .nilFunc] := by kernel_rfl
theorem fc83 : Tryd.prog.cellsOf 83 = 1 := by kernel_rfl
theorem fo83 : isOne Tryd.prog 83 = true := by kernel_rfl
theorem fz83 : zeroCells Tryd.prog 83 = some [.lit .nilFunc] := by kernel_rfl
theorem fc84 : Tryd.prog.cellsOf 84 = 1 := by kernel_rfl
theorem fo84 : isOne Tryd.prog 84 = true := by kernel_rfl
theorem fz84 : zeroCells Tryd.prog 84 = some [.lit (.int .u64 0)] := by kernel_rfl
theorem fc85 : Tryd.prog.cellsOf 85 = 1 := by kernel_rfl
theorem fo85 : isOne Tryd.prog 85 = true := by kernel_rfl
theorem fz85 : zeroCells Tryd.prog 85 = some [.lit .nilFunc] := by kernel_rfl
theorem fc86 : Tryd.prog.cellsOf 86 = 1 := by kernel_rfl
theorem fa86 : isAggT Tryd.prog 86 = true := by kernel_rfl
theorem fz86 : zeroCells Tryd.prog 86 = some [.lit (.pointer none)] := by kernel_rfl
theorem fk86_0 : fldOk Tryd.prog 86 0 = true := by kernel_rfl
theorem ff86_0 : offOf Tryd.prog 86 0 = 0 := by kernel_rfl
theorem ft86_0 : typOf Tryd.prog 86 0 = 17 := by kernel_rfl
theorem fc87 : Tryd.prog.cellsOf 87 = 1 := by kernel_rfl
theorem fa87 : isAggT Tryd.prog 87 = true := by kernel_rfl
theorem fz87 : zeroCells Tryd.prog 87 = some [.lit (.pointer none)] := by kernel_rfl
theorem fk87_0 : fldOk Tryd.prog 87 0 = true := by kernel_rfl
theorem ff87_0 : offOf Tryd.prog 87 0 = 0 := by kernel_rfl
theorem ft87_0 : typOf Tryd.prog 87 0 = 17 := by kernel_rfl
theorem fc88 : Tryd.prog.cellsOf 88 = 1 := by kernel_rfl
theorem fo88 : isOne Tryd.prog 88 = true := by kernel_rfl
theorem fz88 : zeroCells Tryd.prog 88 = some [.lit (.pointer none)] := by kernel_rfl
theorem fc89 : Tryd.prog.cellsOf 89 = 1 := by kernel_rfl
theorem fo89 : isOne Tryd.prog 89 = true := by kernel_rfl
theorem fz89 : zeroCells Tryd.prog 89 = some [.lit .nilFunc] := by kernel_rfl
theorem fc90 : Tryd.prog.cellsOf 90 = 1 := by kernel_rfl
theorem fo90 : isOne Tryd.prog 90 = true := by kernel_rfl
theorem fz90 : zeroCells Tryd.prog 90 = some [.lit .nilFunc] := by kernel_rfl
theorem fc91 : Tryd.prog.cellsOf 91 = 1 := by kernel_rfl
theorem fo91 : isOne Tryd.prog 91 = true := by kernel_rfl
theorem fz91 : zeroCells Tryd.prog 91 = some [.lit .nilFunc] := by kernel_rfl
theorem fc92 : Tryd.prog.cellsOf 92 = 1 := by kernel_rfl
theorem fo92 : isOne Tryd.prog 92 = true := by kernel_rfl
theorem fz92 : zeroCells Tryd.prog 92 = some [.lit .nilIface] := by kernel_rfl
theorem fc94 : Tryd.prog.cellsOf 94 = 1 := by kernel_rfl
theorem fo94 : isOne Tryd.prog 94 = true := by kernel_rfl
theorem fz94 : zeroCells Tryd.prog 94 = some [.lit .nilFunc] := by kernel_rfl
theorem fc95 : Tryd.prog.cellsOf 95 = 1 := by kernel_rfl
theorem fo95 : isOne Tryd.prog 95 = true := by kernel_rfl
theorem fz95 : zeroCells Tryd.prog 95 = some [.lit .nilIface] := by kernel_rfl
theorem fc96 : Tryd.prog.cellsOf 96 = 1 := by kernel_rfl
theorem fo96 : isOne Tryd.prog 96 = true := by kernel_rfl
theorem fz96 : zeroCells Tryd.prog 96 = some [.lit .nilFunc] := by kernel_rfl
theorem fc97 : Tryd.prog.cellsOf 97 = 1 := by kernel_rfl
theorem fo97 : isOne Tryd.prog 97 = true := by kernel_rfl
theorem fz97 : zeroCells Tryd.prog 97 = some [.lit .nilIface] := by kernel_rfl
theorem fc98 : Tryd.prog.cellsOf 98 = 1 := by kernel_rfl
theorem fo98 : isOne Tryd.prog 98 = true := by kernel_rfl
theorem fz98 : zeroCells Tryd.prog 98 = some [.lit (.slice none 0 0)] := by kernel_rfl
theorem fs98 : isSlStr Tryd.prog 98 = true := by kernel_rfl
theorem fp98 : apOk Tryd.prog 98 = true := by kernel_rfl
theorem fq98 : kOf Tryd.prog 98 = 1 := by kernel_rfl
theorem fb98 : bOf Tryd.prog 98 = 16 := by kernel_rfl
theorem fc99 : Tryd.prog.cellsOf 99 = 1 := by kernel_rfl
theorem fo99 : isOne Tryd.prog 99 = true := by kernel_rfl
theorem fz99 : zeroCells Tryd.prog 99 = some [.lit .nilFunc] := by kernel_rfl
theorem fc100 : Tryd.prog.cellsOf 100 = 1 := by kernel_rfl
theorem fo100 : isOne Tryd.prog 100 = true := by kernel_rfl
theorem fz100 : zeroCells Tryd.prog 100 = some [.lit .nilFunc] := by kernel_rfl
theorem fc101 : Tryd.prog.cellsOf 101 = 256 := by kernel_rfl
theorem fa101 : isAggT Tryd.prog 101 = true := by kernel_rfl
theorem fc102 : Tryd.prog.cellsOf 102 = 2 := by kernel_rfl
theorem fa102 : isAggT Tryd.prog 102 = true := by kernel_rfl
theorem fz102 : zeroCells Tryd.prog 102 = some [.lit (.int .u8 0), .lit (.int .u8 0)] := by kernel_rfl
theorem fk102_0 : fldOk Tryd.prog 102 0 = true := by kernel_rfl
theorem ff102_0 : offOf Tryd.prog 102 0 = 0 := by kernel_rfl
theorem ft102_0 : typOf Tryd.prog 102 0 = 5 := by kernel_rfl
theorem fk102_1 : fldOk Tryd.prog 102 1 = true := by kernel_rfl
theorem ff102_1 : offOf Tryd.prog 102 1 = 1 := by kernel_rfl
theorem ft102_1 : typOf Tryd.prog 102 1 = 5 := by kernel_rfl
theorem fc103 : Tryd.prog.cellsOf 103 = 2 := by kernel_rfl
theorem fa103 : isAggT Tryd.prog 103 = true := by kernel_rfl
theorem fz103 : zeroCells Tryd.prog 103 = some [.lit (.int .u8 0), .lit (.int .u8 0)] := by kernel_rfl
theorem fk103_0 : fldOk Tryd.prog 103 0 = true := by kernel_rfl
theorem ff103_0 : offOf Tryd.prog 103 0 = 0 := by kernel_rfl
theorem ft103_0 : typOf Tryd.prog 103 0 = 5 := by kernel_rfl
theorem fk103_1 : fldOk Tryd.prog 103 1 = true := by kernel_rfl
theorem ff103_1 : offOf Tryd.prog 103 1 = 1 := by kernel_rfl
theorem ft103_1 : typOf Tryd.prog 103 1 = 5 := by kernel_rfl
theorem fc104 : Tryd.prog.cellsOf 104 = 32 := by kernel_rfl
theorem fa104 : isAggT Tryd.prog 104 = true := by kernel_rfl
theorem fz104 : zeroCells Tryd.prog 104 = some [.lit (.int .u8 0), .lit (.int .u8 0), .lit (.int .u8 0), .lit (.int .u8 0), .lit (.int .u8 0), .lit (.int .u8 0), .lit (.int .u8 0), .lit (.int .u8 0), .lit (.int .u8 0), .lit (.int .u8 0), .lit (.int .u8 0), .lit (.int .u8 0), .lit (.int .u8 0), .lit (.int .u8 0), .lit (.int .u8 0), .lit (.int .u8 0), .lit (.int .u8 0), .lit (.int .u8 0), .lit (.int .u8 0), .lit (.int .u8 0), .lit (.int .u8 0), .lit (.int .u8 0), .lit (.int .u8 0), .lit (.int .u8 0), .lit (.int .u8 0), .lit (.int .u8 0), .lit (.int .u8 0), .lit (.int .u8 0), .lit (.int .u8 0), .lit (.int .u8 0), .lit (.int .u8 0), .lit (.int .u8 0)] := by kernel_rfl
theorem fc105 : Tryd.prog.cellsOf 105 = 1 := by kernel_rfl
theorem fo105 : isOne Tryd.prog 105 = true := by kernel_rfl
theorem fz105 : zeroCells Tryd.prog 105 = some [.lit .nilFunc] := by kernel_rfl
theorem fc106 : Tryd.prog.cellsOf 106 = 1 := by kernel_rfl
theorem fo106 : isOne Tryd.prog 106 = true := by kernel_rfl
theorem fz106 : zeroCells Tryd.prog 106 = some [.lit .nilFunc] := by kernel_rfl
theorem fc107 : Tryd.prog.cellsOf 107 = 1 := by kernel_rfl
theorem fo107 : isOne Tryd.prog 107 = true := by kernel_rfl
theorem fz107 : zeroCells Tryd.prog 107 = some [.lit (.pointer none)] := by kernel_rfl
theorem fc109 : Tryd.prog.cellsOf 109 = 1 := by kernel_rfl
theorem fo109 : isOne Tryd.prog 109 = true := by kernel_rfl
theorem fz109 : zeroCells Tryd.prog 109 = some [.lit .nilFunc] := by kernel_rfl
theorem fc110 : Tryd.prog.cellsOf 110 = 1 := by kernel_rfl
theorem fo110 : isOne Tryd.prog 110 = true := by kernel_rfl
theorem fz110 : zeroCells Tryd.prog 110 = some [.lit (.int .u64 0)] := by kernel_rfl
theorem fc111 : Tryd.prog.cellsOf 111 = 1 := by kernel_rfl
theorem fo111 : isOne Tryd.prog 111 = true := by kernel_rfl
theorem fz111 : zeroCells Tryd.prog 111 = some [.lit (.int .u32 0)] := by kernel_rfl
theorem fc113 : Tryd.prog.cellsOf 113 = 1 := by kernel_rfl
theorem fo113 : isOne Tryd.prog 113 = true := by kernel_rfl
theorem fz113 : zeroCells Tryd.prog 113 = some [.lit .nilFunc] := by kernel_rfl
theorem fc114 : Tryd.prog.cellsOf 114 = 1 := by kernel_rfl
theorem fo114 : isOne Tryd.prog 114 = true := by kernel_rfl
theorem fz114 : zeroCells Tryd.prog 114 = some [.lit .nilFunc] := by kernel_rfl
theorem fc115 : Tryd.prog.cellsOf 115 = 4 := by kernel_rfl
theorem fa115 : isAggT Tryd.prog 115 = true := by kernel_rfl
theorem fz115 : zeroCells Tryd.prog 115 = some [.lit (.pointer none), .lit (.pointer none), .lit (.pointer none), .lit (.string ByteArray.empty)] := by kernel_rfl
theorem fk115_0 : fldOk Tryd.prog 115 0 = true := by kernel_rfl
theorem ff115_0 : offOf Tryd.prog 115 0 = 0 := by kernel_rfl
theorem ft115_0 : typOf Tryd.prog 115 0 = 17 := by kernel_rfl
theorem fk115_1 : fldOk Tryd.prog 115 1 = true := by kernel_rfl
theorem ff115_1 : offOf Tryd.prog 115 1 = 1 := by kernel_rfl
theorem ft115_1 : typOf Tryd.prog 115 1 = 17 := by kernel_rfl
theorem fk115_2 : fldOk Tryd.prog 115 2 = true := by kernel_rfl
theorem ff115_2 : offOf Tryd.prog 115 2 = 2 := by kernel_rfl
theorem ft115_2 : typOf Tryd.prog 115 2 = 17 := by kernel_rfl
theorem fk115_3 : fldOk Tryd.prog 115 3 = true := by kernel_rfl
theorem ff115_3 : offOf Tryd.prog 115 3 = 3 := by kernel_rfl
theorem ft115_3 : typOf Tryd.prog 115 3 = 9 := by kernel_rfl
theorem fc116 : Tryd.prog.cellsOf 116 = 4 := by kernel_rfl
theorem fa116 : isAggT Tryd.prog 116 = true := by kernel_rfl
theorem fz116 : zeroCells Tryd.prog 116 = some [.lit (.pointer none), .lit (.pointer none), .lit (.pointer none), .lit (.string ByteArray.empty)] := by kernel_rfl
theorem fk116_0 : fldOk Tryd.prog 116 0 = true := by kernel_rfl
theorem ff116_0 : offOf Tryd.prog 116 0 = 0 := by kernel_rfl
theorem ft116_0 : typOf Tryd.prog 116 0 = 17 := by kernel_rfl
theorem fk116_1 : fldOk Tryd.prog 116 1 = true := by kernel_rfl
theorem ff116_1 : offOf Tryd.prog 116 1 = 1 := by kernel_rfl
theorem ft116_1 : typOf Tryd.prog 116 1 = 17 := by kernel_rfl
theorem fk116_2 : fldOk Tryd.prog 116 2 = true := by kernel_rfl
theorem ff116_2 : offOf Tryd.prog 116 2 = 2 := by kernel_rfl
theorem ft116_2 : typOf Tryd.prog 116 2 = 17 := by kernel_rfl
theorem fk116_3 : fldOk Tryd.prog 116 3 = true := by kernel_rfl
theorem ff116_3 : offOf Tryd.prog 116 3 = 3 := by kernel_rfl
theorem ft116_3 : typOf Tryd.prog 116 3 = 9 := by kernel_rfl
theorem fc117 : Tryd.prog.cellsOf 117 = 0 := by kernel_rfl
theorem fa117 : isAggT Tryd.prog 117 = true := by kernel_rfl
theorem fz117 : zeroCells Tryd.prog 117 = some [] := by kernel_rfl
theorem fc118 : Tryd.prog.cellsOf 118 = 0 := by kernel_rfl
theorem fa118 : isAggT Tryd.prog 118 = true := by kernel_rfl
theorem fz118 : zeroCells Tryd.prog 118 = some [] := by kernel_rfl
theorem fc119 : Tryd.prog.cellsOf 119 = 0 := by kernel_rfl
theorem fa119 : isAggT Tryd.prog 119 = true := by kernel_rfl
theorem fz119 : zeroCells Tryd.prog 119 = some [] := by kernel_rfl
theorem fc120 : Tryd.prog.cellsOf 120 = 1 := by kernel_rfl
theorem fo120 : isOne Tryd.prog 120 = true := by kernel_rfl
theorem fz120 : zeroCells Tryd.prog 120 = some [.lit .nilFunc] := by kernel_rfl
theorem fc121 : Tryd.prog.cellsOf 121 = 1 := by kernel_rfl
theorem fo121 : isOne Tryd.prog 121 = true := by kernel_rfl
theorem fz121 : zeroCells Tryd.prog 121 = some [.lit .nilFunc] := by kernel_rfl
theorem fc122 : Tryd.prog.cellsOf 122 = 1 := by kernel_rfl
theorem fo122 : isOne Tryd.prog 122 = true := by kernel_rfl
theorem fz122 : zeroCells Tryd.prog 122 = some [.lit (.int .u8 0)] := by kernel_rfl
theorem fc123 : Tryd.prog.cellsOf 123 = 1 := by kernel_rfl
theorem fo123 : isOne Tryd.prog 123 = true := by kernel_rfl
theorem fz123 : zeroCells Tryd.prog 123 = some [.lit .nilFunc] := by kernel_rfl
theorem fc124 : Tryd.prog.cellsOf 124 = 1 := by kernel_rfl
theorem fo124 : isOne Tryd.prog 124 = true := by kernel_rfl
theorem fz124 : zeroCells Tryd.prog 124 = some [.lit (.pointer none)] := by kernel_rfl
theorem fc125 : Tryd.prog.cellsOf 125 = 1 := by kernel_rfl
theorem fo125 : isOne Tryd.prog 125 = true := by kernel_rfl
theorem fz125 : zeroCells Tryd.prog 125 = some [.lit (.int .i32 0)] := by kernel_rfl
theorem fc126 : Tryd.prog.cellsOf 126 = 1 := by kernel_rfl
theorem fo126 : isOne Tryd.prog 126 = true := by kernel_rfl
theorem fz126 : zeroCells Tryd.prog 126 = some [.lit (.int .i32 0)] := by kernel_rfl
theorem fc127 : Tryd.prog.cellsOf 127 = 11 := by kernel_rfl
theorem fa127 : isAggT Tryd.prog 127 = true := by kernel_rfl
theorem fz127 : zeroCells Tryd.prog 127 = some [.lit (.int .u64 0), .lit (.int .u64 0), .lit (.int .u32 0), .lit (.int .u8 0), .lit (.int .u8 0), .lit (.int .u8 0), .lit (.int .u8 0), .lit .nilFunc, .lit (.pointer none), .lit (.int .i32 0), .lit (.int .i32 0)] := by kernel_rfl
theorem fk127_0 : fldOk Tryd.prog 127 0 = true := by kernel_rfl
theorem ff127_0 : offOf Tryd.prog 127 0 = 0 := by kernel_rfl
theorem ft127_0 : typOf Tryd.prog 127 0 = 12 := by kernel_rfl
theorem fk127_1 : fldOk Tryd.prog 127 1 = true := by kernel_rfl
theorem ff127_1 : offOf Tryd.prog 127 1 = 1 := by kernel_rfl
theorem ft127_1 : typOf Tryd.prog 127 1 = 12 := by kernel_rfl
theorem fk127_2 : fldOk Tryd.prog 127 2 = true := by kernel_rfl
theorem ff127_2 : offOf Tryd.prog 127 2 = 2 := by kernel_rfl
theorem ft127_2 : typOf Tryd.prog 127 2 = 111 := by kernel_rfl
theorem fk127_3 : fldOk Tryd.prog 127 3 = true := by kernel_rfl
theorem ff127_3 : offOf Tryd.prog 127 3 = 3 := by kernel_rfl
theorem ft127_3 : typOf Tryd.prog 127 3 = 122 := by kernel_rfl
theorem fk127_4 : fldOk Tryd.prog 127 4 = true := by kernel_rfl
theorem ff127_4 : offOf Tryd.prog 127 4 = 4 := by kernel_rfl
theorem ft127_4 : typOf Tryd.prog 127 4 = 5 := by kernel_rfl
theorem fk127_5 : fldOk Tryd.prog 127 5 = true := by kernel_rfl
theorem ff127_5 : offOf Tryd.prog 127 5 = 5 := by kernel_rfl
theorem ft127_5 : typOf Tryd.prog 127 5 = 5 := by kernel_rfl
theorem fk127_6 : fldOk Tryd.prog 127 6 = true := by kernel_rfl
theorem ff127_6 : offOf Tryd.prog 127 6 = 6 := by kernel_rfl
theorem ft127_6 : typOf Tryd.prog 127 6 = 72 := by kernel_rfl
theorem fk127_7 : fldOk Tryd.prog 127 7 = true := by kernel_rfl
theorem ff127_7 : offOf Tryd.prog 127 7 = 7 := by kernel_rfl
theorem ft127_7 : typOf Tryd.prog 127 7 = 123 := by kernel_rfl
theorem fk127_8 : fldOk Tryd.prog 127 8 = true := by kernel_rfl
theorem ff127_8 : offOf Tryd.prog 127 8 = 8 := by kernel_rfl
theorem ft127_8 : typOf Tryd.prog 127 8 = 124 := by kernel_rfl
theorem fk127_9 : fldOk Tryd.prog 127 9 = true := by kernel_rfl
theorem ff127_9 : offOf Tryd.prog 127 9 = 9 := by kernel_rfl
theorem ft127_9 : typOf Tryd.prog 127 9 = 125 := by kernel_rfl
theorem fk127_10 : fldOk Tryd.prog 127 10 = true := by kernel_rfl
theorem ff127_10 : offOf Tryd.prog 127 10 = 10 := by kernel_rfl
theorem ft127_10 : typOf Tryd.prog 127 10 = 126 := by kernel_rfl
theorem fc128 : Tryd.prog.cellsOf 128 = 11 := by kernel_rfl
theorem fa128 : isAggT Tryd.prog 128 = true := by kernel_rfl
theorem fz128 : zeroCells Tryd.prog 128 = some [.lit (.int .u64 0), .lit (.int .u64 0), .lit (.int .u32 0), .lit (.int .u8 0), .lit (.int .u8 0), .lit (.int .u8 0), .lit (.int .u8 0), .lit .nilFunc, .lit (.pointer none), .lit (.int .i32 0), .lit (.int .i32 0)] := by kernel_rfl
theorem fk128_0 : fldOk Tryd.prog 128 0 = true := by kernel_rfl
theorem ff128_0 : offOf Tryd.prog 128 0 = 0 := by kernel_rfl
theorem ft128_0 : typOf Tryd.prog 128 0 = 12 := by kernel_rfl
theorem fk128_1 : fldOk Tryd.prog 128 1 = true := by kernel_rfl
theorem ff128_1 : offOf Tryd.prog 128 1 = 1 := by kernel_rfl
theorem ft128_1 : typOf Tryd.prog 128 1 = 12 := by kernel_rfl
theorem fk128_2 : fldOk Tryd.prog 128 2 = true := by kernel_rfl
theorem ff128_2 : offOf Tryd.prog 128 2 = 2 := by kernel_rfl
theorem ft128_2 : typOf Tryd.prog 128 2 = 111 := by kernel_rfl
theorem fk128_3 : fldOk Tryd.prog 128 3 = true := by kernel_rfl
theorem ff128_3 : offOf Tryd.prog 128 3 = 3 := by kernel_rfl
theorem ft128_3 : typOf Tryd.prog 128 3 = 122 := by kernel_rfl
theorem fk128_4 : fldOk Tryd.prog 128 4 = true := by kernel_rfl
theorem ff128_4 : offOf Tryd.prog 128 4 = 4 := by kernel_rfl
theorem ft128_4 : typOf Tryd.prog 128 4 = 5 := by kernel_rfl
theorem fk128_5 : fldOk Tryd.prog 128 5 = true := by kernel_rfl
theorem ff128_5 : offOf Tryd.prog 128 5 = 5 := by kernel_rfl
theorem ft128_5 : typOf Tryd.prog 128 5 = 5 := by kernel_rfl
theorem fk128_6 : fldOk Tryd.prog 128 6 = true := by kernel_rfl
theorem ff128_6 : offOf Tryd.prog 128 6 = 6 := by kernel_rfl
theorem ft128_6 : typOf Tryd.prog 128 6 = 72 := by kernel_rfl
theorem fk128_7 : fldOk Tryd.prog 128 7 = true := by kernel_rfl
theorem ff128_7 : offOf Tryd.prog 128 7 = 7 := by kernel_rfl
theorem ft128_7 : typOf Tryd.prog 128 7 = 123 := by kernel_rfl
theorem fk128_8 : fldOk Tryd.prog 128 8 = true := by kernel_rfl
theorem ff128_8 : offOf Tryd.prog 128 8 = 8 := by kernel_rfl
theorem ft128_8 : typOf Tryd.prog 128 8 = 124 := by kernel_rfl
theorem fk128_9 : fldOk Tryd.prog 128 9 = true := by kernel_rfl
theorem ff128_9 : offOf Tryd.prog 128 9 = 9 := by kernel_rfl
theorem ft128_9 : typOf Tryd.prog 128 9 = 125 := by kernel_rfl
theorem fk128_10 : fldOk Tryd.prog 128 10 = true := by kernel_rfl
theorem ff128_10 : offOf Tryd.prog 128 10 = 10 := by kernel_rfl
theorem ft128_10 : typOf Tryd.prog 128 10 = 126 := by kernel_rfl
theorem fc129 : Tryd.prog.cellsOf 129 = 1 := by kernel_rfl
theorem fo129 : isOne Tryd.prog 129 = true := by kernel_rfl
theorem fz129 : zeroCells Tryd.prog 129 = some [.lit .nilFunc] := by kernel_rfl
theorem fc130 : Tryd.prog.cellsOf 130 = 1 := by kernel_rfl
theorem fo130 : isOne Tryd.prog 130 = true := by kernel_rfl
theorem fz130 : zeroCells Tryd.prog 130 = some [.lit .nilFunc] := by kernel_rfl
theorem fc131 : Tryd.prog.cellsOf 131 = 2 := by kernel_rfl
theorem fa131 : isAggT Tryd.prog 131 = true := by kernel_rfl
theorem fz131 : zeroCells Tryd.prog 131 = some [.lit (.string ByteArray.empty), .lit (.int .u8 0)] := by kernel_rfl
theorem fk131_0 : fldOk Tryd.prog 131 0 = true := by kernel_rfl
theorem ff131_0 : offOf Tryd.prog 131 0 = 0 := by kernel_rfl
theorem ft131_0 : typOf Tryd.prog 131 0 = 9 := by kernel_rfl
theorem fk131_1 : fldOk Tryd.prog 131 1 = true := by kernel_rfl
theorem ff131_1 : offOf Tryd.prog 131 1 = 1 := by kernel_rfl
theorem ft131_1 : typOf Tryd.prog 131 1 = 72 := by kernel_rfl
theorem fc132 : Tryd.prog.cellsOf 132 = 2 := by kernel_rfl
theorem fa132 : isAggT Tryd.prog 132 = true := by kernel_rfl
theorem fz132 : zeroCells Tryd.prog 132 = some [.lit (.string ByteArray.empty), .lit (.int .u8 0)] := by kernel_rfl
theorem fk132_0 : fldOk Tryd.prog 132 0 = true := by kernel_rfl
theorem ff132_0 : offOf Tryd.prog 132 0 = 0 := by kernel_rfl
theorem ft132_0 : typOf Tryd.prog 132 0 = 9 := by kernel_rfl
theorem fk132_1 : fldOk Tryd.prog 132 1 = true := by kernel_rfl
theorem ff132_1 : offOf Tryd.prog 132 1 = 1 := by kernel_rfl
theorem ft132_1 : typOf Tryd.prog 132 1 = 72 := by kernel_rfl
theorem fc133 : Tryd.prog.cellsOf 133 = 1 := by kernel_rfl
theorem fo133 : isOne Tryd.prog 133 = true := by kernel_rfl
theorem fz133 : zeroCells Tryd.prog 133 = some [.lit (.pointer none)] := by kernel_rfl
theorem fc134 : Tryd.prog.cellsOf 134 = 1 := by kernel_rfl
theorem fo134 : isOne Tryd.prog 134 = true := by kernel_rfl
theorem fz134 : zeroCells Tryd.prog 134 = some [.lit .nilFunc] := by kernel_rfl
theorem fc135 : Tryd.prog.cellsOf 135 = 1 := by kernel_rfl
theorem fo135 : isOne Tryd.prog 135 = true := by kernel_rfl
theorem fz135 : zeroCells Tryd.prog 135 = some [.lit (.int .u16 0)] := by kernel_rfl
theorem fc136 : Tryd.prog.cellsOf 136 = 5 := by kernel_rfl
theorem fa136 : isAggT Tryd.prog 136 = true := by kernel_rfl
theorem fz136 : zeroCells Tryd.prog 136 = some [.lit (.int .i32 0), .lit (.int .u16 0), .lit (.int .u16 0), .lit (.int .u32 0), .lit (.int .u32 0)] := by kernel_rfl
theorem fk136_0 : fldOk Tryd.prog 136 0 = true := by kernel_rfl
theorem ff136_0 : offOf Tryd.prog 136 0 = 0 := by kernel_rfl
theorem ft136_0 : typOf Tryd.prog 136 0 = 125 := by kernel_rfl
theorem fk136_1 : fldOk Tryd.prog 136 1 = true := by kernel_rfl
theorem ff136_1 : offOf Tryd.prog 136 1 = 1 := by kernel_rfl
theorem ft136_1 : typOf Tryd.prog 136 1 = 135 := by kernel_rfl
theorem fk136_2 : fldOk Tryd.prog 136 2 = true := by kernel_rfl
theorem ff136_2 : offOf Tryd.prog 136 2 = 2 := by kernel_rfl
theorem ft136_2 : typOf Tryd.prog 136 2 = 135 := by kernel_rfl
theorem fk136_3 : fldOk Tryd.prog 136 3 = true := by kernel_rfl
theorem ff136_3 : offOf Tryd.prog 136 3 = 3 := by kernel_rfl
theorem ft136_3 : typOf Tryd.prog 136 3 = 111 := by kernel_rfl
theorem fk136_4 : fldOk Tryd.prog 136 4 = true := by kernel_rfl
theorem ff136_4 : offOf Tryd.prog 136 4 = 4 := by kernel_rfl
theorem ft136_4 : typOf Tryd.prog 136 4 = 111 := by kernel_rfl
theorem fc137 : Tryd.prog.cellsOf 137 = 5 := by kernel_rfl
theorem fa137 : isAggT Tryd.prog 137 = true := by kernel_rfl
theorem fz137 : zeroCells Tryd.prog 137 = some [.lit (.int .i32 0), .lit (.int .u16 0), .lit (.int .u16 0), .lit (.int .u32 0), .lit (.int .u32 0)] := by kernel_rfl
theorem fk137_0 : fldOk Tryd.prog 137 0 = true := by kernel_rfl
theorem ff137_0 : offOf Tryd.prog 137 0 = 0 := by kernel_rfl
theorem ft137_0 : typOf Tryd.prog 137 0 = 125 := by kernel_rfl
theorem fk137_1 : fldOk Tryd.prog 137 1 = true := by kernel_rfl
theorem ff137_1 : offOf Tryd.prog 137 1 = 1 := by kernel_rfl
theorem ft137_1 : typOf Tryd.prog 137 1 = 135 := by kernel_rfl
theorem fk137_2 : fldOk Tryd.prog 137 2 = true := by kernel_rfl
theorem ff137_2 : offOf Tryd.prog 137 2 = 2 := by kernel_rfl
theorem ft137_2 : typOf Tryd.prog 137 2 = 135 := by kernel_rfl
theorem fk137_3 : fldOk Tryd.prog 137 3 = true := by kernel_rfl
theorem ff137_3 : offOf Tryd.prog 137 3 = 3 := by kernel_rfl
theorem ft137_3 : typOf Tryd.prog 137 3 = 111 := by kernel_rfl
theorem fk137_4 : fldOk Tryd.prog 137 4 = true := by kernel_rfl
theorem ff137_4 : offOf Tryd.prog 137 4 = 4 := by kernel_rfl
theorem ft137_4 : typOf Tryd.prog 137 4 = 111 := by kernel_rfl
theorem fc138 : Tryd.prog.cellsOf 138 = 1 := by kernel_rfl
theorem fo138 : isOne Tryd.prog 138 = true := by kernel_rfl
theorem fz138 : zeroCells Tryd.prog 138 = some [.lit (.slice none 0 0)] := by kernel_rfl
theorem fs138 : isSlStr Tryd.prog 138 = true := by kernel_rfl
theorem fp138 : apOk Tryd.prog 138 = true := by kernel_rfl
theorem fq138 : kOf Tryd.prog 138 = 4 := by kernel_rfl
theorem fb138 : bOf Tryd.prog 138 = 16 := by kernel_rfl
theorem fc139 : Tryd.prog.cellsOf 139 = 1 := by kernel_rfl
theorem fo139 : isOne Tryd.prog 139 = true := by kernel_rfl
theorem fz139 : zeroCells Tryd.prog 139 = some [.lit (.int .i32 0)] := by kernel_rfl
theorem fc140 : Tryd.prog.cellsOf 140 = 4 := by kernel_rfl
theorem fa140 : isAggT Tryd.prog 140 = true := by kernel_rfl
theorem fz140 : zeroCells Tryd.prog 140 = some [.lit (.int .i32 0), .lit (.int .i32 0), .lit (.int .i32 0), .lit (.int .i32 0)] := by kernel_rfl
theorem fk140_0 : fldOk Tryd.prog 140 0 = true := by kernel_rfl
theorem ff140_0 : offOf Tryd.prog 140 0 = 0 := by kernel_rfl
theorem ft140_0 : typOf Tryd.prog 140 0 = 125 := by kernel_rfl
theorem fk140_1 : fldOk Tryd.prog 140 1 = true := by kernel_rfl
theorem ff140_1 : offOf Tryd.prog 140 1 = 1 := by kernel_rfl
theorem ft140_1 : typOf Tryd.prog 140 1 = 126 := by kernel_rfl
theorem fk140_2 : fldOk Tryd.prog 140 2 = true := by kernel_rfl
theorem ff140_2 : offOf Tryd.prog 140 2 = 2 := by kernel_rfl
theorem ft140_2 : typOf Tryd.prog 140 2 = 139 := by kernel_rfl
theorem fk140_3 : fldOk Tryd.prog 140 3 = true := by kernel_rfl
theorem ff140_3 : offOf Tryd.prog 140 3 = 3 := by kernel_rfl
theorem ft140_3 : typOf Tryd.prog 140 3 = 139 := by kernel_rfl
theorem fc141 : Tryd.prog.cellsOf 141 = 4 := by kernel_rfl
theorem fa141 : isAggT Tryd.prog 141 = true := by kernel_rfl
theorem fz141 : zeroCells Tryd.prog 141 = some [.lit (.int .i32 0), .lit (.int .i32 0), .lit (.int .i32 0), .lit (.int .i32 0)] := by kernel_rfl
theorem fk141_0 : fldOk Tryd.prog 141 0 = true := by kernel_rfl
theorem ff141_0 : offOf Tryd.prog 141 0 = 0 := by kernel_rfl
theorem ft141_0 : typOf Tryd.prog 141 0 = 125 := by kernel_rfl
theorem fk141_1 : fldOk Tryd.prog 141 1 = true := by kernel_rfl
theorem ff141_1 : offOf Tryd.prog 141 1 = 1 := by kernel_rfl
theorem ft141_1 : typOf Tryd.prog 141 1 = 126 := by kernel_rfl
theorem fk141_2 : fldOk Tryd.prog 141 2 = true := by kernel_rfl
theorem ff141_2 : offOf Tryd.prog 141 2 = 2 := by kernel_rfl
theorem ft141_2 : typOf Tryd.prog 141 2 = 139 := by kernel_rfl
theorem fk141_3 : fldOk Tryd.prog 141 3 = true := by kernel_rfl
theorem ff141_3 : offOf Tryd.prog 141 3 = 3 := by kernel_rfl
theorem ft141_3 : typOf Tryd.prog 141 3 = 139 := by kernel_rfl
theorem fc142 : Tryd.prog.cellsOf 142 = 1 := by kernel_rfl
theorem fo142 : isOne Tryd.prog 142 = true := by kernel_rfl
theorem fz142 : zeroCells Tryd.prog 142 = some [.lit (.pointer none)] := by kernel_rfl
attribute [go_sem] Tryd.underlying0 Tryd.underlying1 fc1 fo1 fz1 Tryd.underlying2 fc2 fo2 fz2 Tryd.underlying3 fc3 fo3 fz3 Tryd.underlying4 fc4 fo4 fz4 Tryd.underlying5 fc5 fo5 fz5 Tryd.underlying6 fc6 fo6 fz6 Tryd.underlying7 fc7 fa7 fz7 fk7_0 ff7_0 ft7_0 fk7_1 ff7_1 ft7_1 fk7_2 ff7_2 ft7_2 fk7_3 ff7_3 ft7_3 Tryd.underlying8 fc8 fa8 fz8 fk8_0 ff8_0 ft8_0 fk8_1 ff8_1 ft8_1 fk8_2 ff8_2 ft8_2 fk8_3 ff8_3 ft8_3 Tryd.underlying9 fc9 fo9 fz9 fs9 Tryd.underlying10 fc10 fo10 fz10 fs10 Tryd.underlying11 fc11 fo11 fz11 fs11 Tryd.underlying12 fc12 fo12 fz12 Tryd.underlying13 fc13 fa13 fz13 fk13_0 ff13_0 ft13_0 fk13_1 ff13_1 ft13_1 Tryd.underlying14 fc14 fa14 fz14 fk14_0 ff14_0 ft14_0 fk14_1 ff14_1 ft14_1 Tryd.underlying15 fc15 fo15 fz15 Tryd.underlying16 fc16 fo16 fz16 Tryd.underlying17 fc17 fo17 fz17 Tryd.underlying18 fc18 fa18 fz18 fk18_0 ff18_0 ft18_0 Tryd.underlying19 fc19 fa19 fz19 fk19_0 ff19_0 ft19_0 Tryd.underlying20 fc20 fo20 fz20 Tryd.underlying21 fc21 fo21 fz21 Tryd.underlying22 fc22 fo22 fz22 fs22 fp22 fq22 fb22 Tryd.underlying23 fc23 fo23 fz23 Tryd.underlying24 fc24 fa24 fz24 fk24_0 ff24_0 ft24_0 fk24_1 ff24_1 ft24_1 Tryd.underlying25 fc25 fa25 fz25 fk25_0 ff25_0 ft25_0 fk25_1 ff25_1 ft25_1 Tryd.underlying26 Tryd.underlying27 fc27 fo27 fz27 Tryd.underlying28 fc28 fo28 fz28 Tryd.underlying29 fc29 fo29 fz29 Tryd.underlying30 fc30 fo30 fz30 Tryd.underlying31 Tryd.underlying32 fc32 fo32 fz32 Tryd.underlying33 fc33 fo33 fz33 Tryd.underlying34 fc34 fo34 fz34 Tryd.underlying35 fc35 fo35 fz35 Tryd.underlying36 fc36 fo36 fz36 Tryd.underlying37 fc37 fo37 fz37 Tryd.underlying38 Tryd.underlying39 fc39 fo39 fz39 Tryd.underlying40 fc40 fo40 fz40 Tryd.underlying41 fc41 fo41 fz41 Tryd.underlying42 fc42 fo42 fz42 fs42 fp42 fq42 fb42 Tryd.underlying43 fc43 fo43 fz43 Tryd.underlying44 fc44 fo44 fz44 Tryd.underlying45 fc45 fo45 fz45 Tryd.underlying46 fc46 fo46 fz46 Tryd.underlying47 fc47 fo47 fz47 Tryd.underlying48 Tryd.underlying49 fc49 fo49 fz49 Tryd.underlying50 fc50 fo50 fz50 Tryd.underlying51 fc51 fo51 fz51 Tryd.underlying52 fc52 fo52 fz52 fs52 fp52 fq52 fb52 Tryd.underlying53 fc53 fo53 fz53 Tryd.underlying54 fc54 fo54 fz54 Tryd.underlying55 fc55 fa55 fz55 fk55_0 ff55_0 ft55_0 fk55_1 ff55_1 ft55_1 Tryd.underlying56 fc56 fa56 fz56 fk56_0 ff56_0 ft56_0 fk56_1 ff56_1 ft56_1 Tryd.underlying57 fc57 fo57 fz57 Tryd.underlying58 fc58 fo58 fz58 Tryd.underlying59 fc59 fo59 fz59 Tryd.underlying60 fc60 fo60 fz60 Tryd.underlying61 fc61 fo61 fz61 Tryd.underlying62 fc62 fo62 fz62 Tryd.underlying63 fc63 fo63 fz63 Tryd.underlying64 fc64 fo64 Tryd.underlying65 fc65 fo65 fz65 Tryd.underlying66 fc66 fa66 fk66_0 ff66_0 ft66_0 fk66_1 ff66_1 ft66_1 fk66_2 ff66_2 ft66_2 Tryd.underlying67 fc67 fa67 fk67_0 ff67_0 ft67_0 fk67_1 ff67_1 ft67_1 fk67_2 ff67_2 ft67_2 Tryd.underlying68 fc68 fo68 fz68 Tryd.underlying69 fc69 fo69 fz69 Tryd.underlying70 fc70 fo70 fz70 Tryd.underlying71 fc71 fo71 fz71 Tryd.underlying72 fc72 fo72 fz72 Tryd.underlying73 fc73 fo73 fz73 Tryd.underlying74 fc74 fo74 fz74 Tryd.underlying75 fc75 fo75 fz75 Tryd.underlying76 fc76 fo76 fz76 Tryd.underlying77 fc77 fo77 fz77 Tryd.underlying78 fc78 fo78 fz78 Tryd.underlying79 fc79 fa79 Tryd.underlying80 fc80 fa80 Tryd.underlying81 Tryd.underlying82 fc82 fo82 fz82 Tryd.underlying83 fc83 fo83 fz83 Tryd.underlying84 fc84 fo84 fz84 Tryd.underlying85 fc85 fo85 fz85 Tryd.underlying86 fc86 fa86 fz86 fk86_0 ff86_0 ft86_0 Tryd.underlying87 fc87 fa87 fz87 fk87_0 ff87_0 ft87_0 Tryd.underlying88 fc88 fo88 fz88 Tryd.underlying89 fc89 fo89 fz89 Tryd.underlying90 fc90 fo90 fz90 Tryd.underlying91 fc91 fo91 fz91 Tryd.underlying92 fc92 fo92 fz92 Tryd.underlying93 Tryd.underlying94 fc94 fo94 fz94 Tryd.underlying95 fc95 fo95 fz95 Tryd.underlying96 fc96 fo96 fz96 Tryd.underlying97 fc97 fo97 fz97 Tryd.underlying98 fc98 fo98 fz98 fs98 fp98 fq98 fb98 Tryd.underlying99 fc99 fo99 fz99 Tryd.underlying100 fc100 fo100 fz100 Tryd.underlying101 fc101 fa101 Tryd.underlying102 fc102 fa102 fz102 fk102_0 ff102_0 ft102_0 fk102_1 ff102_1 ft102_1 Tryd.underlying103 fc103 fa103 fz103 fk103_0 ff103_0 ft103_0 fk103_1 ff103_1 ft103_1 Tryd.underlying104 fc104 fa104 fz104 Tryd.underlying105 fc105 fo105 fz105 Tryd.underlying106 fc106 fo106 fz106 Tryd.underlying107 fc107 fo107 fz107 Tryd.underlying108 Tryd.underlying109 fc109 fo109 fz109 Tryd.underlying110 fc110 fo110 fz110 Tryd.underlying111 fc111 fo111 fz111 Tryd.underlying112 Tryd.underlying113 fc113 fo113 fz113 Tryd.underlying114 fc114 fo114 fz114 Tryd.underlying115 fc115 fa115 fz115 fk115_0 ff115_0 ft115_0 fk115_1 ff115_1 ft115_1 fk115_2 ff115_2 ft115_2 fk115_3 ff115_3 ft115_3 Tryd.underlying116 fc116 fa116 fz116 fk116_0 ff116_0 ft116_0 fk116_1 ff116_1 ft116_1 fk116_2 ff116_2 ft116_2 fk116_3 ff116_3 ft116_3 Tryd.underlying117 fc117 fa117 fz117 Tryd.underlying118 fc118 fa118 fz118 Tryd.underlying119 fc119 fa119 fz119 Tryd.underlying120 fc120 fo120 fz120 Tryd.underlying121 fc121 fo121 fz121 Tryd.underlying122 fc122 fo122 fz122 Tryd.underlying123 fc123 fo123 fz123 Tryd.underlying124 fc124 fo124 fz124 Tryd.underlying125 fc125 fo125 fz125 Tryd.underlying126 fc126 fo126 fz126 Tryd.underlying127 fc127 fa127 fz127 fk127_0 ff127_0 ft127_0 fk127_1 ff127_1 ft127_1 fk127_2 ff127_2 ft127_2 fk127_3 ff127_3 ft127_3 fk127_4 ff127_4 ft127_4 fk127_5 ff127_5 ft127_5 fk127_6 ff127_6 ft127_6 fk127_7 ff127_7 ft127_7 fk127_8 ff127_8 ft127_8 fk127_9 ff127_9 ft127_9 fk127_10 ff127_10 ft127_10 Tryd.underlying128 fc128 fa128 fz128 fk128_0 ff128_0 ft128_0 fk128_1 ff128_1 ft128_1 fk128_2 ff128_2 ft128_2 fk128_3 ff128_3 ft128_3 fk128_4 ff128_4 ft128_4 fk128_5 ff128_5 ft128_5 fk128_6 ff128_6 ft128_6 fk128_7 ff128_7 ft128_7 fk128_8 ff128_8 ft128_8 fk128_9 ff128_9 ft128_9 fk128_10 ff128_10 ft128_10 Tryd.underlying129 fc129 fo129 fz129 Tryd.underlying130 fc130 fo130 fz130 Tryd.underlying131 fc131 fa131 fz131 fk131_0 ff131_0 ft131_0 fk131_1 ff131_1 ft131_1 Tryd.underlying132 fc132 fa132 fz132 fk132_0 ff132_0 ft132_0 fk132_1 ff132_1 ft132_1 Tryd.underlying133 fc133 fo133 fz133 Tryd.underlying134 fc134 fo134 fz134 Tryd.underlying135 fc135 fo135 fz135 Tryd.underlying136 fc136 fa136 fz136 fk136_0 ff136_0 ft136_0 fk136_1 ff136_1 ft136_1 fk136_2 ff136_2 ft136_2 fk136_3 ff136_3 ft136_3 fk136_4 ff136_4 ft136_4 Tryd.underlying137 fc137 fa137 fz137 fk137_0 ff137_0 ft137_0 fk137_1 ff137_1 ft137_1 fk137_2 ff137_2 ft137_2 fk137_3 ff137_3 ft137_3 fk137_4 ff137_4 ft137_4 Tryd.underlying138 fc138 fo138 fz138 fs138 fp138 fq138 fb138 Tryd.underlying139 fc139 fo139 fz139 Tryd.underlying140 fc140 fa140 fz140 fk140_0 ff140_0 ft140_0 fk140_1 ff140_1 ft140_1 fk140_2 ff140_2 ft140_2 fk140_3 ff140_3 ft140_3 Tryd.underlying141 fc141 fa141 fz141 fk141_0 ff141_0 ft141_0 fk141_1 ff141_1 ft141_1 fk141_2 ff141_2 ft141_2 fk141_3 ff141_3 ft141_3 Tryd.underlying142 fc142 fo142 fz142
end Go.Proofs
