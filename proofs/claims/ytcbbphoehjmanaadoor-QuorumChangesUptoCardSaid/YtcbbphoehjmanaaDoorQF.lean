/- Facts of the types, each closed. -/
import Derived.Test.YtcbbphoehjmanaaDoorProg
import Derived.Test.YtcbbphoehjmanaaDoorAbRun2
set_option linter.unusedSimpArgs false
set_option linter.unusedVariables false
namespace Go.Proofs
open Go Go.Abs
theorem fol : Tryd.prog.follows .mixedOrders = true := by kernel_rfl
theorem fc1 : Tryd.prog.cellsOf 1 = 1 := by kernel_rfl
theorem fo1 : isOne Tryd.prog 1 = true := by kernel_rfl
theorem fz1 : zeroCells Tryd.prog 1 = some [.lit .nilFunc] := by kernel_rfl
theorem fc2 : Tryd.prog.cellsOf 2 = 1 := by kernel_rfl
theorem fo2 : isOne Tryd.prog 2 = true := by kernel_rfl
theorem fz2 : zeroCells Tryd.prog 2 = some [.lit (.int .i64 0)] := by kernel_rfl
theorem fc3 : Tryd.prog.cellsOf 3 = 1 := by kernel_rfl
theorem fo3 : isOne Tryd.prog 3 = true := by kernel_rfl
theorem fz3 : zeroCells Tryd.prog 3 = some [.lit (.int .i64 0)] := by kernel_rfl
theorem fc4 : Tryd.prog.cellsOf 4 = 1 := by kernel_rfl
theorem fo4 : isOne Tryd.prog 4 = true := by kernel_rfl
theorem fz4 : zeroCells Tryd.prog 4 = some [.lit (.bool false)] := by kernel_rfl
theorem fc5 : Tryd.prog.cellsOf 5 = 1 := by kernel_rfl
theorem fo5 : isOne Tryd.prog 5 = true := by kernel_rfl
theorem fz5 : zeroCells Tryd.prog 5 = some [.lit (.int .u8 0)] := by kernel_rfl
theorem fc6 : Tryd.prog.cellsOf 6 = 1 := by kernel_rfl
theorem fo6 : isOne Tryd.prog 6 = true := by kernel_rfl
theorem fz6 : zeroCells Tryd.prog 6 = some [.lit (.int .u8 0)] := by kernel_rfl
theorem fc7 : Tryd.prog.cellsOf 7 = 4 := by kernel_rfl
theorem fa7 : isAggT Tryd.prog 7 = true := by kernel_rfl
theorem fz7 : zeroCells Tryd.prog 7 = some [.lit (.int .i64 0), .lit (.int .i64 0), .lit (.bool false), .lit (.int .u8 0)] := by kernel_rfl
theorem fk7_0 : fldOk Tryd.prog 7 0 = true := by kernel_rfl
theorem ff7_0 : offOf Tryd.prog 7 0 = 0 := by kernel_rfl
theorem ft7_0 : typOf Tryd.prog 7 0 = 2 := by kernel_rfl
theorem fk7_1 : fldOk Tryd.prog 7 1 = true := by kernel_rfl
theorem ff7_1 : offOf Tryd.prog 7 1 = 1 := by kernel_rfl
theorem ft7_1 : typOf Tryd.prog 7 1 = 3 := by kernel_rfl
theorem fk7_2 : fldOk Tryd.prog 7 2 = true := by kernel_rfl
theorem ff7_2 : offOf Tryd.prog 7 2 = 2 := by kernel_rfl
theorem ft7_2 : typOf Tryd.prog 7 2 = 4 := by kernel_rfl
theorem fk7_3 : fldOk Tryd.prog 7 3 = true := by kernel_rfl
theorem ff7_3 : offOf Tryd.prog 7 3 = 3 := by kernel_rfl
theorem ft7_3 : typOf Tryd.prog 7 3 = 6 := by kernel_rfl
theorem fc8 : Tryd.prog.cellsOf 8 = 4 := by kernel_rfl
theorem fa8 : isAggT Tryd.prog 8 = true := by kernel_rfl
theorem fz8 : zeroCells Tryd.prog 8 = some [.lit (.int .i64 0), .lit (.int .i64 0), .lit (.bool false), .lit (.int .u8 0)] := by kernel_rfl
theorem fk8_0 : fldOk Tryd.prog 8 0 = true := by kernel_rfl
theorem ff8_0 : offOf Tryd.prog 8 0 = 0 := by kernel_rfl
theorem ft8_0 : typOf Tryd.prog 8 0 = 2 := by kernel_rfl
theorem fk8_1 : fldOk Tryd.prog 8 1 = true := by kernel_rfl
theorem ff8_1 : offOf Tryd.prog 8 1 = 1 := by kernel_rfl
theorem ft8_1 : typOf Tryd.prog 8 1 = 3 := by kernel_rfl
theorem fk8_2 : fldOk Tryd.prog 8 2 = true := by kernel_rfl
theorem ff8_2 : offOf Tryd.prog 8 2 = 2 := by kernel_rfl
theorem ft8_2 : typOf Tryd.prog 8 2 = 4 := by kernel_rfl
theorem fk8_3 : fldOk Tryd.prog 8 3 = true := by kernel_rfl
theorem ff8_3 : offOf Tryd.prog 8 3 = 3 := by kernel_rfl
theorem ft8_3 : typOf Tryd.prog 8 3 = 6 := by kernel_rfl
theorem fc9 : Tryd.prog.cellsOf 9 = 1 := by kernel_rfl
theorem fo9 : isOne Tryd.prog 9 = true := by kernel_rfl
theorem fz9 : zeroCells Tryd.prog 9 = some [.lit (.string ByteArray.empty)] := by kernel_rfl
theorem fs9 : isSlStr Tryd.prog 9 = true := by kernel_rfl
theorem fc10 : Tryd.prog.cellsOf 10 = 1 := by kernel_rfl
theorem fo10 : isOne Tryd.prog 10 = true := by kernel_rfl
theorem fz10 : zeroCells Tryd.prog 10 = some [.lit (.string ByteArray.empty)] := by kernel_rfl
theorem fs10 : isSlStr Tryd.prog 10 = true := by kernel_rfl
theorem fc11 : Tryd.prog.cellsOf 11 = 1 := by kernel_rfl
theorem fo11 : isOne Tryd.prog 11 = true := by kernel_rfl
theorem fz11 : zeroCells Tryd.prog 11 = some [.lit (.string ByteArray.empty)] := by kernel_rfl
theorem fs11 : isSlStr Tryd.prog 11 = true := by kernel_rfl
theorem fc12 : Tryd.prog.cellsOf 12 = 1 := by kernel_rfl
theorem fo12 : isOne Tryd.prog 12 = true := by kernel_rfl
theorem fz12 : zeroCells Tryd.prog 12 = some [.lit (.int .u64 0)] := by kernel_rfl
theorem fc13 : Tryd.prog.cellsOf 13 = 2 := by kernel_rfl
theorem fa13 : isAggT Tryd.prog 13 = true := by kernel_rfl
theorem fz13 : zeroCells Tryd.prog 13 = some [.lit (.string ByteArray.empty), .lit (.int .u64 0)] := by kernel_rfl
theorem fk13_0 : fldOk Tryd.prog 13 0 = true := by kernel_rfl
theorem ff13_0 : offOf Tryd.prog 13 0 = 0 := by kernel_rfl
theorem ft13_0 : typOf Tryd.prog 13 0 = 9 := by kernel_rfl
theorem fk13_1 : fldOk Tryd.prog 13 1 = true := by kernel_rfl
theorem ff13_1 : offOf Tryd.prog 13 1 = 1 := by kernel_rfl
theorem ft13_1 : typOf Tryd.prog 13 1 = 12 := by kernel_rfl
theorem fc14 : Tryd.prog.cellsOf 14 = 2 := by kernel_rfl
theorem fa14 : isAggT Tryd.prog 14 = true := by kernel_rfl
theorem fz14 : zeroCells Tryd.prog 14 = some [.lit (.string ByteArray.empty), .lit (.int .u64 0)] := by kernel_rfl
theorem fk14_0 : fldOk Tryd.prog 14 0 = true := by kernel_rfl
theorem ff14_0 : offOf Tryd.prog 14 0 = 0 := by kernel_rfl
theorem ft14_0 : typOf Tryd.prog 14 0 = 9 := by kernel_rfl
theorem fk14_1 : fldOk Tryd.prog 14 1 = true := by kernel_rfl
theorem ff14_1 : offOf Tryd.prog 14 1 = 1 := by kernel_rfl
theorem ft14_1 : typOf Tryd.prog 14 1 = 12 := by kernel_rfl
theorem fc15 : Tryd.prog.cellsOf 15 = 1 := by kernel_rfl
theorem fo15 : isOne Tryd.prog 15 = true := by kernel_rfl
theorem fz15 : zeroCells Tryd.prog 15 = some [.lit (.pointer none)] := by kernel_rfl
theorem fc16 : Tryd.prog.cellsOf 16 = 1 := by kernel_rfl
theorem fo16 : isOne Tryd.prog 16 = true := by kernel_rfl
theorem fz16 : zeroCells Tryd.prog 16 = some [.lit (.pointer none)] := by kernel_rfl
theorem fc17 : Tryd.prog.cellsOf 17 = 1 := by kernel_rfl
theorem fo17 : isOne Tryd.prog 17 = true := by kernel_rfl
theorem fz17 : zeroCells Tryd.prog 17 = some [.lit (.pointer none)] := by kernel_rfl
theorem fc18 : Tryd.prog.cellsOf 18 = 1 := by kernel_rfl
theorem fa18 : isAggT Tryd.prog 18 = true := by kernel_rfl
theorem fz18 : zeroCells Tryd.prog 18 = some [.lit (.pointer none)] := by kernel_rfl
theorem fk18_0 : fldOk Tryd.prog 18 0 = true := by kernel_rfl
theorem ff18_0 : offOf Tryd.prog 18 0 = 0 := by kernel_rfl
theorem ft18_0 : typOf Tryd.prog 18 0 = 17 := by kernel_rfl
theorem fc19 : Tryd.prog.cellsOf 19 = 1 := by kernel_rfl
theorem fa19 : isAggT Tryd.prog 19 = true := by kernel_rfl
theorem fz19 : zeroCells Tryd.prog 19 = some [.lit (.pointer none)] := by kernel_rfl
theorem fk19_0 : fldOk Tryd.prog 19 0 = true := by kernel_rfl
theorem ff19_0 : offOf Tryd.prog 19 0 = 0 := by kernel_rfl
theorem ft19_0 : typOf Tryd.prog 19 0 = 17 := by kernel_rfl
theorem fc20 : Tryd.prog.cellsOf 20 = 1 := by kernel_rfl
theorem fo20 : isOne Tryd.prog 20 = true := by kernel_rfl
theorem fz20 : zeroCells Tryd.prog 20 = some [.lit .nilIface] := by kernel_rfl
theorem fc21 : Tryd.prog.cellsOf 21 = 1 := by kernel_rfl
theorem fo21 : isOne Tryd.prog 21 = true := by kernel_rfl
theorem fz21 : zeroCells Tryd.prog 21 = some [.lit (.int .i32 0)] := by kernel_rfl
theorem fc22 : Tryd.prog.cellsOf 22 = 1 := by kernel_rfl
theorem fo22 : isOne Tryd.prog 22 = true := by kernel_rfl
theorem fz22 : zeroCells Tryd.prog 22 = some [.lit (.slice none 0 0)] := by kernel_rfl
theorem fs22 : isSlStr Tryd.prog 22 = true := by kernel_rfl
theorem fp22 : apOk Tryd.prog 22 = true := by kernel_rfl
theorem fq22 : kOf Tryd.prog 22 = 5 := by kernel_rfl
theorem fb22 : bOf Tryd.prog 22 = 112 := by kernel_rfl
theorem fc23 : Tryd.prog.cellsOf 23 = 1 := by kernel_rfl
theorem fo23 : isOne Tryd.prog 23 = true := by kernel_rfl
theorem fz23 : zeroCells Tryd.prog 23 = some [.lit .nilFunc] := by kernel_rfl
theorem fc24 : Tryd.prog.cellsOf 24 = 1 := by kernel_rfl
theorem fo24 : isOne Tryd.prog 24 = true := by kernel_rfl
theorem fz24 : zeroCells Tryd.prog 24 = some [.lit (.slice none 0 0)] := by kernel_rfl
theorem fs24 : isSlStr Tryd.prog 24 = true := by kernel_rfl
theorem fp24 : apOk Tryd.prog 24 = true := by kernel_rfl
theorem fq24 : kOf Tryd.prog 24 = 1 := by kernel_rfl
theorem fb24 : bOf Tryd.prog 24 = 8 := by kernel_rfl
theorem fc25 : Tryd.prog.cellsOf 25 = 5 := by kernel_rfl
theorem fa25 : isAggT Tryd.prog 25 = true := by kernel_rfl
theorem fz25 : zeroCells Tryd.prog 25 = some [.lit (.slice none 0 0), .lit (.slice none 0 0), .lit (.slice none 0 0), .lit (.slice none 0 0), .lit (.string ByteArray.empty)] := by kernel_rfl
theorem fk25_0 : fldOk Tryd.prog 25 0 = true := by kernel_rfl
theorem ff25_0 : offOf Tryd.prog 25 0 = 0 := by kernel_rfl
theorem ft25_0 : typOf Tryd.prog 25 0 = 24 := by kernel_rfl
theorem fk25_1 : fldOk Tryd.prog 25 1 = true := by kernel_rfl
theorem ff25_1 : offOf Tryd.prog 25 1 = 1 := by kernel_rfl
theorem ft25_1 : typOf Tryd.prog 25 1 = 24 := by kernel_rfl
theorem fk25_2 : fldOk Tryd.prog 25 2 = true := by kernel_rfl
theorem ff25_2 : offOf Tryd.prog 25 2 = 2 := by kernel_rfl
theorem ft25_2 : typOf Tryd.prog 25 2 = 24 := by kernel_rfl
theorem fk25_3 : fldOk Tryd.prog 25 3 = true := by kernel_rfl
theorem ff25_3 : offOf Tryd.prog 25 3 = 3 := by kernel_rfl
theorem ft25_3 : typOf Tryd.prog 25 3 = 24 := by kernel_rfl
theorem fk25_4 : fldOk Tryd.prog 25 4 = true := by kernel_rfl
theorem ff25_4 : offOf Tryd.prog 25 4 = 4 := by kernel_rfl
theorem ft25_4 : typOf Tryd.prog 25 4 = 9 := by kernel_rfl
theorem fc26 : Tryd.prog.cellsOf 26 = 5 := by kernel_rfl
theorem fa26 : isAggT Tryd.prog 26 = true := by kernel_rfl
theorem fz26 : zeroCells Tryd.prog 26 = some [.lit (.slice none 0 0), .lit (.slice none 0 0), .lit (.slice none 0 0), .lit (.slice none 0 0), .lit (.string ByteArray.empty)] := by kernel_rfl
theorem fk26_0 : fldOk Tryd.prog 26 0 = true := by kernel_rfl
theorem ff26_0 : offOf Tryd.prog 26 0 = 0 := by kernel_rfl
theorem ft26_0 : typOf Tryd.prog 26 0 = 24 := by kernel_rfl
theorem fk26_1 : fldOk Tryd.prog 26 1 = true := by kernel_rfl
theorem ff26_1 : offOf Tryd.prog 26 1 = 1 := by kernel_rfl
theorem ft26_1 : typOf Tryd.prog 26 1 = 24 := by kernel_rfl
theorem fk26_2 : fldOk Tryd.prog 26 2 = true := by kernel_rfl
theorem ff26_2 : offOf Tryd.prog 26 2 = 2 := by kernel_rfl
theorem ft26_2 : typOf Tryd.prog 26 2 = 24 := by kernel_rfl
theorem fk26_3 : fldOk Tryd.prog 26 3 = true := by kernel_rfl
theorem ff26_3 : offOf Tryd.prog 26 3 = 3 := by kernel_rfl
theorem ft26_3 : typOf Tryd.prog 26 3 = 24 := by kernel_rfl
theorem fk26_4 : fldOk Tryd.prog 26 4 = true := by kernel_rfl
theorem ff26_4 : offOf Tryd.prog 26 4 = 4 := by kernel_rfl
theorem ft26_4 : typOf Tryd.prog 26 4 = 9 := by kernel_rfl
theorem fc27 : Tryd.prog.cellsOf 27 = 1 := by kernel_rfl
theorem fo27 : isOne Tryd.prog 27 = true := by kernel_rfl
theorem fz27 : zeroCells Tryd.prog 27 = some [.lit .nilFunc] := by kernel_rfl
theorem fc28 : Tryd.prog.cellsOf 28 = 1 := by kernel_rfl
theorem fo28 : isOne Tryd.prog 28 = true := by kernel_rfl
theorem fz28 : zeroCells Tryd.prog 28 = some [.lit .nilFunc] := by kernel_rfl
theorem fc29 : Tryd.prog.cellsOf 29 = 1 := by kernel_rfl
theorem fo29 : isOne Tryd.prog 29 = true := by kernel_rfl
theorem fz29 : zeroCells Tryd.prog 29 = some [.lit .nilFunc] := by kernel_rfl
theorem fc30 : Tryd.prog.cellsOf 30 = 1 := by kernel_rfl
theorem fo30 : isOne Tryd.prog 30 = true := by kernel_rfl
theorem fz30 : zeroCells Tryd.prog 30 = some [.lit .nilIface] := by kernel_rfl
theorem fc31 : Tryd.prog.cellsOf 31 = 1 := by kernel_rfl
theorem fo31 : isOne Tryd.prog 31 = true := by kernel_rfl
theorem fz31 : zeroCells Tryd.prog 31 = some [.lit .nilIface] := by kernel_rfl
theorem fc33 : Tryd.prog.cellsOf 33 = 1 := by kernel_rfl
theorem fo33 : isOne Tryd.prog 33 = true := by kernel_rfl
theorem fz33 : zeroCells Tryd.prog 33 = some [.lit .nilFunc] := by kernel_rfl
theorem fc34 : Tryd.prog.cellsOf 34 = 1 := by kernel_rfl
theorem fo34 : isOne Tryd.prog 34 = true := by kernel_rfl
theorem fz34 : zeroCells Tryd.prog 34 = some [.lit .nilFunc] := by kernel_rfl
theorem fc35 : Tryd.prog.cellsOf 35 = 1 := by kernel_rfl
theorem fo35 : isOne Tryd.prog 35 = true := by kernel_rfl
theorem fz35 : zeroCells Tryd.prog 35 = some [.lit .nilFunc] := by kernel_rfl
theorem fc36 : Tryd.prog.cellsOf 36 = 1 := by kernel_rfl
theorem fo36 : isOne Tryd.prog 36 = true := by kernel_rfl
theorem fz36 : zeroCells Tryd.prog 36 = some [.lit .nilFunc] := by kernel_rfl
theorem fc38 : Tryd.prog.cellsOf 38 = 1 := by kernel_rfl
theorem fo38 : isOne Tryd.prog 38 = true := by kernel_rfl
theorem fz38 : zeroCells Tryd.prog 38 = some [.lit .nilFunc] := by kernel_rfl
theorem fc39 : Tryd.prog.cellsOf 39 = 1 := by kernel_rfl
theorem fo39 : isOne Tryd.prog 39 = true := by kernel_rfl
theorem fz39 : zeroCells Tryd.prog 39 = some [.lit .nilFunc] := by kernel_rfl
theorem fc41 : Tryd.prog.cellsOf 41 = 1 := by kernel_rfl
theorem fo41 : isOne Tryd.prog 41 = true := by kernel_rfl
theorem fz41 : zeroCells Tryd.prog 41 = some [.lit .nilFunc] := by kernel_rfl
theorem fc42 : Tryd.prog.cellsOf 42 = 1 := by kernel_rfl
theorem fo42 : isOne Tryd.prog 42 = true := by kernel_rfl
theorem fz42 : zeroCells Tryd.prog 42 = some [.lit .nilFunc] := by kernel_rfl
theorem fc44 : Tryd.prog.cellsOf 44 = 1 := by kernel_rfl
theorem fo44 : isOne Tryd.prog 44 = true := by kernel_rfl
theorem fz44 : zeroCells Tryd.prog 44 = some [.lit .nilFunc] := by kernel_rfl
theorem fc45 : Tryd.prog.cellsOf 45 = 1 := by kernel_rfl
theorem fo45 : isOne Tryd.prog 45 = true := by kernel_rfl
theorem fz45 : zeroCells Tryd.prog 45 = some [.lit .nilFunc] := by kernel_rfl
theorem fc47 : Tryd.prog.cellsOf 47 = 1 := by kernel_rfl
theorem fo47 : isOne Tryd.prog 47 = true := by kernel_rfl
theorem fz47 : zeroCells Tryd.prog 47 = some [.lit .nilFunc] := by kernel_rfl
theorem fc48 : Tryd.prog.cellsOf 48 = 1 := by kernel_rfl
theorem fo48 : isOne Tryd.prog 48 = true := by kernel_rfl
theorem fz48 : zeroCells Tryd.prog 48 = some [.lit .nilFunc] := by kernel_rfl
theorem fc49 : Tryd.prog.cellsOf 49 = 1 := by kernel_rfl
theorem fo49 : isOne Tryd.prog 49 = true := by kernel_rfl
theorem fz49 : zeroCells Tryd.prog 49 = some [.lit .nilFunc] := by kernel_rfl
theorem fc50 : Tryd.prog.cellsOf 50 = 1 := by kernel_rfl
theorem fo50 : isOne Tryd.prog 50 = true := by kernel_rfl
theorem fz50 : zeroCells Tryd.prog 50 = some [.lit (.slice none 0 0)] := by kernel_rfl
theorem fs50 : isSlStr Tryd.prog 50 = true := by kernel_rfl
theorem fp50 : apOk Tryd.prog 50 = true := by kernel_rfl
theorem fq50 : kOf Tryd.prog 50 = 1 := by kernel_rfl
theorem fb50 : bOf Tryd.prog 50 = 1 := by kernel_rfl
theorem fc51 : Tryd.prog.cellsOf 51 = 1 := by kernel_rfl
theorem fo51 : isOne Tryd.prog 51 = true := by kernel_rfl
theorem fz51 : zeroCells Tryd.prog 51 = some [.lit .nilFunc] := by kernel_rfl
theorem fc52 : Tryd.prog.cellsOf 52 = 1 := by kernel_rfl
theorem fo52 : isOne Tryd.prog 52 = true := by kernel_rfl
theorem fz52 : zeroCells Tryd.prog 52 = some [.lit .nilFunc] := by kernel_rfl
theorem fc53 : Tryd.prog.cellsOf 53 = 1 := by kernel_rfl
theorem fo53 : isOne Tryd.prog 53 = true := by kernel_rfl
theorem fz53 : zeroCells Tryd.prog 53 = some [.lit .nilFunc] := by kernel_rfl
theorem fc54 : Tryd.prog.cellsOf 54 = 1 := by kernel_rfl
theorem fo54 : isOne Tryd.prog 54 = true := by kernel_rfl
theorem fz54 : zeroCells Tryd.prog 54 = some [.lit (.int .i64 0)] := by kernel_rfl
theorem fc55 : Tryd.prog.cellsOf 55 = 1 := by kernel_rfl
theorem fo55 : isOne Tryd.prog 55 = true := by kernel_rfl
theorem fz55 : zeroCells Tryd.prog 55 = some [.lit .nilFunc] := by kernel_rfl
theorem fc56 : Tryd.prog.cellsOf 56 = 1 := by kernel_rfl
theorem fo56 : isOne Tryd.prog 56 = true := by kernel_rfl
theorem fz56 : zeroCells Tryd.prog 56 = some [.lit .nilFunc] := by kernel_rfl
theorem fc57 : Tryd.prog.cellsOf 57 = 1 := by kernel_rfl
theorem fo57 : isOne Tryd.prog 57 = true := by kernel_rfl
theorem fz57 : zeroCells Tryd.prog 57 = some [.lit (.pointer none)] := by kernel_rfl
theorem fc58 : Tryd.prog.cellsOf 58 = 1 := by kernel_rfl
theorem fo58 : isOne Tryd.prog 58 = true := by kernel_rfl
theorem fz58 : zeroCells Tryd.prog 58 = some [.lit .nilFunc] := by kernel_rfl
theorem fc59 : Tryd.prog.cellsOf 59 = 1 := by kernel_rfl
theorem fo59 : isOne Tryd.prog 59 = true := by kernel_rfl
theorem fz59 : zeroCells Tryd.prog 59 = some [.lit .nilFunc] := by kernel_rfl
theorem fc60 : Tryd.prog.cellsOf 60 = 1 := by kernel_rfl
theorem fo60 : isOne Tryd.prog 60 = true := by kernel_rfl
theorem fz60 : zeroCells Tryd.prog 60 = some [.lit .nilFunc] := by kernel_rfl
theorem fc61 : Tryd.prog.cellsOf 61 = 1 := by kernel_rfl
theorem fo61 : isOne Tryd.prog 61 = true := by kernel_rfl
theorem fz61 : zeroCells Tryd.prog 61 = some [.lit .nilFunc] := by kernel_rfl
theorem fc62 : Tryd.prog.cellsOf 62 = 1 := by kernel_rfl
theorem fo62 : isOne Tryd.prog 62 = true := by kernel_rfl
theorem fz62 : zeroCells Tryd.prog 62 = some [.lit .nilFunc] := by kernel_rfl
theorem fc63 : Tryd.prog.cellsOf 63 = 1 := by kernel_rfl
theorem fo63 : isOne Tryd.prog 63 = true := by kernel_rfl
theorem fz63 : zeroCells Tryd.prog 63 = some [.lit .nilFunc] := by kernel_rfl
theorem fc64 : Tryd.prog.cellsOf 64 = 1 := by kernel_rfl
theorem fo64 : isOne Tryd.prog 64 = true := by kernel_rfl
theorem fz64 : zeroCells Tryd.prog 64 = some [.lit (.pointer none)] := by kernel_rfl
theorem fc65 : Tryd.prog.cellsOf 65 = 2 := by kernel_rfl
theorem fa65 : isAggT Tryd.prog 65 = true := by kernel_rfl
theorem fz65 : zeroCells Tryd.prog 65 = some [.lit (.string ByteArray.empty), .lit .nilIface] := by kernel_rfl
theorem fk65_0 : fldOk Tryd.prog 65 0 = true := by kernel_rfl
theorem ff65_0 : offOf Tryd.prog 65 0 = 0 := by kernel_rfl
theorem ft65_0 : typOf Tryd.prog 65 0 = 9 := by kernel_rfl
theorem fk65_1 : fldOk Tryd.prog 65 1 = true := by kernel_rfl
theorem ff65_1 : offOf Tryd.prog 65 1 = 1 := by kernel_rfl
theorem ft65_1 : typOf Tryd.prog 65 1 = 31 := by kernel_rfl
theorem fc66 : Tryd.prog.cellsOf 66 = 2 := by kernel_rfl
theorem fa66 : isAggT Tryd.prog 66 = true := by kernel_rfl
theorem fz66 : zeroCells Tryd.prog 66 = some [.lit (.string ByteArray.empty), .lit .nilIface] := by kernel_rfl
theorem fk66_0 : fldOk Tryd.prog 66 0 = true := by kernel_rfl
theorem ff66_0 : offOf Tryd.prog 66 0 = 0 := by kernel_rfl
theorem ft66_0 : typOf Tryd.prog 66 0 = 9 := by kernel_rfl
theorem fk66_1 : fldOk Tryd.prog 66 1 = true := by kernel_rfl
theorem ff66_1 : offOf Tryd.prog 66 1 = 1 := by kernel_rfl
theorem ft66_1 : typOf Tryd.prog 66 1 = 31 := by kernel_rfl
theorem fc67 : Tryd.prog.cellsOf 67 = 1 := by kernel_rfl
theorem fo67 : isOne Tryd.prog 67 = true := by kernel_rfl
theorem fc68 : Tryd.prog.cellsOf 68 = 1 := by kernel_rfl
theorem fo68 : isOne Tryd.prog 68 = true := by kernel_rfl
theorem fz68 : zeroCells Tryd.prog 68 = some [.lit (.int .u64 0)] := by kernel_rfl
theorem fc69 : Tryd.prog.cellsOf 69 = 3 := by kernel_rfl
theorem fa69 : isAggT Tryd.prog 69 = true := by kernel_rfl
theorem fk69_0 : fldOk Tryd.prog 69 0 = true := by kernel_rfl
theorem ff69_0 : offOf Tryd.prog 69 0 = 0 := by kernel_rfl
theorem ft69_0 : typOf Tryd.prog 69 0 = 17 := by kernel_rfl
theorem fk69_1 : fldOk Tryd.prog 69 1 = true := by kernel_rfl
theorem ff69_1 : offOf Tryd.prog 69 1 = 1 := by kernel_rfl
theorem ft69_1 : typOf Tryd.prog 69 1 = 67 := by kernel_rfl
theorem fk69_2 : fldOk Tryd.prog 69 2 = true := by kernel_rfl
theorem ff69_2 : offOf Tryd.prog 69 2 = 2 := by kernel_rfl
theorem ft69_2 : typOf Tryd.prog 69 2 = 68 := by kernel_rfl
theorem fc70 : Tryd.prog.cellsOf 70 = 3 := by kernel_rfl
theorem fa70 : isAggT Tryd.prog 70 = true := by kernel_rfl
theorem fk70_0 : fldOk Tryd.prog 70 0 = true := by kernel_rfl
theorem ff70_0 : offOf Tryd.prog 70 0 = 0 := by kernel_rfl
theorem ft70_0 : typOf Tryd.prog 70 0 = 17 := by kernel_rfl
theorem fk70_1 : fldOk Tryd.prog 70 1 = true := by kernel_rfl
theorem ff70_1 : offOf Tryd.prog 70 1 = 1 := by kernel_rfl
theorem ft70_1 : typOf Tryd.prog 70 1 = 67 := by kernel_rfl
theorem fk70_2 : fldOk Tryd.prog 70 2 = true := by kernel_rfl
theorem ff70_2 : offOf Tryd.prog 70 2 = 2 := by kernel_rfl
theorem ft70_2 : typOf Tryd.prog 70 2 = 68 := by kernel_rfl
theorem fc71 : Tryd.prog.cellsOf 71 = 1 := by kernel_rfl
theorem fo71 : isOne Tryd.prog 71 = true := by kernel_rfl
theorem fz71 : zeroCells Tryd.prog 71 = some [.lit .nilFunc] := by kernel_rfl
theorem fc72 : Tryd.prog.cellsOf 72 = 1 := by kernel_rfl
theorem fo72 : isOne Tryd.prog 72 = true := by kernel_rfl
theorem fz72 : zeroCells Tryd.prog 72 = some [.lit .nilIface] := by kernel_rfl
theorem fc73 : Tryd.prog.cellsOf 73 = 1 := by kernel_rfl
theorem fo73 : isOne Tryd.prog 73 = true := by kernel_rfl
theorem fz73 : zeroCells Tryd.prog 73 = some [.lit .nilIface] := by kernel_rfl
theorem fc74 : Tryd.prog.cellsOf 74 = 1 := by kernel_rfl
theorem fo74 : isOne Tryd.prog 74 = true := by kernel_rfl
theorem fz74 : zeroCells Tryd.prog 74 = some [.lit .nilFunc] := by kernel_rfl
theorem fc75 : Tryd.prog.cellsOf 75 = 1 := by kernel_rfl
theorem fo75 : isOne Tryd.prog 75 = true := by kernel_rfl
theorem fz75 : zeroCells Tryd.prog 75 = some [.lit (.int .u8 0)] := by kernel_rfl
theorem fc76 : Tryd.prog.cellsOf 76 = 1 := by kernel_rfl
theorem fo76 : isOne Tryd.prog 76 = true := by kernel_rfl
theorem fz76 : zeroCells Tryd.prog 76 = some [.lit .nilFunc] := by kernel_rfl
theorem fc77 : Tryd.prog.cellsOf 77 = 1 := by kernel_rfl
theorem fo77 : isOne Tryd.prog 77 = true := by kernel_rfl
theorem fz77 : zeroCells Tryd.prog 77 = some [.lit .nilFunc] := by kernel_rfl
theorem fc78 : Tryd.prog.cellsOf 78 = 1 := by kernel_rfl
theorem fo78 : isOne Tryd.prog 78 = true := by kernel_rfl
theorem fz78 : zeroCells Tryd.prog 78 = some [.lit .nilFunc] := by kernel_rfl
theorem fc79 : Tryd.prog.cellsOf 79 = 1 := by kernel_rfl
theorem fo79 : isOne Tryd.prog 79 = true := by kernel_rfl
theorem fz79 : zeroCells Tryd.prog 79 = some [.lit .nilFunc] := by kernel_rfl
theorem fc80 : Tryd.prog.cellsOf 80 = 1 := by kernel_rfl
theorem fo80 : isOne Tryd.prog 80 = true := by kernel_rfl
theorem fz80 : zeroCells Tryd.prog 80 = some [.lit .nilFunc] := by kernel_rfl
theorem fc81 : Tryd.prog.cellsOf 81 = 1 := by kernel_rfl
theorem fo81 : isOne Tryd.prog 81 = true := by kernel_rfl
theorem fz81 : zeroCells Tryd.prog 81 = some [.lit .nilFunc] := by kernel_rfl
theorem fc82 : Tryd.prog.cellsOf 82 = 1 := by kernel_rfl
theorem fa82 : isAggT Tryd.prog 82 = true := by kernel_rfl
theorem fz82 : zeroCells Tryd.prog 82 = some [.lit (.pointer none)] := by kernel_rfl
theorem fk82_0 : fldOk Tryd.prog 82 0 = true := by kernel_rfl
theorem ff82_0 : offOf Tryd.prog 82 0 = 0 := by kernel_rfl
theorem ft82_0 : typOf Tryd.prog 82 0 = 17 := by kernel_rfl
theorem fc83 : Tryd.prog.cellsOf 83 = 1 := by kernel_rfl
theorem fa83 : isAggT Tryd.prog 83 = true := by kernel_rfl
theorem fz83 : zeroCells Tryd.prog 83 = some [.lit (.pointer none)] := by kernel_rfl
theorem fk83_0 : fldOk Tryd.prog 83 0 = true := by kernel_rfl
theorem ff83_0 : offOf Tryd.prog 83 0 = 0 := by kernel_rfl
theorem ft83_0 : typOf Tryd.prog 83 0 = 17 := by kernel_rfl
theorem fc84 : Tryd.prog.cellsOf 84 = 1 := by kernel_rfl
theorem fo84 : isOne Tryd.prog 84 = true := by kernel_rfl
theorem fz84 : zeroCells Tryd.prog 84 = some [.lit (.pointer none)] := by kernel_rfl
theorem fc85 : Tryd.prog.cellsOf 85 = 1 := by kernel_rfl
theorem fo85 : isOne Tryd.prog 85 = true := by kernel_rfl
theorem fz85 : zeroCells Tryd.prog 85 = some [.lit .nilFunc] := by kernel_rfl
theorem fc86 : Tryd.prog.cellsOf 86 = 1 := by kernel_rfl
theorem fo86 : isOne Tryd.prog 86 = true := by kernel_rfl
theorem fz86 : zeroCells Tryd.prog 86 = some [.lit .nilFunc] := by kernel_rfl
theorem fc87 : Tryd.prog.cellsOf 87 = 1 := by kernel_rfl
theorem fo87 : isOne Tryd.prog 87 = true := by kernel_rfl
theorem fz87 : zeroCells Tryd.prog 87 = some [.lit .nilFunc] := by kernel_rfl
theorem fc88 : Tryd.prog.cellsOf 88 = 1 := by kernel_rfl
theorem fo88 : isOne Tryd.prog 88 = true := by kernel_rfl
theorem fz88 : zeroCells Tryd.prog 88 = some [.lit .nilIface] := by kernel_rfl
theorem fc90 : Tryd.prog.cellsOf 90 = 1 := by kernel_rfl
theorem fo90 : isOne Tryd.prog 90 = true := by kernel_rfl
theorem fz90 : zeroCells Tryd.prog 90 = some [.lit .nilFunc] := by kernel_rfl
theorem fc91 : Tryd.prog.cellsOf 91 = 1 := by kernel_rfl
theorem fo91 : isOne Tryd.prog 91 = true := by kernel_rfl
theorem fz91 : zeroCells Tryd.prog 91 = some [.lit .nilIface] := by kernel_rfl
theorem fc92 : Tryd.prog.cellsOf 92 = 1 := by kernel_rfl
theorem fo92 : isOne Tryd.prog 92 = true := by kernel_rfl
theorem fz92 : zeroCells Tryd.prog 92 = some [.lit .nilIface] := by kernel_rfl
theorem fc93 : Tryd.prog.cellsOf 93 = 1 := by kernel_rfl
theorem fo93 : isOne Tryd.prog 93 = true := by kernel_rfl
theorem fz93 : zeroCells Tryd.prog 93 = some [.lit (.slice none 0 0)] := by kernel_rfl
theorem fs93 : isSlStr Tryd.prog 93 = true := by kernel_rfl
theorem fp93 : apOk Tryd.prog 93 = true := by kernel_rfl
theorem fq93 : kOf Tryd.prog 93 = 1 := by kernel_rfl
theorem fb93 : bOf Tryd.prog 93 = 16 := by kernel_rfl
theorem fc94 : Tryd.prog.cellsOf 94 = 1 := by kernel_rfl
theorem fo94 : isOne Tryd.prog 94 = true := by kernel_rfl
theorem fz94 : zeroCells Tryd.prog 94 = some [.lit .nilFunc] := by kernel_rfl
theorem fc95 : Tryd.prog.cellsOf 95 = 1 := by kernel_rfl
theorem fo95 : isOne Tryd.prog 95 = true := by kernel_rfl
theorem fz95 : zeroCells Tryd.prog 95 = some [.lit .nilFunc] := by kernel_rfl
theorem fc96 : Tryd.prog.cellsOf 96 = 1 := by kernel_rfl
theorem fo96 : isOne Tryd.prog 96 = true := by kernel_rfl
theorem fz96 : zeroCells Tryd.prog 96 = some [.lit .nilFunc] := by kernel_rfl
theorem fc97 : Tryd.prog.cellsOf 97 = 1 := by kernel_rfl
theorem fo97 : isOne Tryd.prog 97 = true := by kernel_rfl
theorem fz97 : zeroCells Tryd.prog 97 = some [.lit .nilFunc] := by kernel_rfl
theorem fc98 : Tryd.prog.cellsOf 98 = 1 := by kernel_rfl
theorem fo98 : isOne Tryd.prog 98 = true := by kernel_rfl
theorem fz98 : zeroCells Tryd.prog 98 = some [.lit (.int .u64 0)] := by kernel_rfl
theorem fc99 : Tryd.prog.cellsOf 99 = 1 := by kernel_rfl
theorem fo99 : isOne Tryd.prog 99 = true := by kernel_rfl
theorem fz99 : zeroCells Tryd.prog 99 = some [.lit .nilFunc] := by kernel_rfl
theorem fc100 : Tryd.prog.cellsOf 100 = 1 := by kernel_rfl
theorem fo100 : isOne Tryd.prog 100 = true := by kernel_rfl
theorem fz100 : zeroCells Tryd.prog 100 = some [.lit (.int .i64 0)] := by kernel_rfl
theorem fc102 : Tryd.prog.cellsOf 102 = 1 := by kernel_rfl
theorem fo102 : isOne Tryd.prog 102 = true := by kernel_rfl
theorem fz102 : zeroCells Tryd.prog 102 = some [.lit .nilFunc] := by kernel_rfl
theorem fc103 : Tryd.prog.cellsOf 103 = 1 := by kernel_rfl
theorem fo103 : isOne Tryd.prog 103 = true := by kernel_rfl
theorem fz103 : zeroCells Tryd.prog 103 = some [.lit .nilFunc] := by kernel_rfl
theorem fc104 : Tryd.prog.cellsOf 104 = 1 := by kernel_rfl
theorem fo104 : isOne Tryd.prog 104 = true := by kernel_rfl
theorem fz104 : zeroCells Tryd.prog 104 = some [.lit .nilFunc] := by kernel_rfl
theorem fc105 : Tryd.prog.cellsOf 105 = 1 := by kernel_rfl
theorem fo105 : isOne Tryd.prog 105 = true := by kernel_rfl
theorem fz105 : zeroCells Tryd.prog 105 = some [.lit .nilFunc] := by kernel_rfl
theorem fc107 : Tryd.prog.cellsOf 107 = 1 := by kernel_rfl
theorem fo107 : isOne Tryd.prog 107 = true := by kernel_rfl
theorem fz107 : zeroCells Tryd.prog 107 = some [.lit .nilFunc] := by kernel_rfl
theorem fc108 : Tryd.prog.cellsOf 108 = 1 := by kernel_rfl
theorem fo108 : isOne Tryd.prog 108 = true := by kernel_rfl
theorem fz108 : zeroCells Tryd.prog 108 = some [.lit .nilFunc] := by kernel_rfl
theorem fc109 : Tryd.prog.cellsOf 109 = 1 := by kernel_rfl
theorem fo109 : isOne Tryd.prog 109 = true := by kernel_rfl
theorem fz109 : zeroCells Tryd.prog 109 = some [.lit (.int .u32 0)] := by kernel_rfl
theorem fc110 : Tryd.prog.cellsOf 110 = 1 := by kernel_rfl
theorem fo110 : isOne Tryd.prog 110 = true := by kernel_rfl
theorem fz110 : zeroCells Tryd.prog 110 = some [.lit .nilFunc] := by kernel_rfl
theorem fc111 : Tryd.prog.cellsOf 111 = 1 := by kernel_rfl
theorem fo111 : isOne Tryd.prog 111 = true := by kernel_rfl
theorem fz111 : zeroCells Tryd.prog 111 = some [.lit (.int .u64 0)] := by kernel_rfl
theorem fc112 : Tryd.prog.cellsOf 112 = 1 := by kernel_rfl
theorem fo112 : isOne Tryd.prog 112 = true := by kernel_rfl
theorem fz112 : zeroCells Tryd.prog 112 = some [.lit (.int .u64 0)] := by kernel_rfl
theorem fc113 : Tryd.prog.cellsOf 113 = 1 := by kernel_rfl
theorem fo113 : isOne Tryd.prog 113 = true := by kernel_rfl
theorem fz113 : zeroCells Tryd.prog 113 = some [.lit .nilFunc] := by kernel_rfl
theorem fc114 : Tryd.prog.cellsOf 114 = 1 := by kernel_rfl
theorem fo114 : isOne Tryd.prog 114 = true := by kernel_rfl
theorem fz114 : zeroCells Tryd.prog 114 = some [.lit .nilFunc] := by kernel_rfl
theorem fc115 : Tryd.prog.cellsOf 115 = 1 := by kernel_rfl
theorem fo115 : isOne Tryd.prog 115 = true := by kernel_rfl
theorem fz115 : zeroCells Tryd.prog 115 = some [.lit .nilFunc] := by kernel_rfl
theorem fc116 : Tryd.prog.cellsOf 116 = 1 := by kernel_rfl
theorem fo116 : isOne Tryd.prog 116 = true := by kernel_rfl
theorem fz116 : zeroCells Tryd.prog 116 = some [.lit (.pointer none)] := by kernel_rfl
theorem fc117 : Tryd.prog.cellsOf 117 = 1 := by kernel_rfl
theorem fo117 : isOne Tryd.prog 117 = true := by kernel_rfl
theorem fz117 : zeroCells Tryd.prog 117 = some [.lit .nilFunc] := by kernel_rfl
theorem fc118 : Tryd.prog.cellsOf 118 = 1 := by kernel_rfl
theorem fo118 : isOne Tryd.prog 118 = true := by kernel_rfl
theorem fz118 : zeroCells Tryd.prog 118 = some [.lit (.pointer none)] := by kernel_rfl
theorem fc120 : Tryd.prog.cellsOf 120 = 1 := by kernel_rfl
theorem fo120 : isOne Tryd.prog 120 = true := by kernel_rfl
theorem fz120 : zeroCells Tryd.prog 120 = some [.lit .nilFunc] := by kernel_rfl
theorem fc121 : Tryd.prog.cellsOf 121 = 1 := by kernel_rfl
theorem fo121 : isOne Tryd.prog 121 = true := by kernel_rfl
theorem fz121 : zeroCells Tryd.prog 121 = some [.lit .nilFunc] := by kernel_rfl
theorem fc122 : Tryd.prog.cellsOf 122 = 4 := by kernel_rfl
theorem fa122 : isAggT Tryd.prog 122 = true := by kernel_rfl
theorem fz122 : zeroCells Tryd.prog 122 = some [.lit (.pointer none), .lit (.pointer none), .lit (.pointer none), .lit (.string ByteArray.empty)] := by kernel_rfl
theorem fk122_0 : fldOk Tryd.prog 122 0 = true := by kernel_rfl
theorem ff122_0 : offOf Tryd.prog 122 0 = 0 := by kernel_rfl
theorem ft122_0 : typOf Tryd.prog 122 0 = 17 := by kernel_rfl
theorem fk122_1 : fldOk Tryd.prog 122 1 = true := by kernel_rfl
theorem ff122_1 : offOf Tryd.prog 122 1 = 1 := by kernel_rfl
theorem ft122_1 : typOf Tryd.prog 122 1 = 17 := by kernel_rfl
theorem fk122_2 : fldOk Tryd.prog 122 2 = true := by kernel_rfl
theorem ff122_2 : offOf Tryd.prog 122 2 = 2 := by kernel_rfl
theorem ft122_2 : typOf Tryd.prog 122 2 = 17 := by kernel_rfl
theorem fk122_3 : fldOk Tryd.prog 122 3 = true := by kernel_rfl
theorem ff122_3 : offOf Tryd.prog 122 3 = 3 := by kernel_rfl
theorem ft122_3 : typOf Tryd.prog 122 3 = 9 := by kernel_rfl
theorem fc123 : Tryd.prog.cellsOf 123 = 4 := by kernel_rfl
theorem fa123 : isAggT Tryd.prog 123 = true := by kernel_rfl
theorem fz123 : zeroCells Tryd.prog 123 = some [.lit (.pointer none), .lit (.pointer none), .lit (.pointer none), .lit (.string ByteArray.empty)] := by kernel_rfl
theorem fk123_0 : fldOk Tryd.prog 123 0 = true := by kernel_rfl
theorem ff123_0 : offOf Tryd.prog 123 0 = 0 := by kernel_rfl
theorem ft123_0 : typOf Tryd.prog 123 0 = 17 := by kernel_rfl
theorem fk123_1 : fldOk Tryd.prog 123 1 = true := by kernel_rfl
theorem ff123_1 : offOf Tryd.prog 123 1 = 1 := by kernel_rfl
theorem ft123_1 : typOf Tryd.prog 123 1 = 17 := by kernel_rfl
theorem fk123_2 : fldOk Tryd.prog 123 2 = true := by kernel_rfl
theorem ff123_2 : offOf Tryd.prog 123 2 = 2 := by kernel_rfl
theorem ft123_2 : typOf Tryd.prog 123 2 = 17 := by kernel_rfl
theorem fk123_3 : fldOk Tryd.prog 123 3 = true := by kernel_rfl
theorem ff123_3 : offOf Tryd.prog 123 3 = 3 := by kernel_rfl
theorem ft123_3 : typOf Tryd.prog 123 3 = 9 := by kernel_rfl
theorem fc124 : Tryd.prog.cellsOf 124 = 0 := by kernel_rfl
theorem fa124 : isAggT Tryd.prog 124 = true := by kernel_rfl
theorem fz124 : zeroCells Tryd.prog 124 = some [] := by kernel_rfl
theorem fc125 : Tryd.prog.cellsOf 125 = 0 := by kernel_rfl
theorem fa125 : isAggT Tryd.prog 125 = true := by kernel_rfl
theorem fz125 : zeroCells Tryd.prog 125 = some [] := by kernel_rfl
theorem fc126 : Tryd.prog.cellsOf 126 = 0 := by kernel_rfl
theorem fa126 : isAggT Tryd.prog 126 = true := by kernel_rfl
theorem fz126 : zeroCells Tryd.prog 126 = some [] := by kernel_rfl
theorem fc127 : Tryd.prog.cellsOf 127 = 1 := by kernel_rfl
theorem fo127 : isOne Tryd.prog 127 = true := by kernel_rfl
theorem fz127 : zeroCells Tryd.prog 127 = some [.lit .nilFunc] := by kernel_rfl
theorem fc128 : Tryd.prog.cellsOf 128 = 1 := by kernel_rfl
theorem fo128 : isOne Tryd.prog 128 = true := by kernel_rfl
theorem fz128 : zeroCells Tryd.prog 128 = some [.lit .nilFunc] := by kernel_rfl
theorem fc129 : Tryd.prog.cellsOf 129 = 1 := by kernel_rfl
theorem fo129 : isOne Tryd.prog 129 = true := by kernel_rfl
theorem fz129 : zeroCells Tryd.prog 129 = some [.lit (.int .u8 0)] := by kernel_rfl
theorem fc130 : Tryd.prog.cellsOf 130 = 1 := by kernel_rfl
theorem fo130 : isOne Tryd.prog 130 = true := by kernel_rfl
theorem fz130 : zeroCells Tryd.prog 130 = some [.lit .nilFunc] := by kernel_rfl
theorem fc131 : Tryd.prog.cellsOf 131 = 1 := by kernel_rfl
theorem fo131 : isOne Tryd.prog 131 = true := by kernel_rfl
theorem fz131 : zeroCells Tryd.prog 131 = some [.lit (.pointer none)] := by kernel_rfl
theorem fc132 : Tryd.prog.cellsOf 132 = 1 := by kernel_rfl
theorem fo132 : isOne Tryd.prog 132 = true := by kernel_rfl
theorem fz132 : zeroCells Tryd.prog 132 = some [.lit (.int .i32 0)] := by kernel_rfl
theorem fc133 : Tryd.prog.cellsOf 133 = 1 := by kernel_rfl
theorem fo133 : isOne Tryd.prog 133 = true := by kernel_rfl
theorem fz133 : zeroCells Tryd.prog 133 = some [.lit (.int .i32 0)] := by kernel_rfl
theorem fc134 : Tryd.prog.cellsOf 134 = 11 := by kernel_rfl
theorem fa134 : isAggT Tryd.prog 134 = true := by kernel_rfl
theorem fz134 : zeroCells Tryd.prog 134 = some [.lit (.int .u64 0), .lit (.int .u64 0), .lit (.int .u32 0), .lit (.int .u8 0), .lit (.int .u8 0), .lit (.int .u8 0), .lit (.int .u8 0), .lit .nilFunc, .lit (.pointer none), .lit (.int .i32 0), .lit (.int .i32 0)] := by kernel_rfl
theorem fk134_0 : fldOk Tryd.prog 134 0 = true := by kernel_rfl
theorem ff134_0 : offOf Tryd.prog 134 0 = 0 := by kernel_rfl
theorem ft134_0 : typOf Tryd.prog 134 0 = 12 := by kernel_rfl
theorem fk134_1 : fldOk Tryd.prog 134 1 = true := by kernel_rfl
theorem ff134_1 : offOf Tryd.prog 134 1 = 1 := by kernel_rfl
theorem ft134_1 : typOf Tryd.prog 134 1 = 12 := by kernel_rfl
theorem fk134_2 : fldOk Tryd.prog 134 2 = true := by kernel_rfl
theorem ff134_2 : offOf Tryd.prog 134 2 = 2 := by kernel_rfl
theorem ft134_2 : typOf Tryd.prog 134 2 = 109 := by kernel_rfl
theorem fk134_3 : fldOk Tryd.prog 134 3 = true := by kernel_rfl
theorem ff134_3 : offOf Tryd.prog 134 3 = 3 := by kernel_rfl
theorem ft134_3 : typOf Tryd.prog 134 3 = 129 := by kernel_rfl
theorem fk134_4 : fldOk Tryd.prog 134 4 = true := by kernel_rfl
theorem ff134_4 : offOf Tryd.prog 134 4 = 4 := by kernel_rfl
theorem ft134_4 : typOf Tryd.prog 134 4 = 5 := by kernel_rfl
theorem fk134_5 : fldOk Tryd.prog 134 5 = true := by kernel_rfl
theorem ff134_5 : offOf Tryd.prog 134 5 = 5 := by kernel_rfl
theorem ft134_5 : typOf Tryd.prog 134 5 = 5 := by kernel_rfl
theorem fk134_6 : fldOk Tryd.prog 134 6 = true := by kernel_rfl
theorem ff134_6 : offOf Tryd.prog 134 6 = 6 := by kernel_rfl
theorem ft134_6 : typOf Tryd.prog 134 6 = 75 := by kernel_rfl
theorem fk134_7 : fldOk Tryd.prog 134 7 = true := by kernel_rfl
theorem ff134_7 : offOf Tryd.prog 134 7 = 7 := by kernel_rfl
theorem ft134_7 : typOf Tryd.prog 134 7 = 130 := by kernel_rfl
theorem fk134_8 : fldOk Tryd.prog 134 8 = true := by kernel_rfl
theorem ff134_8 : offOf Tryd.prog 134 8 = 8 := by kernel_rfl
theorem ft134_8 : typOf Tryd.prog 134 8 = 131 := by kernel_rfl
theorem fk134_9 : fldOk Tryd.prog 134 9 = true := by kernel_rfl
theorem ff134_9 : offOf Tryd.prog 134 9 = 9 := by kernel_rfl
theorem ft134_9 : typOf Tryd.prog 134 9 = 132 := by kernel_rfl
theorem fk134_10 : fldOk Tryd.prog 134 10 = true := by kernel_rfl
theorem ff134_10 : offOf Tryd.prog 134 10 = 10 := by kernel_rfl
theorem ft134_10 : typOf Tryd.prog 134 10 = 133 := by kernel_rfl
theorem fc135 : Tryd.prog.cellsOf 135 = 11 := by kernel_rfl
theorem fa135 : isAggT Tryd.prog 135 = true := by kernel_rfl
theorem fz135 : zeroCells Tryd.prog 135 = some [.lit (.int .u64 0), .lit (.int .u64 0), .lit (.int .u32 0), .lit (.int .u8 0), .lit (.int .u8 0), .lit (.int .u8 0), .lit (.int .u8 0), .lit .nilFunc, .lit (.pointer none), .lit (.int .i32 0), .lit (.int .i32 0)] := by kernel_rfl
theorem fk135_0 : fldOk Tryd.prog 135 0 = true := by kernel_rfl
theorem ff135_0 : offOf Tryd.prog 135 0 = 0 := by kernel_rfl
theorem ft135_0 : typOf Tryd.prog 135 0 = 12 := by kernel_rfl
theorem fk135_1 : fldOk Tryd.prog 135 1 = true := by kernel_rfl
theorem ff135_1 : offOf Tryd.prog 135 1 = 1 := by kernel_rfl
theorem ft135_1 : typOf Tryd.prog 135 1 = 12 := by kernel_rfl
theorem fk135_2 : fldOk Tryd.prog 135 2 = true := by kernel_rfl
theorem ff135_2 : offOf Tryd.prog 135 2 = 2 := by kernel_rfl
theorem ft135_2 : typOf Tryd.prog 135 2 = 109 := by kernel_rfl
theorem fk135_3 : fldOk Tryd.prog 135 3 = true := by kernel_rfl
theorem ff135_3 : offOf Tryd.prog 135 3 = 3 := by kernel_rfl
theorem ft135_3 : typOf Tryd.prog 135 3 = 129 := by kernel_rfl
theorem fk135_4 : fldOk Tryd.prog 135 4 = true := by kernel_rfl
theorem ff135_4 : offOf Tryd.prog 135 4 = 4 := by kernel_rfl
theorem ft135_4 : typOf Tryd.prog 135 4 = 5 := by kernel_rfl
theorem fk135_5 : fldOk Tryd.prog 135 5 = true := by kernel_rfl
theorem ff135_5 : offOf Tryd.prog 135 5 = 5 := by kernel_rfl
theorem ft135_5 : typOf Tryd.prog 135 5 = 5 := by kernel_rfl
theorem fk135_6 : fldOk Tryd.prog 135 6 = true := by kernel_rfl
theorem ff135_6 : offOf Tryd.prog 135 6 = 6 := by kernel_rfl
theorem ft135_6 : typOf Tryd.prog 135 6 = 75 := by kernel_rfl
theorem fk135_7 : fldOk Tryd.prog 135 7 = true := by kernel_rfl
theorem ff135_7 : offOf Tryd.prog 135 7 = 7 := by kernel_rfl
theorem ft135_7 : typOf Tryd.prog 135 7 = 130 := by kernel_rfl
theorem fk135_8 : fldOk Tryd.prog 135 8 = true := by kernel_rfl
theorem ff135_8 : offOf Tryd.prog 135 8 = 8 := by kernel_rfl
theorem ft135_8 : typOf Tryd.prog 135 8 = 131 := by kernel_rfl
theorem fk135_9 : fldOk Tryd.prog 135 9 = true := by kernel_rfl
theorem ff135_9 : offOf Tryd.prog 135 9 = 9 := by kernel_rfl
theorem ft135_9 : typOf Tryd.prog 135 9 = 132 := by kernel_rfl
theorem fk135_10 : fldOk Tryd.prog 135 10 = true := by kernel_rfl
theorem ff135_10 : offOf Tryd.prog 135 10 = 10 := by kernel_rfl
theorem ft135_10 : typOf Tryd.prog 135 10 = 133 := by kernel_rfl
theorem fc136 : Tryd.prog.cellsOf 136 = 1 := by kernel_rfl
theorem fo136 : isOne Tryd.prog 136 = true := by kernel_rfl
theorem fz136 : zeroCells Tryd.prog 136 = some [.lit .nilFunc] := by kernel_rfl
theorem fc137 : Tryd.prog.cellsOf 137 = 1 := by kernel_rfl
theorem fo137 : isOne Tryd.prog 137 = true := by kernel_rfl
theorem fz137 : zeroCells Tryd.prog 137 = some [.lit .nilFunc] := by kernel_rfl
theorem fc138 : Tryd.prog.cellsOf 138 = 2 := by kernel_rfl
theorem fa138 : isAggT Tryd.prog 138 = true := by kernel_rfl
theorem fz138 : zeroCells Tryd.prog 138 = some [.lit (.string ByteArray.empty), .lit (.int .u8 0)] := by kernel_rfl
theorem fk138_0 : fldOk Tryd.prog 138 0 = true := by kernel_rfl
theorem ff138_0 : offOf Tryd.prog 138 0 = 0 := by kernel_rfl
theorem ft138_0 : typOf Tryd.prog 138 0 = 9 := by kernel_rfl
theorem fk138_1 : fldOk Tryd.prog 138 1 = true := by kernel_rfl
theorem ff138_1 : offOf Tryd.prog 138 1 = 1 := by kernel_rfl
theorem ft138_1 : typOf Tryd.prog 138 1 = 75 := by kernel_rfl
theorem fc139 : Tryd.prog.cellsOf 139 = 2 := by kernel_rfl
theorem fa139 : isAggT Tryd.prog 139 = true := by kernel_rfl
theorem fz139 : zeroCells Tryd.prog 139 = some [.lit (.string ByteArray.empty), .lit (.int .u8 0)] := by kernel_rfl
theorem fk139_0 : fldOk Tryd.prog 139 0 = true := by kernel_rfl
theorem ff139_0 : offOf Tryd.prog 139 0 = 0 := by kernel_rfl
theorem ft139_0 : typOf Tryd.prog 139 0 = 9 := by kernel_rfl
theorem fk139_1 : fldOk Tryd.prog 139 1 = true := by kernel_rfl
theorem ff139_1 : offOf Tryd.prog 139 1 = 1 := by kernel_rfl
theorem ft139_1 : typOf Tryd.prog 139 1 = 75 := by kernel_rfl
theorem fc140 : Tryd.prog.cellsOf 140 = 1 := by kernel_rfl
theorem fo140 : isOne Tryd.prog 140 = true := by kernel_rfl
theorem fz140 : zeroCells Tryd.prog 140 = some [.lit (.pointer none)] := by kernel_rfl
theorem fc141 : Tryd.prog.cellsOf 141 = 1 := by kernel_rfl
theorem fo141 : isOne Tryd.prog 141 = true := by kernel_rfl
theorem fz141 : zeroCells Tryd.prog 141 = some [.lit .nilFunc] := by kernel_rfl
theorem fc142 : Tryd.prog.cellsOf 142 = 1 := by kernel_rfl
theorem fo142 : isOne Tryd.prog 142 = true := by kernel_rfl
theorem fz142 : zeroCells Tryd.prog 142 = some [.lit (.int .u16 0)] := by kernel_rfl
theorem fc143 : Tryd.prog.cellsOf 143 = 5 := by kernel_rfl
theorem fa143 : isAggT Tryd.prog 143 = true := by kernel_rfl
theorem fz143 : zeroCells Tryd.prog 143 = some [.lit (.int .i32 0), .lit (.int .u16 0), .lit (.int .u16 0), .lit (.int .u32 0), .lit (.int .u32 0)] := by kernel_rfl
theorem fk143_0 : fldOk Tryd.prog 143 0 = true := by kernel_rfl
theorem ff143_0 : offOf Tryd.prog 143 0 = 0 := by kernel_rfl
theorem ft143_0 : typOf Tryd.prog 143 0 = 132 := by kernel_rfl
theorem fk143_1 : fldOk Tryd.prog 143 1 = true := by kernel_rfl
theorem ff143_1 : offOf Tryd.prog 143 1 = 1 := by kernel_rfl
theorem ft143_1 : typOf Tryd.prog 143 1 = 142 := by kernel_rfl
theorem fk143_2 : fldOk Tryd.prog 143 2 = true := by kernel_rfl
theorem ff143_2 : offOf Tryd.prog 143 2 = 2 := by kernel_rfl
theorem ft143_2 : typOf Tryd.prog 143 2 = 142 := by kernel_rfl
theorem fk143_3 : fldOk Tryd.prog 143 3 = true := by kernel_rfl
theorem ff143_3 : offOf Tryd.prog 143 3 = 3 := by kernel_rfl
theorem ft143_3 : typOf Tryd.prog 143 3 = 109 := by kernel_rfl
theorem fk143_4 : fldOk Tryd.prog 143 4 = true := by kernel_rfl
theorem ff143_4 : offOf Tryd.prog 143 4 = 4 := by kernel_rfl
theorem ft143_4 : typOf Tryd.prog 143 4 = 109 := by kernel_rfl
theorem fc144 : Tryd.prog.cellsOf 144 = 5 := by kernel_rfl
theorem fa144 : isAggT Tryd.prog 144 = true := by kernel_rfl
theorem fz144 : zeroCells Tryd.prog 144 = some [.lit (.int .i32 0), .lit (.int .u16 0), .lit (.int .u16 0), .lit (.int .u32 0), .lit (.int .u32 0)] := by kernel_rfl
theorem fk144_0 : fldOk Tryd.prog 144 0 = true := by kernel_rfl
theorem ff144_0 : offOf Tryd.prog 144 0 = 0 := by kernel_rfl
theorem ft144_0 : typOf Tryd.prog 144 0 = 132 := by kernel_rfl
theorem fk144_1 : fldOk Tryd.prog 144 1 = true := by kernel_rfl
theorem ff144_1 : offOf Tryd.prog 144 1 = 1 := by kernel_rfl
theorem ft144_1 : typOf Tryd.prog 144 1 = 142 := by kernel_rfl
theorem fk144_2 : fldOk Tryd.prog 144 2 = true := by kernel_rfl
theorem ff144_2 : offOf Tryd.prog 144 2 = 2 := by kernel_rfl
theorem ft144_2 : typOf Tryd.prog 144 2 = 142 := by kernel_rfl
theorem fk144_3 : fldOk Tryd.prog 144 3 = true := by kernel_rfl
theorem ff144_3 : offOf Tryd.prog 144 3 = 3 := by kernel_rfl
theorem ft144_3 : typOf Tryd.prog 144 3 = 109 := by kernel_rfl
theorem fk144_4 : fldOk Tryd.prog 144 4 = true := by kernel_rfl
theorem ff144_4 : offOf Tryd.prog 144 4 = 4 := by kernel_rfl
theorem ft144_4 : typOf Tryd.prog 144 4 = 109 := by kernel_rfl
theorem fc145 : Tryd.prog.cellsOf 145 = 1 := by kernel_rfl
theorem fo145 : isOne Tryd.prog 145 = true := by kernel_rfl
theorem fz145 : zeroCells Tryd.prog 145 = some [.lit (.slice none 0 0)] := by kernel_rfl
theorem fs145 : isSlStr Tryd.prog 145 = true := by kernel_rfl
theorem fp145 : apOk Tryd.prog 145 = true := by kernel_rfl
theorem fq145 : kOf Tryd.prog 145 = 4 := by kernel_rfl
theorem fb145 : bOf Tryd.prog 145 = 16 := by kernel_rfl
theorem fc146 : Tryd.prog.cellsOf 146 = 1 := by kernel_rfl
theorem fo146 : isOne Tryd.prog 146 = true := by kernel_rfl
theorem fz146 : zeroCells Tryd.prog 146 = some [.lit (.int .i32 0)] := by kernel_rfl
theorem fc147 : Tryd.prog.cellsOf 147 = 4 := by kernel_rfl
theorem fa147 : isAggT Tryd.prog 147 = true := by kernel_rfl
theorem fz147 : zeroCells Tryd.prog 147 = some [.lit (.int .i32 0), .lit (.int .i32 0), .lit (.int .i32 0), .lit (.int .i32 0)] := by kernel_rfl
theorem fk147_0 : fldOk Tryd.prog 147 0 = true := by kernel_rfl
theorem ff147_0 : offOf Tryd.prog 147 0 = 0 := by kernel_rfl
theorem ft147_0 : typOf Tryd.prog 147 0 = 132 := by kernel_rfl
theorem fk147_1 : fldOk Tryd.prog 147 1 = true := by kernel_rfl
theorem ff147_1 : offOf Tryd.prog 147 1 = 1 := by kernel_rfl
theorem ft147_1 : typOf Tryd.prog 147 1 = 133 := by kernel_rfl
theorem fk147_2 : fldOk Tryd.prog 147 2 = true := by kernel_rfl
theorem ff147_2 : offOf Tryd.prog 147 2 = 2 := by kernel_rfl
theorem ft147_2 : typOf Tryd.prog 147 2 = 146 := by kernel_rfl
theorem fk147_3 : fldOk Tryd.prog 147 3 = true := by kernel_rfl
theorem ff147_3 : offOf Tryd.prog 147 3 = 3 := by kernel_rfl
theorem ft147_3 : typOf Tryd.prog 147 3 = 146 := by kernel_rfl
theorem fc148 : Tryd.prog.cellsOf 148 = 4 := by kernel_rfl
theorem fa148 : isAggT Tryd.prog 148 = true := by kernel_rfl
theorem fz148 : zeroCells Tryd.prog 148 = some [.lit (.int .i32 0), .lit (.int .i32 0), .lit (.int .i32 0), .lit (.int .i32 0)] := by kernel_rfl
theorem fk148_0 : fldOk Tryd.prog 148 0 = true := by kernel_rfl
theorem ff148_0 : offOf Tryd.prog 148 0 = 0 := by kernel_rfl
theorem ft148_0 : typOf Tryd.prog 148 0 = 132 := by kernel_rfl
theorem fk148_1 : fldOk Tryd.prog 148 1 = true := by kernel_rfl
theorem ff148_1 : offOf Tryd.prog 148 1 = 1 := by kernel_rfl
theorem ft148_1 : typOf Tryd.prog 148 1 = 133 := by kernel_rfl
theorem fk148_2 : fldOk Tryd.prog 148 2 = true := by kernel_rfl
theorem ff148_2 : offOf Tryd.prog 148 2 = 2 := by kernel_rfl
theorem ft148_2 : typOf Tryd.prog 148 2 = 146 := by kernel_rfl
theorem fk148_3 : fldOk Tryd.prog 148 3 = true := by kernel_rfl
theorem ff148_3 : offOf Tryd.prog 148 3 = 3 := by kernel_rfl
theorem ft148_3 : typOf Tryd.prog 148 3 = 146 := by kernel_rfl
theorem fc149 : Tryd.prog.cellsOf 149 = 1 := by kernel_rfl
theorem fo149 : isOne Tryd.prog 149 = true := by kernel_rfl
theorem fz149 : zeroCells Tryd.prog 149 = some [.lit (.pointer none)] := by kernel_rfl
attribute [go_sem] Tryd.underlying0 Tryd.underlying1 fc1 fo1 fz1 Tryd.underlying2 fc2 fo2 fz2 Tryd.underlying3 fc3 fo3 fz3 Tryd.underlying4 fc4 fo4 fz4 Tryd.underlying5 fc5 fo5 fz5 Tryd.underlying6 fc6 fo6 fz6 Tryd.underlying7 fc7 fa7 fz7 fk7_0 ff7_0 ft7_0 fk7_1 ff7_1 ft7_1 fk7_2 ff7_2 ft7_2 fk7_3 ff7_3 ft7_3 Tryd.underlying8 fc8 fa8 fz8 fk8_0 ff8_0 ft8_0 fk8_1 ff8_1 ft8_1 fk8_2 ff8_2 ft8_2 fk8_3 ff8_3 ft8_3 Tryd.underlying9 fc9 fo9 fz9 fs9 Tryd.underlying10 fc10 fo10 fz10 fs10 Tryd.underlying11 fc11 fo11 fz11 fs11 Tryd.underlying12 fc12 fo12 fz12 Tryd.underlying13 fc13 fa13 fz13 fk13_0 ff13_0 ft13_0 fk13_1 ff13_1 ft13_1 Tryd.underlying14 fc14 fa14 fz14 fk14_0 ff14_0 ft14_0 fk14_1 ff14_1 ft14_1 Tryd.underlying15 fc15 fo15 fz15 Tryd.underlying16 fc16 fo16 fz16 Tryd.underlying17 fc17 fo17 fz17 Tryd.underlying18 fc18 fa18 fz18 fk18_0 ff18_0 ft18_0 Tryd.underlying19 fc19 fa19 fz19 fk19_0 ff19_0 ft19_0 Tryd.underlying20 fc20 fo20 fz20 Tryd.underlying21 fc21 fo21 fz21 Tryd.underlying22 fc22 fo22 fz22 fs22 fp22 fq22 fb22 Tryd.underlying23 fc23 fo23 fz23 Tryd.underlying24 fc24 fo24 fz24 fs24 fp24 fq24 fb24 Tryd.underlying25 fc25 fa25 fz25 fk25_0 ff25_0 ft25_0 fk25_1 ff25_1 ft25_1 fk25_2 ff25_2 ft25_2 fk25_3 ff25_3 ft25_3 fk25_4 ff25_4 ft25_4 Tryd.underlying26 fc26 fa26 fz26 fk26_0 ff26_0 ft26_0 fk26_1 ff26_1 ft26_1 fk26_2 ff26_2 ft26_2 fk26_3 ff26_3 ft26_3 fk26_4 ff26_4 ft26_4 Tryd.underlying27 fc27 fo27 fz27 Tryd.underlying28 fc28 fo28 fz28 Tryd.underlying29 fc29 fo29 fz29 Tryd.underlying30 fc30 fo30 fz30 Tryd.underlying31 fc31 fo31 fz31 Tryd.underlying32 Tryd.underlying33 fc33 fo33 fz33 Tryd.underlying34 fc34 fo34 fz34 Tryd.underlying35 fc35 fo35 fz35 Tryd.underlying36 fc36 fo36 fz36 Tryd.underlying37 Tryd.underlying38 fc38 fo38 fz38 Tryd.underlying39 fc39 fo39 fz39 Tryd.underlying40 Tryd.underlying41 fc41 fo41 fz41 Tryd.underlying42 fc42 fo42 fz42 Tryd.underlying43 Tryd.underlying44 fc44 fo44 fz44 Tryd.underlying45 fc45 fo45 fz45 Tryd.underlying46 Tryd.underlying47 fc47 fo47 fz47 Tryd.underlying48 fc48 fo48 fz48 Tryd.underlying49 fc49 fo49 fz49 Tryd.underlying50 fc50 fo50 fz50 fs50 fp50 fq50 fb50 Tryd.underlying51 fc51 fo51 fz51 Tryd.underlying52 fc52 fo52 fz52 Tryd.underlying53 fc53 fo53 fz53 Tryd.underlying54 fc54 fo54 fz54 Tryd.underlying55 fc55 fo55 fz55 Tryd.underlying56 fc56 fo56 fz56 Tryd.underlying57 fc57 fo57 fz57 Tryd.underlying58 fc58 fo58 fz58 Tryd.underlying59 fc59 fo59 fz59 Tryd.underlying60 fc60 fo60 fz60 Tryd.underlying61 fc61 fo61 fz61 Tryd.underlying62 fc62 fo62 fz62 Tryd.underlying63 fc63 fo63 fz63 Tryd.underlying64 fc64 fo64 fz64 Tryd.underlying65 fc65 fa65 fz65 fk65_0 ff65_0 ft65_0 fk65_1 ff65_1 ft65_1 Tryd.underlying66 fc66 fa66 fz66 fk66_0 ff66_0 ft66_0 fk66_1 ff66_1 ft66_1 Tryd.underlying67 fc67 fo67 Tryd.underlying68 fc68 fo68 fz68 Tryd.underlying69 fc69 fa69 fk69_0 ff69_0 ft69_0 fk69_1 ff69_1 ft69_1 fk69_2 ff69_2 ft69_2 Tryd.underlying70 fc70 fa70 fk70_0 ff70_0 ft70_0 fk70_1 ff70_1 ft70_1 fk70_2 ff70_2 ft70_2 Tryd.underlying71 fc71 fo71 fz71 Tryd.underlying72 fc72 fo72 fz72 Tryd.underlying73 fc73 fo73 fz73 Tryd.underlying74 fc74 fo74 fz74 Tryd.underlying75 fc75 fo75 fz75 Tryd.underlying76 fc76 fo76 fz76 Tryd.underlying77 fc77 fo77 fz77 Tryd.underlying78 fc78 fo78 fz78 Tryd.underlying79 fc79 fo79 fz79 Tryd.underlying80 fc80 fo80 fz80 Tryd.underlying81 fc81 fo81 fz81 Tryd.underlying82 fc82 fa82 fz82 fk82_0 ff82_0 ft82_0 Tryd.underlying83 fc83 fa83 fz83 fk83_0 ff83_0 ft83_0 Tryd.underlying84 fc84 fo84 fz84 Tryd.underlying85 fc85 fo85 fz85 Tryd.underlying86 fc86 fo86 fz86 Tryd.underlying87 fc87 fo87 fz87 Tryd.underlying88 fc88 fo88 fz88 Tryd.underlying89 Tryd.underlying90 fc90 fo90 fz90 Tryd.underlying91 fc91 fo91 fz91 Tryd.underlying92 fc92 fo92 fz92 Tryd.underlying93 fc93 fo93 fz93 fs93 fp93 fq93 fb93 Tryd.underlying94 fc94 fo94 fz94 Tryd.underlying95 fc95 fo95 fz95 Tryd.underlying96 fc96 fo96 fz96 Tryd.underlying97 fc97 fo97 fz97 Tryd.underlying98 fc98 fo98 fz98 Tryd.underlying99 fc99 fo99 fz99 Tryd.underlying100 fc100 fo100 fz100 Tryd.underlying101 Tryd.underlying102 fc102 fo102 fz102 Tryd.underlying103 fc103 fo103 fz103 Tryd.underlying104 fc104 fo104 fz104 Tryd.underlying105 fc105 fo105 fz105 Tryd.underlying106 Tryd.underlying107 fc107 fo107 fz107 Tryd.underlying108 fc108 fo108 fz108 Tryd.underlying109 fc109 fo109 fz109 Tryd.underlying110 fc110 fo110 fz110 Tryd.underlying111 fc111 fo111 fz111 Tryd.underlying112 fc112 fo112 fz112 Tryd.underlying113 fc113 fo113 fz113 Tryd.underlying114 fc114 fo114 fz114 Tryd.underlying115 fc115 fo115 fz115 Tryd.underlying116 fc116 fo116 fz116 Tryd.underlying117 fc117 fo117 fz117 Tryd.underlying118 fc118 fo118 fz118 Tryd.underlying119 Tryd.underlying120 fc120 fo120 fz120 Tryd.underlying121 fc121 fo121 fz121 Tryd.underlying122 fc122 fa122 fz122 fk122_0 ff122_0 ft122_0 fk122_1 ff122_1 ft122_1 fk122_2 ff122_2 ft122_2 fk122_3 ff122_3 ft122_3 Tryd.underlying123 fc123 fa123 fz123 fk123_0 ff123_0 ft123_0 fk123_1 ff123_1 ft123_1 fk123_2 ff123_2 ft123_2 fk123_3 ff123_3 ft123_3 Tryd.underlying124 fc124 fa124 fz124 Tryd.underlying125 fc125 fa125 fz125 Tryd.underlying126 fc126 fa126 fz126 Tryd.underlying127 fc127 fo127 fz127 Tryd.underlying128 fc128 fo128 fz128 Tryd.underlying129 fc129 fo129 fz129 Tryd.underlying130 fc130 fo130 fz130 Tryd.underlying131 fc131 fo131 fz131 Tryd.underlying132 fc132 fo132 fz132 Tryd.underlying133 fc133 fo133 fz133 Tryd.underlying134 fc134 fa134 fz134 fk134_0 ff134_0 ft134_0 fk134_1 ff134_1 ft134_1 fk134_2 ff134_2 ft134_2 fk134_3 ff134_3 ft134_3 fk134_4 ff134_4 ft134_4 fk134_5 ff134_5 ft134_5 fk134_6 ff134_6 ft134_6 fk134_7 ff134_7 ft134_7 fk134_8 ff134_8 ft134_8 fk134_9 ff134_9 ft134_9 fk134_10 ff134_10 ft134_10 Tryd.underlying135 fc135 fa135 fz135 fk135_0 ff135_0 ft135_0 fk135_1 ff135_1 ft135_1 fk135_2 ff135_2 ft135_2 fk135_3 ff135_3 ft135_3 fk135_4 ff135_4 ft135_4 fk135_5 ff135_5 ft135_5 fk135_6 ff135_6 ft135_6 fk135_7 ff135_7 ft135_7 fk135_8 ff135_8 ft135_8 fk135_9 ff135_9 ft135_9 fk135_10 ff135_10 ft135_10 Tryd.underlying136 fc136 fo136 fz136 Tryd.underlying137 fc137 fo137 fz137 Tryd.underlying138 fc138 fa138 fz138 fk138_0 ff138_0 ft138_0 fk138_1 ff138_1 ft138_1 Tryd.underlying139 fc139 fa139 fz139 fk139_0 ff139_0 ft139_0 fk139_1 ff139_1 ft139_1 Tryd.underlying140 fc140 fo140 fz140 Tryd.underlying141 fc141 fo141 fz141 Tryd.underlying142 fc142 fo142 fz142 Tryd.underlying143 fc143 fa143 fz143 fk143_0 ff143_0 ft143_0 fk143_1 ff143_1 ft143_1 fk143_2 ff143_2 ft143_2 fk143_3 ff143_3 ft143_3 fk143_4 ff143_4 ft143_4 Tryd.underlying144 fc144 fa144 fz144 fk144_0 ff144_0 ft144_0 fk144_1 ff144_1 ft144_1 fk144_2 ff144_2 ft144_2 fk144_3 ff144_3 ft144_3 fk144_4 ff144_4 ft144_4 Tryd.underlying145 fc145 fo145 fz145 fs145 fp145 fq145 fb145 Tryd.underlying146 fc146 fo146 fz146 Tryd.underlying147 fc147 fa147 fz147 fk147_0 ff147_0 ft147_0 fk147_1 ff147_1 ft147_1 fk147_2 ff147_2 ft147_2 fk147_3 ff147_3 ft147_3 Tryd.underlying148 fc148 fa148 fz148 fk148_0 ff148_0 ft148_0 fk148_1 ff148_1 ft148_1 fk148_2 ff148_2 ft148_2 fk148_3 ff148_3 ft148_3 Tryd.underlying149 fc149 fo149 fz149
end Go.Proofs
