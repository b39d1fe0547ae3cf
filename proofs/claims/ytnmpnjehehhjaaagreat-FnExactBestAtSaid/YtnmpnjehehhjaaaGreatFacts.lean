/- Facts on the types of the seat's program, each by reckoning. No conditions. -/
import Derived.Test.YtnmpnjehehhjaaaGreatVg
import Derived.Test.YtnmpnjehehhjaaaGreatProg
set_option linter.all false
namespace Go.V
open Go.Proofs
set_option maxRecDepth 10000
theorem h0 : tsz Tryz.prog nilE = 0 := by kernel_rfl
theorem hm : Tryz.prog.follows .mixedOrders = true := by kernel_rfl
theorem ts2 : tsz Tryz.prog 2 = 1 := by kernel_rfl
theorem tb2 : tby Tryz.prog 2 = 8 := by kernel_rfl
theorem ta2 : tagg Tryz.prog 2 = some false := by kernel_rfl
theorem tc2 : Tryz.prog.cellsOf 2 = 1 := by kernel_rfl
theorem tB2 : Tryz.prog.bytesOf 2 = 8 := by kernel_rfl
theorem ti2 : (Tryz.prog.info? 2).isSome = true := by kernel_rfl
theorem tz2 : tzero Tryz.prog 2 = some (.int .i64 0) := by kernel_rfl
theorem ts3 : tsz Tryz.prog 3 = 1 := by kernel_rfl
theorem tb3 : tby Tryz.prog 3 = 8 := by kernel_rfl
theorem ta3 : tagg Tryz.prog 3 = some false := by kernel_rfl
theorem tc3 : Tryz.prog.cellsOf 3 = 1 := by kernel_rfl
theorem tB3 : Tryz.prog.bytesOf 3 = 8 := by kernel_rfl
theorem ti3 : (Tryz.prog.info? 3).isSome = true := by kernel_rfl
theorem tz3 : tzero Tryz.prog 3 = some (.int .i64 0) := by kernel_rfl
theorem ts4 : tsz Tryz.prog 4 = 1 := by kernel_rfl
theorem tb4 : tby Tryz.prog 4 = 1 := by kernel_rfl
theorem ta4 : tagg Tryz.prog 4 = some false := by kernel_rfl
theorem tc4 : Tryz.prog.cellsOf 4 = 1 := by kernel_rfl
theorem tB4 : Tryz.prog.bytesOf 4 = 1 := by kernel_rfl
theorem ti4 : (Tryz.prog.info? 4).isSome = true := by kernel_rfl
theorem tz4 : tzero Tryz.prog 4 = some (.bool false) := by kernel_rfl
theorem ts5 : tsz Tryz.prog 5 = 1 := by kernel_rfl
theorem tb5 : tby Tryz.prog 5 = 1 := by kernel_rfl
theorem ta5 : tagg Tryz.prog 5 = some false := by kernel_rfl
theorem tc5 : Tryz.prog.cellsOf 5 = 1 := by kernel_rfl
theorem tB5 : Tryz.prog.bytesOf 5 = 1 := by kernel_rfl
theorem ti5 : (Tryz.prog.info? 5).isSome = true := by kernel_rfl
theorem tz5 : tzero Tryz.prog 5 = some (.int .u8 0) := by kernel_rfl
theorem ts6 : tsz Tryz.prog 6 = 1 := by kernel_rfl
theorem tb6 : tby Tryz.prog 6 = 1 := by kernel_rfl
theorem ta6 : tagg Tryz.prog 6 = some false := by kernel_rfl
theorem tc6 : Tryz.prog.cellsOf 6 = 1 := by kernel_rfl
theorem tB6 : Tryz.prog.bytesOf 6 = 1 := by kernel_rfl
theorem ti6 : (Tryz.prog.info? 6).isSome = true := by kernel_rfl
theorem tz6 : tzero Tryz.prog 6 = some (.int .u8 0) := by kernel_rfl
theorem ts7 : tsz Tryz.prog 7 = 4 := by kernel_rfl
theorem tb7 : tby Tryz.prog 7 = 24 := by kernel_rfl
theorem ta7 : tagg Tryz.prog 7 = some true := by kernel_rfl
theorem tc7 : Tryz.prog.cellsOf 7 = 4 := by kernel_rfl
theorem tB7 : Tryz.prog.bytesOf 7 = 24 := by kernel_rfl
theorem ti7 : (Tryz.prog.info? 7).isSome = true := by kernel_rfl
theorem tf7_0 : tfield Tryz.prog 7 0 = some (0, 2) := by kernel_rfl
theorem tf7_1 : tfield Tryz.prog 7 1 = some (1, 3) := by kernel_rfl
theorem tf7_2 : tfield Tryz.prog 7 2 = some (2, 4) := by kernel_rfl
theorem tf7_3 : tfield Tryz.prog 7 3 = some (3, 6) := by kernel_rfl
theorem tz7 : tzero Tryz.prog 7 = some (.agg #[.int .i64 0, .int .i64 0, .bool false, .int .u8 0]) := by kernel_rfl
theorem ts8 : tsz Tryz.prog 8 = 4 := by kernel_rfl
theorem tb8 : tby Tryz.prog 8 = 24 := by kernel_rfl
theorem ta8 : tagg Tryz.prog 8 = some true := by kernel_rfl
theorem tc8 : Tryz.prog.cellsOf 8 = 4 := by kernel_rfl
theorem tB8 : Tryz.prog.bytesOf 8 = 24 := by kernel_rfl
theorem ti8 : (Tryz.prog.info? 8).isSome = true := by kernel_rfl
theorem tf8_0 : tfield Tryz.prog 8 0 = some (0, 2) := by kernel_rfl
theorem tf8_1 : tfield Tryz.prog 8 1 = some (1, 3) := by kernel_rfl
theorem tf8_2 : tfield Tryz.prog 8 2 = some (2, 4) := by kernel_rfl
theorem tf8_3 : tfield Tryz.prog 8 3 = some (3, 6) := by kernel_rfl
theorem tz8 : tzero Tryz.prog 8 = some (.agg #[.int .i64 0, .int .i64 0, .bool false, .int .u8 0]) := by kernel_rfl
theorem ts9 : tsz Tryz.prog 9 = 1 := by kernel_rfl
theorem tb9 : tby Tryz.prog 9 = 16 := by kernel_rfl
theorem ta9 : tagg Tryz.prog 9 = some false := by kernel_rfl
theorem tc9 : Tryz.prog.cellsOf 9 = 1 := by kernel_rfl
theorem tB9 : Tryz.prog.bytesOf 9 = 16 := by kernel_rfl
theorem ti9 : (Tryz.prog.info? 9).isSome = true := by kernel_rfl
theorem tz9 : tzero Tryz.prog 9 = some (.string ByteArray.empty) := by kernel_rfl
theorem ts10 : tsz Tryz.prog 10 = 1 := by kernel_rfl
theorem tb10 : tby Tryz.prog 10 = 16 := by kernel_rfl
theorem ta10 : tagg Tryz.prog 10 = some false := by kernel_rfl
theorem tc10 : Tryz.prog.cellsOf 10 = 1 := by kernel_rfl
theorem tB10 : Tryz.prog.bytesOf 10 = 16 := by kernel_rfl
theorem ti10 : (Tryz.prog.info? 10).isSome = true := by kernel_rfl
theorem tz10 : tzero Tryz.prog 10 = some (.string ByteArray.empty) := by kernel_rfl
theorem ts11 : tsz Tryz.prog 11 = 1 := by kernel_rfl
theorem tb11 : tby Tryz.prog 11 = 16 := by kernel_rfl
theorem ta11 : tagg Tryz.prog 11 = some false := by kernel_rfl
theorem tc11 : Tryz.prog.cellsOf 11 = 1 := by kernel_rfl
theorem tB11 : Tryz.prog.bytesOf 11 = 16 := by kernel_rfl
theorem ti11 : (Tryz.prog.info? 11).isSome = true := by kernel_rfl
theorem tz11 : tzero Tryz.prog 11 = some (.string ByteArray.empty) := by kernel_rfl
theorem ts12 : tsz Tryz.prog 12 = 1 := by kernel_rfl
theorem tb12 : tby Tryz.prog 12 = 8 := by kernel_rfl
theorem ta12 : tagg Tryz.prog 12 = some false := by kernel_rfl
theorem tc12 : Tryz.prog.cellsOf 12 = 1 := by kernel_rfl
theorem tB12 : Tryz.prog.bytesOf 12 = 8 := by kernel_rfl
theorem ti12 : (Tryz.prog.info? 12).isSome = true := by kernel_rfl
theorem tz12 : tzero Tryz.prog 12 = some (.int .u64 0) := by kernel_rfl
theorem ts13 : tsz Tryz.prog 13 = 2 := by kernel_rfl
theorem tb13 : tby Tryz.prog 13 = 24 := by kernel_rfl
theorem ta13 : tagg Tryz.prog 13 = some true := by kernel_rfl
theorem tc13 : Tryz.prog.cellsOf 13 = 2 := by kernel_rfl
theorem tB13 : Tryz.prog.bytesOf 13 = 24 := by kernel_rfl
theorem ti13 : (Tryz.prog.info? 13).isSome = true := by kernel_rfl
theorem tf13_0 : tfield Tryz.prog 13 0 = some (0, 9) := by kernel_rfl
theorem tf13_1 : tfield Tryz.prog 13 1 = some (1, 12) := by kernel_rfl
theorem tz13 : tzero Tryz.prog 13 = some (.agg #[.string ByteArray.empty, .int .u64 0]) := by kernel_rfl
theorem ts14 : tsz Tryz.prog 14 = 2 := by kernel_rfl
theorem tb14 : tby Tryz.prog 14 = 24 := by kernel_rfl
theorem ta14 : tagg Tryz.prog 14 = some true := by kernel_rfl
theorem tc14 : Tryz.prog.cellsOf 14 = 2 := by kernel_rfl
theorem tB14 : Tryz.prog.bytesOf 14 = 24 := by kernel_rfl
theorem ti14 : (Tryz.prog.info? 14).isSome = true := by kernel_rfl
theorem tf14_0 : tfield Tryz.prog 14 0 = some (0, 9) := by kernel_rfl
theorem tf14_1 : tfield Tryz.prog 14 1 = some (1, 12) := by kernel_rfl
theorem tz14 : tzero Tryz.prog 14 = some (.agg #[.string ByteArray.empty, .int .u64 0]) := by kernel_rfl
theorem ts15 : tsz Tryz.prog 15 = 1 := by kernel_rfl
theorem tb15 : tby Tryz.prog 15 = 8 := by kernel_rfl
theorem ta15 : tagg Tryz.prog 15 = some false := by kernel_rfl
theorem tc15 : Tryz.prog.cellsOf 15 = 1 := by kernel_rfl
theorem tB15 : Tryz.prog.bytesOf 15 = 8 := by kernel_rfl
theorem ti15 : (Tryz.prog.info? 15).isSome = true := by kernel_rfl
theorem tz15 : tzero Tryz.prog 15 = some (.pointer none) := by kernel_rfl
theorem ts16 : tsz Tryz.prog 16 = 1 := by kernel_rfl
theorem tb16 : tby Tryz.prog 16 = 8 := by kernel_rfl
theorem ta16 : tagg Tryz.prog 16 = some false := by kernel_rfl
theorem tc16 : Tryz.prog.cellsOf 16 = 1 := by kernel_rfl
theorem tB16 : Tryz.prog.bytesOf 16 = 8 := by kernel_rfl
theorem ti16 : (Tryz.prog.info? 16).isSome = true := by kernel_rfl
theorem tz16 : tzero Tryz.prog 16 = some (.pointer none) := by kernel_rfl
theorem ts17 : tsz Tryz.prog 17 = 1 := by kernel_rfl
theorem tb17 : tby Tryz.prog 17 = 8 := by kernel_rfl
theorem ta17 : tagg Tryz.prog 17 = some false := by kernel_rfl
theorem tc17 : Tryz.prog.cellsOf 17 = 1 := by kernel_rfl
theorem tB17 : Tryz.prog.bytesOf 17 = 8 := by kernel_rfl
theorem ti17 : (Tryz.prog.info? 17).isSome = true := by kernel_rfl
theorem tz17 : tzero Tryz.prog 17 = some (.pointer none) := by kernel_rfl
theorem ts18 : tsz Tryz.prog 18 = 1 := by kernel_rfl
theorem tb18 : tby Tryz.prog 18 = 8 := by kernel_rfl
theorem ta18 : tagg Tryz.prog 18 = some true := by kernel_rfl
theorem tc18 : Tryz.prog.cellsOf 18 = 1 := by kernel_rfl
theorem tB18 : Tryz.prog.bytesOf 18 = 8 := by kernel_rfl
theorem ti18 : (Tryz.prog.info? 18).isSome = true := by kernel_rfl
theorem tf18_0 : tfield Tryz.prog 18 0 = some (0, 17) := by kernel_rfl
theorem tz18 : tzero Tryz.prog 18 = some (.agg #[.pointer none]) := by kernel_rfl
theorem ts19 : tsz Tryz.prog 19 = 1 := by kernel_rfl
theorem tb19 : tby Tryz.prog 19 = 8 := by kernel_rfl
theorem ta19 : tagg Tryz.prog 19 = some true := by kernel_rfl
theorem tc19 : Tryz.prog.cellsOf 19 = 1 := by kernel_rfl
theorem tB19 : Tryz.prog.bytesOf 19 = 8 := by kernel_rfl
theorem ti19 : (Tryz.prog.info? 19).isSome = true := by kernel_rfl
theorem tf19_0 : tfield Tryz.prog 19 0 = some (0, 17) := by kernel_rfl
theorem tz19 : tzero Tryz.prog 19 = some (.agg #[.pointer none]) := by kernel_rfl
theorem ts21 : tsz Tryz.prog 21 = 1 := by kernel_rfl
theorem tb21 : tby Tryz.prog 21 = 4 := by kernel_rfl
theorem ta21 : tagg Tryz.prog 21 = some false := by kernel_rfl
theorem tc21 : Tryz.prog.cellsOf 21 = 1 := by kernel_rfl
theorem tB21 : Tryz.prog.bytesOf 21 = 4 := by kernel_rfl
theorem ti21 : (Tryz.prog.info? 21).isSome = true := by kernel_rfl
theorem tz21 : tzero Tryz.prog 21 = some (.int .i32 0) := by kernel_rfl
theorem ts22 : tsz Tryz.prog 22 = 1 := by kernel_rfl
theorem tb22 : tby Tryz.prog 22 = 24 := by kernel_rfl
theorem ta22 : tagg Tryz.prog 22 = some false := by kernel_rfl
theorem tc22 : Tryz.prog.cellsOf 22 = 1 := by kernel_rfl
theorem tB22 : Tryz.prog.bytesOf 22 = 24 := by kernel_rfl
theorem ti22 : (Tryz.prog.info? 22).isSome = true := by kernel_rfl
theorem te22 : telem Tryz.prog 22 = some 74 := by kernel_rfl
theorem tz22 : tzero Tryz.prog 22 = some (.slice none 0 0) := by kernel_rfl
theorem ts23 : tsz Tryz.prog 23 = 2 := by kernel_rfl
theorem tb23 : tby Tryz.prog 23 = 32 := by kernel_rfl
theorem ta23 : tagg Tryz.prog 23 = some true := by kernel_rfl
theorem tc23 : Tryz.prog.cellsOf 23 = 2 := by kernel_rfl
theorem tB23 : Tryz.prog.bytesOf 23 = 32 := by kernel_rfl
theorem ti23 : (Tryz.prog.info? 23).isSome = true := by kernel_rfl
theorem tf23_0 : tfield Tryz.prog 23 0 = some (0, 3) := by kernel_rfl
theorem tf23_1 : tfield Tryz.prog 23 1 = some (1, 22) := by kernel_rfl
theorem tz23 : tzero Tryz.prog 23 = some (.agg #[.int .i64 0, .slice none 0 0]) := by kernel_rfl
theorem ts24 : tsz Tryz.prog 24 = 2 := by kernel_rfl
theorem tb24 : tby Tryz.prog 24 = 32 := by kernel_rfl
theorem ta24 : tagg Tryz.prog 24 = some true := by kernel_rfl
theorem tc24 : Tryz.prog.cellsOf 24 = 2 := by kernel_rfl
theorem tB24 : Tryz.prog.bytesOf 24 = 32 := by kernel_rfl
theorem ti24 : (Tryz.prog.info? 24).isSome = true := by kernel_rfl
theorem tf24_0 : tfield Tryz.prog 24 0 = some (0, 3) := by kernel_rfl
theorem tf24_1 : tfield Tryz.prog 24 1 = some (1, 22) := by kernel_rfl
theorem tz24 : tzero Tryz.prog 24 = some (.agg #[.int .i64 0, .slice none 0 0]) := by kernel_rfl
theorem ts25 : tsz Tryz.prog 25 = 2 := by kernel_rfl
theorem tb25 : tby Tryz.prog 25 = 16 := by kernel_rfl
theorem ta25 : tagg Tryz.prog 25 = some true := by kernel_rfl
theorem tc25 : Tryz.prog.cellsOf 25 = 2 := by kernel_rfl
theorem tB25 : Tryz.prog.bytesOf 25 = 16 := by kernel_rfl
theorem ti25 : (Tryz.prog.info? 25).isSome = true := by kernel_rfl
theorem tq25 : isPairT Tryz.prog 25 = true := by kernel_rfl
theorem tf25_0 : tfield Tryz.prog 25 0 = some (0, 3) := by kernel_rfl
theorem tf25_1 : tfield Tryz.prog 25 1 = some (1, 3) := by kernel_rfl
theorem tz25 : tzero Tryz.prog 25 = some (.agg #[.int .i64 0, .int .i64 0]) := by kernel_rfl
theorem ts26 : tsz Tryz.prog 26 = 2 := by kernel_rfl
theorem tb26 : tby Tryz.prog 26 = 16 := by kernel_rfl
theorem ta26 : tagg Tryz.prog 26 = some true := by kernel_rfl
theorem tc26 : Tryz.prog.cellsOf 26 = 2 := by kernel_rfl
theorem tB26 : Tryz.prog.bytesOf 26 = 16 := by kernel_rfl
theorem ti26 : (Tryz.prog.info? 26).isSome = true := by kernel_rfl
theorem tq26 : isPairT Tryz.prog 26 = true := by kernel_rfl
theorem tf26_0 : tfield Tryz.prog 26 0 = some (0, 3) := by kernel_rfl
theorem tf26_1 : tfield Tryz.prog 26 1 = some (1, 3) := by kernel_rfl
theorem tz26 : tzero Tryz.prog 26 = some (.agg #[.int .i64 0, .int .i64 0]) := by kernel_rfl
theorem ts28 : tsz Tryz.prog 28 = 1 := by kernel_rfl
theorem tb28 : tby Tryz.prog 28 = 24 := by kernel_rfl
theorem ta28 : tagg Tryz.prog 28 = some false := by kernel_rfl
theorem tc28 : Tryz.prog.cellsOf 28 = 1 := by kernel_rfl
theorem tB28 : Tryz.prog.bytesOf 28 = 24 := by kernel_rfl
theorem ti28 : (Tryz.prog.info? 28).isSome = true := by kernel_rfl
theorem te28 : telem Tryz.prog 28 = some 3 := by kernel_rfl
theorem tz28 : tzero Tryz.prog 28 = some (.slice none 0 0) := by kernel_rfl
theorem ts29 : tsz Tryz.prog 29 = 6 := by kernel_rfl
theorem tb29 : tby Tryz.prog 29 = 80 := by kernel_rfl
theorem ta29 : tagg Tryz.prog 29 = some true := by kernel_rfl
theorem tc29 : Tryz.prog.cellsOf 29 = 6 := by kernel_rfl
theorem tB29 : Tryz.prog.bytesOf 29 = 80 := by kernel_rfl
theorem ti29 : (Tryz.prog.info? 29).isSome = true := by kernel_rfl
theorem tf29_0 : tfield Tryz.prog 29 0 = some (0, 3) := by kernel_rfl
theorem tf29_1 : tfield Tryz.prog 29 1 = some (1, 28) := by kernel_rfl
theorem tf29_2 : tfield Tryz.prog 29 2 = some (2, 3) := by kernel_rfl
theorem tf29_3 : tfield Tryz.prog 29 3 = some (3, 3) := by kernel_rfl
theorem tf29_4 : tfield Tryz.prog 29 4 = some (4, 3) := by kernel_rfl
theorem tf29_5 : tfield Tryz.prog 29 5 = some (5, 28) := by kernel_rfl
theorem tz29 : tzero Tryz.prog 29 = some (.agg #[.int .i64 0, .slice none 0 0, .int .i64 0, .int .i64 0, .int .i64 0, .slice none 0 0]) := by kernel_rfl
theorem ts30 : tsz Tryz.prog 30 = 6 := by kernel_rfl
theorem tb30 : tby Tryz.prog 30 = 80 := by kernel_rfl
theorem ta30 : tagg Tryz.prog 30 = some true := by kernel_rfl
theorem tc30 : Tryz.prog.cellsOf 30 = 6 := by kernel_rfl
theorem tB30 : Tryz.prog.bytesOf 30 = 80 := by kernel_rfl
theorem ti30 : (Tryz.prog.info? 30).isSome = true := by kernel_rfl
theorem tf30_0 : tfield Tryz.prog 30 0 = some (0, 3) := by kernel_rfl
theorem tf30_1 : tfield Tryz.prog 30 1 = some (1, 28) := by kernel_rfl
theorem tf30_2 : tfield Tryz.prog 30 2 = some (2, 3) := by kernel_rfl
theorem tf30_3 : tfield Tryz.prog 30 3 = some (3, 3) := by kernel_rfl
theorem tf30_4 : tfield Tryz.prog 30 4 = some (4, 3) := by kernel_rfl
theorem tf30_5 : tfield Tryz.prog 30 5 = some (5, 28) := by kernel_rfl
theorem tz30 : tzero Tryz.prog 30 = some (.agg #[.int .i64 0, .slice none 0 0, .int .i64 0, .int .i64 0, .int .i64 0, .slice none 0 0]) := by kernel_rfl
theorem ts31 : tsz Tryz.prog 31 = 7 := by kernel_rfl
theorem tb31 : tby Tryz.prog 31 = 88 := by kernel_rfl
theorem ta31 : tagg Tryz.prog 31 = some true := by kernel_rfl
theorem tc31 : Tryz.prog.cellsOf 31 = 7 := by kernel_rfl
theorem tB31 : Tryz.prog.bytesOf 31 = 88 := by kernel_rfl
theorem ti31 : (Tryz.prog.info? 31).isSome = true := by kernel_rfl
theorem tf31_0 : tfield Tryz.prog 31 0 = some (0, 3) := by kernel_rfl
theorem tf31_1 : tfield Tryz.prog 31 1 = some (1, 30) := by kernel_rfl
theorem tz31 : tzero Tryz.prog 31 = some (.agg #[.int .i64 0, .int .i64 0, .slice none 0 0, .int .i64 0, .int .i64 0, .int .i64 0, .slice none 0 0]) := by kernel_rfl
theorem ts32 : tsz Tryz.prog 32 = 7 := by kernel_rfl
theorem tb32 : tby Tryz.prog 32 = 88 := by kernel_rfl
theorem ta32 : tagg Tryz.prog 32 = some true := by kernel_rfl
theorem tc32 : Tryz.prog.cellsOf 32 = 7 := by kernel_rfl
theorem tB32 : Tryz.prog.bytesOf 32 = 88 := by kernel_rfl
theorem ti32 : (Tryz.prog.info? 32).isSome = true := by kernel_rfl
theorem tf32_0 : tfield Tryz.prog 32 0 = some (0, 3) := by kernel_rfl
theorem tf32_1 : tfield Tryz.prog 32 1 = some (1, 30) := by kernel_rfl
theorem tz32 : tzero Tryz.prog 32 = some (.agg #[.int .i64 0, .int .i64 0, .slice none 0 0, .int .i64 0, .int .i64 0, .int .i64 0, .slice none 0 0]) := by kernel_rfl
theorem ts35 : tsz Tryz.prog 35 = 1 := by kernel_rfl
theorem tb35 : tby Tryz.prog 35 = 24 := by kernel_rfl
theorem ta35 : tagg Tryz.prog 35 = some false := by kernel_rfl
theorem tc35 : Tryz.prog.cellsOf 35 = 1 := by kernel_rfl
theorem tB35 : Tryz.prog.bytesOf 35 = 24 := by kernel_rfl
theorem ti35 : (Tryz.prog.info? 35).isSome = true := by kernel_rfl
theorem te35 : telem Tryz.prog 35 = some 66 := by kernel_rfl
theorem tz35 : tzero Tryz.prog 35 = some (.slice none 0 0) := by kernel_rfl
theorem ts36 : tsz Tryz.prog 36 = 2 := by kernel_rfl
theorem tb36 : tby Tryz.prog 36 = 32 := by kernel_rfl
theorem ta36 : tagg Tryz.prog 36 = some true := by kernel_rfl
theorem tc36 : Tryz.prog.cellsOf 36 = 2 := by kernel_rfl
theorem tB36 : Tryz.prog.bytesOf 36 = 32 := by kernel_rfl
theorem ti36 : (Tryz.prog.info? 36).isSome = true := by kernel_rfl
theorem tf36_0 : tfield Tryz.prog 36 0 = some (0, 3) := by kernel_rfl
theorem tf36_1 : tfield Tryz.prog 36 1 = some (1, 35) := by kernel_rfl
theorem tz36 : tzero Tryz.prog 36 = some (.agg #[.int .i64 0, .slice none 0 0]) := by kernel_rfl
theorem ts37 : tsz Tryz.prog 37 = 2 := by kernel_rfl
theorem tb37 : tby Tryz.prog 37 = 32 := by kernel_rfl
theorem ta37 : tagg Tryz.prog 37 = some true := by kernel_rfl
theorem tc37 : Tryz.prog.cellsOf 37 = 2 := by kernel_rfl
theorem tB37 : Tryz.prog.bytesOf 37 = 32 := by kernel_rfl
theorem ti37 : (Tryz.prog.info? 37).isSome = true := by kernel_rfl
theorem tf37_0 : tfield Tryz.prog 37 0 = some (0, 3) := by kernel_rfl
theorem tf37_1 : tfield Tryz.prog 37 1 = some (1, 35) := by kernel_rfl
theorem tz37 : tzero Tryz.prog 37 = some (.agg #[.int .i64 0, .slice none 0 0]) := by kernel_rfl
theorem ts39 : tsz Tryz.prog 39 = 2 := by kernel_rfl
theorem tb39 : tby Tryz.prog 39 = 16 := by kernel_rfl
theorem ta39 : tagg Tryz.prog 39 = some true := by kernel_rfl
theorem tc39 : Tryz.prog.cellsOf 39 = 2 := by kernel_rfl
theorem tB39 : Tryz.prog.bytesOf 39 = 16 := by kernel_rfl
theorem ti39 : (Tryz.prog.info? 39).isSome = true := by kernel_rfl
theorem tq39 : isPairT Tryz.prog 39 = true := by kernel_rfl
theorem tf39_0 : tfield Tryz.prog 39 0 = some (0, 3) := by kernel_rfl
theorem tf39_1 : tfield Tryz.prog 39 1 = some (1, 3) := by kernel_rfl
theorem tz39 : tzero Tryz.prog 39 = some (.agg #[.int .i64 0, .int .i64 0]) := by kernel_rfl
theorem ts46 : tsz Tryz.prog 46 = 1 := by kernel_rfl
theorem tb46 : tby Tryz.prog 46 = 24 := by kernel_rfl
theorem ta46 : tagg Tryz.prog 46 = some false := by kernel_rfl
theorem tc46 : Tryz.prog.cellsOf 46 = 1 := by kernel_rfl
theorem tB46 : Tryz.prog.bytesOf 46 = 24 := by kernel_rfl
theorem ti46 : (Tryz.prog.info? 46).isSome = true := by kernel_rfl
theorem te46 : telem Tryz.prog 46 = some 32 := by kernel_rfl
theorem tz46 : tzero Tryz.prog 46 = some (.slice none 0 0) := by kernel_rfl
theorem ts47 : tsz Tryz.prog 47 = 1 := by kernel_rfl
theorem tb47 : tby Tryz.prog 47 = 24 := by kernel_rfl
theorem ta47 : tagg Tryz.prog 47 = some false := by kernel_rfl
theorem tc47 : Tryz.prog.cellsOf 47 = 1 := by kernel_rfl
theorem tB47 : Tryz.prog.bytesOf 47 = 24 := by kernel_rfl
theorem ti47 : (Tryz.prog.info? 47).isSome = true := by kernel_rfl
theorem te47 : telem Tryz.prog 47 = some 39 := by kernel_rfl
theorem tz47 : tzero Tryz.prog 47 = some (.slice none 0 0) := by kernel_rfl
theorem ts65 : tsz Tryz.prog 65 = 3 := by kernel_rfl
theorem tb65 : tby Tryz.prog 65 = 40 := by kernel_rfl
theorem ta65 : tagg Tryz.prog 65 = some true := by kernel_rfl
theorem tc65 : Tryz.prog.cellsOf 65 = 3 := by kernel_rfl
theorem tB65 : Tryz.prog.bytesOf 65 = 40 := by kernel_rfl
theorem ti65 : (Tryz.prog.info? 65).isSome = true := by kernel_rfl
theorem tf65_0 : tfield Tryz.prog 65 0 = some (0, 39) := by kernel_rfl
theorem tf65_1 : tfield Tryz.prog 65 1 = some (2, 46) := by kernel_rfl
theorem tz65 : tzero Tryz.prog 65 = some (.agg #[.int .i64 0, .int .i64 0, .slice none 0 0]) := by kernel_rfl
theorem ts66 : tsz Tryz.prog 66 = 3 := by kernel_rfl
theorem tb66 : tby Tryz.prog 66 = 40 := by kernel_rfl
theorem ta66 : tagg Tryz.prog 66 = some true := by kernel_rfl
theorem tc66 : Tryz.prog.cellsOf 66 = 3 := by kernel_rfl
theorem tB66 : Tryz.prog.bytesOf 66 = 40 := by kernel_rfl
theorem ti66 : (Tryz.prog.info? 66).isSome = true := by kernel_rfl
theorem tf66_0 : tfield Tryz.prog 66 0 = some (0, 39) := by kernel_rfl
theorem tf66_1 : tfield Tryz.prog 66 1 = some (2, 46) := by kernel_rfl
theorem tz66 : tzero Tryz.prog 66 = some (.agg #[.int .i64 0, .int .i64 0, .slice none 0 0]) := by kernel_rfl
theorem ts72 : tsz Tryz.prog 72 = 1 := by kernel_rfl
theorem tb72 : tby Tryz.prog 72 = 24 := by kernel_rfl
theorem ta72 : tagg Tryz.prog 72 = some false := by kernel_rfl
theorem tc72 : Tryz.prog.cellsOf 72 = 1 := by kernel_rfl
theorem tB72 : Tryz.prog.bytesOf 72 = 24 := by kernel_rfl
theorem ti72 : (Tryz.prog.info? 72).isSome = true := by kernel_rfl
theorem te72 : telem Tryz.prog 72 = some 107 := by kernel_rfl
theorem tz72 : tzero Tryz.prog 72 = some (.slice none 0 0) := by kernel_rfl
theorem ts73 : tsz Tryz.prog 73 = 3 := by kernel_rfl
theorem tb73 : tby Tryz.prog 73 = 40 := by kernel_rfl
theorem ta73 : tagg Tryz.prog 73 = some true := by kernel_rfl
theorem tc73 : Tryz.prog.cellsOf 73 = 3 := by kernel_rfl
theorem tB73 : Tryz.prog.bytesOf 73 = 40 := by kernel_rfl
theorem ti73 : (Tryz.prog.info? 73).isSome = true := by kernel_rfl
theorem tf73_0 : tfield Tryz.prog 73 0 = some (0, 26) := by kernel_rfl
theorem tf73_1 : tfield Tryz.prog 73 1 = some (2, 72) := by kernel_rfl
theorem tz73 : tzero Tryz.prog 73 = some (.agg #[.int .i64 0, .int .i64 0, .slice none 0 0]) := by kernel_rfl
theorem ts74 : tsz Tryz.prog 74 = 3 := by kernel_rfl
theorem tb74 : tby Tryz.prog 74 = 40 := by kernel_rfl
theorem ta74 : tagg Tryz.prog 74 = some true := by kernel_rfl
theorem tc74 : Tryz.prog.cellsOf 74 = 3 := by kernel_rfl
theorem tB74 : Tryz.prog.bytesOf 74 = 40 := by kernel_rfl
theorem ti74 : (Tryz.prog.info? 74).isSome = true := by kernel_rfl
theorem tf74_0 : tfield Tryz.prog 74 0 = some (0, 26) := by kernel_rfl
theorem tf74_1 : tfield Tryz.prog 74 1 = some (2, 72) := by kernel_rfl
theorem tz74 : tzero Tryz.prog 74 = some (.agg #[.int .i64 0, .int .i64 0, .slice none 0 0]) := by kernel_rfl
theorem ts93 : tsz Tryz.prog 93 = 1 := by kernel_rfl
theorem tb93 : tby Tryz.prog 93 = 8 := by kernel_rfl
theorem ta93 : tagg Tryz.prog 93 = some false := by kernel_rfl
theorem tc93 : Tryz.prog.cellsOf 93 = 1 := by kernel_rfl
theorem tB93 : Tryz.prog.bytesOf 93 = 8 := by kernel_rfl
theorem ti93 : (Tryz.prog.info? 93).isSome = true := by kernel_rfl
theorem tz93 : tzero Tryz.prog 93 = some (.int .u64 0) := by kernel_rfl
theorem ts105 : tsz Tryz.prog 105 = 6 := by kernel_rfl
theorem tb105 : tby Tryz.prog 105 = 80 := by kernel_rfl
theorem ta105 : tagg Tryz.prog 105 = some true := by kernel_rfl
theorem tc105 : Tryz.prog.cellsOf 105 = 6 := by kernel_rfl
theorem tB105 : Tryz.prog.bytesOf 105 = 80 := by kernel_rfl
theorem ti105 : (Tryz.prog.info? 105).isSome = true := by kernel_rfl
theorem tf105_0 : tfield Tryz.prog 105 0 = some (0, 3) := by kernel_rfl
theorem tf105_1 : tfield Tryz.prog 105 1 = some (1, 28) := by kernel_rfl
theorem tf105_2 : tfield Tryz.prog 105 2 = some (2, 3) := by kernel_rfl
theorem tf105_3 : tfield Tryz.prog 105 3 = some (3, 3) := by kernel_rfl
theorem tf105_4 : tfield Tryz.prog 105 4 = some (4, 3) := by kernel_rfl
theorem tf105_5 : tfield Tryz.prog 105 5 = some (5, 28) := by kernel_rfl
theorem tz105 : tzero Tryz.prog 105 = some (.agg #[.int .i64 0, .slice none 0 0, .int .i64 0, .int .i64 0, .int .i64 0, .slice none 0 0]) := by kernel_rfl
theorem ts106 : tsz Tryz.prog 106 = 7 := by kernel_rfl
theorem tb106 : tby Tryz.prog 106 = 88 := by kernel_rfl
theorem ta106 : tagg Tryz.prog 106 = some true := by kernel_rfl
theorem tc106 : Tryz.prog.cellsOf 106 = 7 := by kernel_rfl
theorem tB106 : Tryz.prog.bytesOf 106 = 88 := by kernel_rfl
theorem ti106 : (Tryz.prog.info? 106).isSome = true := by kernel_rfl
theorem tf106_0 : tfield Tryz.prog 106 0 = some (0, 3) := by kernel_rfl
theorem tf106_1 : tfield Tryz.prog 106 1 = some (1, 105) := by kernel_rfl
theorem tz106 : tzero Tryz.prog 106 = some (.agg #[.int .i64 0, .int .i64 0, .slice none 0 0, .int .i64 0, .int .i64 0, .int .i64 0, .slice none 0 0]) := by kernel_rfl
theorem ts107 : tsz Tryz.prog 107 = 7 := by kernel_rfl
theorem tb107 : tby Tryz.prog 107 = 88 := by kernel_rfl
theorem ta107 : tagg Tryz.prog 107 = some true := by kernel_rfl
theorem tc107 : Tryz.prog.cellsOf 107 = 7 := by kernel_rfl
theorem tB107 : Tryz.prog.bytesOf 107 = 88 := by kernel_rfl
theorem ti107 : (Tryz.prog.info? 107).isSome = true := by kernel_rfl
theorem tf107_0 : tfield Tryz.prog 107 0 = some (0, 3) := by kernel_rfl
theorem tf107_1 : tfield Tryz.prog 107 1 = some (1, 105) := by kernel_rfl
theorem tz107 : tzero Tryz.prog 107 = some (.agg #[.int .i64 0, .int .i64 0, .slice none 0 0, .int .i64 0, .int .i64 0, .int .i64 0, .slice none 0 0]) := by kernel_rfl
theorem ts126 : tsz Tryz.prog 126 = 1 := by kernel_rfl
theorem tb126 : tby Tryz.prog 126 = 8 := by kernel_rfl
theorem ta126 : tagg Tryz.prog 126 = some false := by kernel_rfl
theorem tc126 : Tryz.prog.cellsOf 126 = 1 := by kernel_rfl
theorem tB126 : Tryz.prog.bytesOf 126 = 8 := by kernel_rfl
theorem ti126 : (Tryz.prog.info? 126).isSome = true := by kernel_rfl
theorem tz126 : tzero Tryz.prog 126 = some (.int .i64 0) := by kernel_rfl
theorem ts133 : tsz Tryz.prog 133 = 1 := by kernel_rfl
theorem tb133 : tby Tryz.prog 133 = 4 := by kernel_rfl
theorem ta133 : tagg Tryz.prog 133 = some false := by kernel_rfl
theorem tc133 : Tryz.prog.cellsOf 133 = 1 := by kernel_rfl
theorem tB133 : Tryz.prog.bytesOf 133 = 4 := by kernel_rfl
theorem ti133 : (Tryz.prog.info? 133).isSome = true := by kernel_rfl
theorem tz133 : tzero Tryz.prog 133 = some (.int .u32 0) := by kernel_rfl
theorem ts135 : tsz Tryz.prog 135 = 1 := by kernel_rfl
theorem tb135 : tby Tryz.prog 135 = 8 := by kernel_rfl
theorem ta135 : tagg Tryz.prog 135 = some false := by kernel_rfl
theorem tc135 : Tryz.prog.cellsOf 135 = 1 := by kernel_rfl
theorem tB135 : Tryz.prog.bytesOf 135 = 8 := by kernel_rfl
theorem ti135 : (Tryz.prog.info? 135).isSome = true := by kernel_rfl
theorem tz135 : tzero Tryz.prog 135 = some (.int .u64 0) := by kernel_rfl
theorem ts136 : tsz Tryz.prog 136 = 1 := by kernel_rfl
theorem tb136 : tby Tryz.prog 136 = 8 := by kernel_rfl
theorem ta136 : tagg Tryz.prog 136 = some false := by kernel_rfl
theorem tc136 : Tryz.prog.cellsOf 136 = 1 := by kernel_rfl
theorem tB136 : Tryz.prog.bytesOf 136 = 8 := by kernel_rfl
theorem ti136 : (Tryz.prog.info? 136).isSome = true := by kernel_rfl
theorem tz136 : tzero Tryz.prog 136 = some (.int .u64 0) := by kernel_rfl
theorem ts140 : tsz Tryz.prog 140 = 1 := by kernel_rfl
theorem tb140 : tby Tryz.prog 140 = 8 := by kernel_rfl
theorem ta140 : tagg Tryz.prog 140 = some false := by kernel_rfl
theorem tc140 : Tryz.prog.cellsOf 140 = 1 := by kernel_rfl
theorem tB140 : Tryz.prog.bytesOf 140 = 8 := by kernel_rfl
theorem ti140 : (Tryz.prog.info? 140).isSome = true := by kernel_rfl
theorem tz140 : tzero Tryz.prog 140 = some (.pointer none) := by kernel_rfl
theorem ts142 : tsz Tryz.prog 142 = 1 := by kernel_rfl
theorem tb142 : tby Tryz.prog 142 = 8 := by kernel_rfl
theorem ta142 : tagg Tryz.prog 142 = some false := by kernel_rfl
theorem tc142 : Tryz.prog.cellsOf 142 = 1 := by kernel_rfl
theorem tB142 : Tryz.prog.bytesOf 142 = 8 := by kernel_rfl
theorem ti142 : (Tryz.prog.info? 142).isSome = true := by kernel_rfl
theorem tz142 : tzero Tryz.prog 142 = some (.pointer none) := by kernel_rfl
theorem ts146 : tsz Tryz.prog 146 = 4 := by kernel_rfl
theorem tb146 : tby Tryz.prog 146 = 40 := by kernel_rfl
theorem ta146 : tagg Tryz.prog 146 = some true := by kernel_rfl
theorem tc146 : Tryz.prog.cellsOf 146 = 4 := by kernel_rfl
theorem tB146 : Tryz.prog.bytesOf 146 = 40 := by kernel_rfl
theorem ti146 : (Tryz.prog.info? 146).isSome = true := by kernel_rfl
theorem tf146_0 : tfield Tryz.prog 146 0 = some (0, 17) := by kernel_rfl
theorem tf146_1 : tfield Tryz.prog 146 1 = some (1, 17) := by kernel_rfl
theorem tf146_2 : tfield Tryz.prog 146 2 = some (2, 17) := by kernel_rfl
theorem tf146_3 : tfield Tryz.prog 146 3 = some (3, 9) := by kernel_rfl
theorem tz146 : tzero Tryz.prog 146 = some (.agg #[.pointer none, .pointer none, .pointer none, .string ByteArray.empty]) := by kernel_rfl
theorem ts147 : tsz Tryz.prog 147 = 4 := by kernel_rfl
theorem tb147 : tby Tryz.prog 147 = 40 := by kernel_rfl
theorem ta147 : tagg Tryz.prog 147 = some true := by kernel_rfl
theorem tc147 : Tryz.prog.cellsOf 147 = 4 := by kernel_rfl
theorem tB147 : Tryz.prog.bytesOf 147 = 40 := by kernel_rfl
theorem ti147 : (Tryz.prog.info? 147).isSome = true := by kernel_rfl
theorem tf147_0 : tfield Tryz.prog 147 0 = some (0, 17) := by kernel_rfl
theorem tf147_1 : tfield Tryz.prog 147 1 = some (1, 17) := by kernel_rfl
theorem tf147_2 : tfield Tryz.prog 147 2 = some (2, 17) := by kernel_rfl
theorem tf147_3 : tfield Tryz.prog 147 3 = some (3, 9) := by kernel_rfl
theorem tz147 : tzero Tryz.prog 147 = some (.agg #[.pointer none, .pointer none, .pointer none, .string ByteArray.empty]) := by kernel_rfl
theorem ts149 : tsz Tryz.prog 149 = 0 := by kernel_rfl
theorem tb149 : tby Tryz.prog 149 = 0 := by kernel_rfl
theorem ta149 : tagg Tryz.prog 149 = some true := by kernel_rfl
theorem tc149 : Tryz.prog.cellsOf 149 = 0 := by kernel_rfl
theorem tB149 : Tryz.prog.bytesOf 149 = 0 := by kernel_rfl
theorem ti149 : (Tryz.prog.info? 149).isSome = true := by kernel_rfl
theorem tf149_0 : tfield Tryz.prog 149 0 = some (0, 148) := by kernel_rfl
theorem ts150 : tsz Tryz.prog 150 = 0 := by kernel_rfl
theorem tb150 : tby Tryz.prog 150 = 0 := by kernel_rfl
theorem ta150 : tagg Tryz.prog 150 = some true := by kernel_rfl
theorem tc150 : Tryz.prog.cellsOf 150 = 0 := by kernel_rfl
theorem tB150 : Tryz.prog.bytesOf 150 = 0 := by kernel_rfl
theorem ti150 : (Tryz.prog.info? 150).isSome = true := by kernel_rfl
theorem tf150_0 : tfield Tryz.prog 150 0 = some (0, 148) := by kernel_rfl
theorem ts152 : tsz Tryz.prog 152 = 1 := by kernel_rfl
theorem tb152 : tby Tryz.prog 152 = 1 := by kernel_rfl
theorem ta152 : tagg Tryz.prog 152 = some false := by kernel_rfl
theorem tc152 : Tryz.prog.cellsOf 152 = 1 := by kernel_rfl
theorem tB152 : Tryz.prog.bytesOf 152 = 1 := by kernel_rfl
theorem ti152 : (Tryz.prog.info? 152).isSome = true := by kernel_rfl
theorem tz152 : tzero Tryz.prog 152 = some (.int .u8 0) := by kernel_rfl
theorem ts153 : tsz Tryz.prog 153 = 1 := by kernel_rfl
theorem tb153 : tby Tryz.prog 153 = 1 := by kernel_rfl
theorem ta153 : tagg Tryz.prog 153 = some false := by kernel_rfl
theorem tc153 : Tryz.prog.cellsOf 153 = 1 := by kernel_rfl
theorem tB153 : Tryz.prog.bytesOf 153 = 1 := by kernel_rfl
theorem ti153 : (Tryz.prog.info? 153).isSome = true := by kernel_rfl
theorem tz153 : tzero Tryz.prog 153 = some (.int .u8 0) := by kernel_rfl
theorem ts155 : tsz Tryz.prog 155 = 1 := by kernel_rfl
theorem tb155 : tby Tryz.prog 155 = 8 := by kernel_rfl
theorem ta155 : tagg Tryz.prog 155 = some false := by kernel_rfl
theorem tc155 : Tryz.prog.cellsOf 155 = 1 := by kernel_rfl
theorem tB155 : Tryz.prog.bytesOf 155 = 8 := by kernel_rfl
theorem ti155 : (Tryz.prog.info? 155).isSome = true := by kernel_rfl
theorem tz155 : tzero Tryz.prog 155 = some (.pointer none) := by kernel_rfl
theorem ts156 : tsz Tryz.prog 156 = 1 := by kernel_rfl
theorem tb156 : tby Tryz.prog 156 = 4 := by kernel_rfl
theorem ta156 : tagg Tryz.prog 156 = some false := by kernel_rfl
theorem tc156 : Tryz.prog.cellsOf 156 = 1 := by kernel_rfl
theorem tB156 : Tryz.prog.bytesOf 156 = 4 := by kernel_rfl
theorem ti156 : (Tryz.prog.info? 156).isSome = true := by kernel_rfl
theorem tz156 : tzero Tryz.prog 156 = some (.int .i32 0) := by kernel_rfl
theorem ts157 : tsz Tryz.prog 157 = 1 := by kernel_rfl
theorem tb157 : tby Tryz.prog 157 = 4 := by kernel_rfl
theorem ta157 : tagg Tryz.prog 157 = some false := by kernel_rfl
theorem tc157 : Tryz.prog.cellsOf 157 = 1 := by kernel_rfl
theorem tB157 : Tryz.prog.bytesOf 157 = 4 := by kernel_rfl
theorem ti157 : (Tryz.prog.info? 157).isSome = true := by kernel_rfl
theorem tz157 : tzero Tryz.prog 157 = some (.int .i32 0) := by kernel_rfl
theorem ts158 : tsz Tryz.prog 158 = 11 := by kernel_rfl
theorem tb158 : tby Tryz.prog 158 = 48 := by kernel_rfl
theorem ta158 : tagg Tryz.prog 158 = some true := by kernel_rfl
theorem tc158 : Tryz.prog.cellsOf 158 = 11 := by kernel_rfl
theorem tB158 : Tryz.prog.bytesOf 158 = 48 := by kernel_rfl
theorem ti158 : (Tryz.prog.info? 158).isSome = true := by kernel_rfl
theorem tf158_0 : tfield Tryz.prog 158 0 = some (0, 12) := by kernel_rfl
theorem tf158_1 : tfield Tryz.prog 158 1 = some (1, 12) := by kernel_rfl
theorem tf158_2 : tfield Tryz.prog 158 2 = some (2, 133) := by kernel_rfl
theorem tf158_3 : tfield Tryz.prog 158 3 = some (3, 152) := by kernel_rfl
theorem tf158_4 : tfield Tryz.prog 158 4 = some (4, 5) := by kernel_rfl
theorem tf158_5 : tfield Tryz.prog 158 5 = some (5, 5) := by kernel_rfl
theorem tf158_6 : tfield Tryz.prog 158 6 = some (6, 153) := by kernel_rfl
theorem tf158_7 : tfield Tryz.prog 158 7 = some (7, 154) := by kernel_rfl
theorem tf158_8 : tfield Tryz.prog 158 8 = some (8, 155) := by kernel_rfl
theorem tf158_9 : tfield Tryz.prog 158 9 = some (9, 156) := by kernel_rfl
theorem tf158_10 : tfield Tryz.prog 158 10 = some (10, 157) := by kernel_rfl
theorem ts159 : tsz Tryz.prog 159 = 11 := by kernel_rfl
theorem tb159 : tby Tryz.prog 159 = 48 := by kernel_rfl
theorem ta159 : tagg Tryz.prog 159 = some true := by kernel_rfl
theorem tc159 : Tryz.prog.cellsOf 159 = 11 := by kernel_rfl
theorem tB159 : Tryz.prog.bytesOf 159 = 48 := by kernel_rfl
theorem ti159 : (Tryz.prog.info? 159).isSome = true := by kernel_rfl
theorem tf159_0 : tfield Tryz.prog 159 0 = some (0, 12) := by kernel_rfl
theorem tf159_1 : tfield Tryz.prog 159 1 = some (1, 12) := by kernel_rfl
theorem tf159_2 : tfield Tryz.prog 159 2 = some (2, 133) := by kernel_rfl
theorem tf159_3 : tfield Tryz.prog 159 3 = some (3, 152) := by kernel_rfl
theorem tf159_4 : tfield Tryz.prog 159 4 = some (4, 5) := by kernel_rfl
theorem tf159_5 : tfield Tryz.prog 159 5 = some (5, 5) := by kernel_rfl
theorem tf159_6 : tfield Tryz.prog 159 6 = some (6, 153) := by kernel_rfl
theorem tf159_7 : tfield Tryz.prog 159 7 = some (7, 154) := by kernel_rfl
theorem tf159_8 : tfield Tryz.prog 159 8 = some (8, 155) := by kernel_rfl
theorem tf159_9 : tfield Tryz.prog 159 9 = some (9, 156) := by kernel_rfl
theorem tf159_10 : tfield Tryz.prog 159 10 = some (10, 157) := by kernel_rfl
attribute [simp] ts2 tb2 ta2 tc2 tB2 ti2 tz2 ts3 tb3 ta3 tc3 tB3 ti3 tz3 ts4 tb4 ta4 tc4 tB4 ti4 tz4 ts5 tb5 ta5 tc5 tB5 ti5 tz5 ts6 tb6 ta6 tc6 tB6 ti6 tz6 ts7 tb7 ta7 tc7 tB7 ti7 tf7_0 tf7_1 tf7_2 tf7_3 tz7 ts8 tb8 ta8 tc8 tB8 ti8 tf8_0 tf8_1 tf8_2 tf8_3 tz8 ts9 tb9 ta9 tc9 tB9 ti9 tz9 ts10 tb10 ta10 tc10 tB10 ti10 tz10 ts11 tb11 ta11 tc11 tB11 ti11 tz11 ts12 tb12 ta12 tc12 tB12 ti12 tz12 ts13 tb13 ta13 tc13 tB13 ti13 tf13_0 tf13_1 tz13 ts14 tb14 ta14 tc14 tB14 ti14 tf14_0 tf14_1 tz14 ts15 tb15 ta15 tc15 tB15 ti15 tz15 ts16 tb16 ta16 tc16 tB16 ti16 tz16 ts17 tb17 ta17 tc17 tB17 ti17 tz17 ts18 tb18 ta18 tc18 tB18 ti18 tf18_0 tz18 ts19 tb19 ta19 tc19 tB19 ti19 tf19_0 tz19 ts21 tb21 ta21 tc21 tB21 ti21 tz21 ts22 tb22 ta22 tc22 tB22 ti22 te22 tz22 ts23 tb23 ta23 tc23 tB23 ti23 tf23_0 tf23_1 tz23 ts24 tb24 ta24 tc24 tB24 ti24 tf24_0 tf24_1 tz24 ts25 tb25 ta25 tc25 tB25 ti25 tq25 tf25_0 tf25_1 tz25 ts26 tb26 ta26 tc26 tB26 ti26 tq26 tf26_0 tf26_1 tz26 ts28 tb28 ta28 tc28 tB28 ti28 te28 tz28 ts29 tb29 ta29 tc29 tB29 ti29 tf29_0 tf29_1 tf29_2 tf29_3 tf29_4 tf29_5 tz29 ts30 tb30 ta30 tc30 tB30 ti30 tf30_0 tf30_1 tf30_2 tf30_3 tf30_4 tf30_5 tz30 ts31 tb31 ta31 tc31 tB31 ti31 tf31_0 tf31_1 tz31 ts32 tb32 ta32 tc32 tB32 ti32 tf32_0 tf32_1 tz32 ts35 tb35 ta35 tc35 tB35 ti35 te35 tz35 ts36 tb36 ta36 tc36 tB36 ti36 tf36_0 tf36_1 tz36 ts37 tb37 ta37 tc37 tB37 ti37 tf37_0 tf37_1 tz37 ts39 tb39 ta39 tc39 tB39 ti39 tq39 tf39_0 tf39_1 tz39 ts46 tb46 ta46 tc46 tB46 ti46 te46 tz46 ts47 tb47 ta47 tc47 tB47 ti47 te47 tz47 ts65 tb65 ta65 tc65 tB65 ti65 tf65_0 tf65_1 tz65 ts66 tb66 ta66 tc66 tB66 ti66 tf66_0 tf66_1 tz66 ts72 tb72 ta72 tc72 tB72 ti72 te72 tz72 ts73 tb73 ta73 tc73 tB73 ti73 tf73_0 tf73_1 tz73 ts74 tb74 ta74 tc74 tB74 ti74 tf74_0 tf74_1 tz74 ts93 tb93 ta93 tc93 tB93 ti93 tz93 ts105 tb105 ta105 tc105 tB105 ti105 tf105_0 tf105_1 tf105_2 tf105_3 tf105_4 tf105_5 tz105 ts106 tb106 ta106 tc106 tB106 ti106 tf106_0 tf106_1 tz106 ts107 tb107 ta107 tc107 tB107 ti107 tf107_0 tf107_1 tz107 ts126 tb126 ta126 tc126 tB126 ti126 tz126 ts133 tb133 ta133 tc133 tB133 ti133 tz133 ts135 tb135 ta135 tc135 tB135 ti135 tz135 ts136 tb136 ta136 tc136 tB136 ti136 tz136 ts140 tb140 ta140 tc140 tB140 ti140 tz140 ts142 tb142 ta142 tc142 tB142 ti142 tz142 ts146 tb146 ta146 tc146 tB146 ti146 tf146_0 tf146_1 tf146_2 tf146_3 tz146 ts147 tb147 ta147 tc147 tB147 ti147 tf147_0 tf147_1 tf147_2 tf147_3 tz147 ts149 tb149 ta149 tc149 tB149 ti149 tf149_0 ts150 tb150 ta150 tc150 tB150 ti150 tf150_0 ts152 tb152 ta152 tc152 tB152 ti152 tz152 ts153 tb153 ta153 tc153 tB153 ti153 tz153 ts155 tb155 ta155 tc155 tB155 ti155 tz155 ts156 tb156 ta156 tc156 tB156 ti156 tz156 ts157 tb157 ta157 tc157 tB157 ti157 tz157 ts158 tb158 ta158 tc158 tB158 ti158 tf158_0 tf158_1 tf158_2 tf158_3 tf158_4 tf158_5 tf158_6 tf158_7 tf158_8 tf158_9 tf158_10 ts159 tb159 ta159 tc159 tB159 ti159 tf159_0 tf159_1 tf159_2 tf159_3 tf159_4 tf159_5 tf159_6 tf159_7 tf159_8 tf159_9 tf159_10
end Go.V
