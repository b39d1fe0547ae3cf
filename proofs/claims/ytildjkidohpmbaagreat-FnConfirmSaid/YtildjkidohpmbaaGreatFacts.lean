/- Facts on the types of the seat's program, each by reckoning. No conditions. -/
import Derived.Test.YtildjkidohpmbaaGreatVf
import Derived.Test.YtildjkidohpmbaaGreatProg
set_option linter.all false
namespace Go.V
open Go.Proofs
set_option maxRecDepth 10000
theorem h0 : tsz Tryz.prog nilE = 0 := by kernel_rfl
theorem hm : Tryz.prog.follows .mixedOrders = true := by kernel_rfl
theorem ts2 : tsz Tryz.prog 2 = 1 := by kernel_rfl
theorem tb2 : tby Tryz.prog 2 = 8 := by kernel_rfl
theorem ta2 : tagg Tryz.prog 2 = some false := by kernel_rfl
theorem tc2 : Tryz.prog.cellsOf 2 = 1 := by kernel_rfl
theorem tB2 : Tryz.prog.bytesOf 2 = 8 := by kernel_rfl
theorem ti2 : (Tryz.prog.info? 2).isSome = true := by kernel_rfl
theorem tz2 : tzero Tryz.prog 2 = some (.int .i64 0) := by kernel_rfl
theorem ts3 : tsz Tryz.prog 3 = 1 := by kernel_rfl
theorem tb3 : tby Tryz.prog 3 = 8 := by kernel_rfl
theorem ta3 : tagg Tryz.prog 3 = some false := by kernel_rfl
theorem tc3 : Tryz.prog.cellsOf 3 = 1 := by kernel_rfl
theorem tB3 : Tryz.prog.bytesOf 3 = 8 := by kernel_rfl
theorem ti3 : (Tryz.prog.info? 3).isSome = true := by kernel_rfl
theorem tz3 : tzero Tryz.prog 3 = some (.int .i64 0) := by kernel_rfl
theorem ts4 : tsz Tryz.prog 4 = 1 := by kernel_rfl
theorem tb4 : tby Tryz.prog 4 = 1 := by kernel_rfl
theorem ta4 : tagg Tryz.prog 4 = some false := by kernel_rfl
theorem tc4 : Tryz.prog.cellsOf 4 = 1 := by kernel_rfl
theorem tB4 : Tryz.prog.bytesOf 4 = 1 := by kernel_rfl
theorem ti4 : (Tryz.prog.info? 4).isSome = true := by kernel_rfl
theorem tz4 : tzero Tryz.prog 4 = some (.bool false) := by kernel_rfl
theorem ts5 : tsz Tryz.prog 5 = 1 := by kernel_rfl
theorem tb5 : tby Tryz.prog 5 = 1 := by kernel_rfl
theorem ta5 : tagg Tryz.prog 5 = some false := by kernel_rfl
theorem tc5 : Tryz.prog.cellsOf 5 = 1 := by kernel_rfl
theorem tB5 : Tryz.prog.bytesOf 5 = 1 := by kernel_rfl
theorem ti5 : (Tryz.prog.info? 5).isSome = true := by kernel_rfl
theorem tz5 : tzero Tryz.prog 5 = some (.int .u8 0) := by kernel_rfl
theorem ts6 : tsz Tryz.prog 6 = 1 := by kernel_rfl
theorem tb6 : tby Tryz.prog 6 = 1 := by kernel_rfl
theorem ta6 : tagg Tryz.prog 6 = some false := by kernel_rfl
theorem tc6 : Tryz.prog.cellsOf 6 = 1 := by kernel_rfl
theorem tB6 : Tryz.prog.bytesOf 6 = 1 := by kernel_rfl
theorem ti6 : (Tryz.prog.info? 6).isSome = true := by kernel_rfl
theorem tz6 : tzero Tryz.prog 6 = some (.int .u8 0) := by kernel_rfl
theorem ts7 : tsz Tryz.prog 7 = 4 := by kernel_rfl
theorem tb7 : tby Tryz.prog 7 = 24 := by kernel_rfl
theorem ta7 : tagg Tryz.prog 7 = some true := by kernel_rfl
theorem tc7 : Tryz.prog.cellsOf 7 = 4 := by kernel_rfl
theorem tB7 : Tryz.prog.bytesOf 7 = 24 := by kernel_rfl
theorem ti7 : (Tryz.prog.info? 7).isSome = true := by kernel_rfl
theorem tf7_0 : tfield Tryz.prog 7 0 = some (0, 2) := by kernel_rfl
theorem tf7_1 : tfield Tryz.prog 7 1 = some (1, 3) := by kernel_rfl
theorem tf7_2 : tfield Tryz.prog 7 2 = some (2, 4) := by kernel_rfl
theorem tf7_3 : tfield Tryz.prog 7 3 = some (3, 6) := by kernel_rfl
theorem tz7 : tzero Tryz.prog 7 = some (.agg #[.int .i64 0, .int .i64 0, .bool false, .int .u8 0]) := by kernel_rfl
theorem ts8 : tsz Tryz.prog 8 = 4 := by kernel_rfl
theorem tb8 : tby Tryz.prog 8 = 24 := by kernel_rfl
theorem ta8 : tagg Tryz.prog 8 = some true := by kernel_rfl
theorem tc8 : Tryz.prog.cellsOf 8 = 4 := by kernel_rfl
theorem tB8 : Tryz.prog.bytesOf 8 = 24 := by kernel_rfl
theorem ti8 : (Tryz.prog.info? 8).isSome = true := by kernel_rfl
theorem tf8_0 : tfield Tryz.prog 8 0 = some (0, 2) := by kernel_rfl
theorem tf8_1 : tfield Tryz.prog 8 1 = some (1, 3) := by kernel_rfl
theorem tf8_2 : tfield Tryz.prog 8 2 = some (2, 4) := by kernel_rfl
theorem tf8_3 : tfield Tryz.prog 8 3 = some (3, 6) := by kernel_rfl
theorem tz8 : tzero Tryz.prog 8 = some (.agg #[.int .i64 0, .int .i64 0, .bool false, .int .u8 0]) := by kernel_rfl
theorem ts9 : tsz Tryz.prog 9 = 1 := by kernel_rfl
theorem tb9 : tby Tryz.prog 9 = 16 := by kernel_rfl
theorem ta9 : tagg Tryz.prog 9 = some false := by kernel_rfl
theorem tc9 : Tryz.prog.cellsOf 9 = 1 := by kernel_rfl
theorem tB9 : Tryz.prog.bytesOf 9 = 16 := by kernel_rfl
theorem ti9 : (Tryz.prog.info? 9).isSome = true := by kernel_rfl
theorem tz9 : tzero Tryz.prog 9 = some (.string ByteArray.empty) := by kernel_rfl
theorem ts10 : tsz Tryz.prog 10 = 1 := by kernel_rfl
theorem tb10 : tby Tryz.prog 10 = 16 := by kernel_rfl
theorem ta10 : tagg Tryz.prog 10 = some false := by kernel_rfl
theorem tc10 : Tryz.prog.cellsOf 10 = 1 := by kernel_rfl
theorem tB10 : Tryz.prog.bytesOf 10 = 16 := by kernel_rfl
theorem ti10 : (Tryz.prog.info? 10).isSome = true := by kernel_rfl
theorem tz10 : tzero Tryz.prog 10 = some (.string ByteArray.empty) := by kernel_rfl
theorem ts11 : tsz Tryz.prog 11 = 1 := by kernel_rfl
theorem tb11 : tby Tryz.prog 11 = 16 := by kernel_rfl
theorem ta11 : tagg Tryz.prog 11 = some false := by kernel_rfl
theorem tc11 : Tryz.prog.cellsOf 11 = 1 := by kernel_rfl
theorem tB11 : Tryz.prog.bytesOf 11 = 16 := by kernel_rfl
theorem ti11 : (Tryz.prog.info? 11).isSome = true := by kernel_rfl
theorem tz11 : tzero Tryz.prog 11 = some (.string ByteArray.empty) := by kernel_rfl
theorem ts12 : tsz Tryz.prog 12 = 1 := by kernel_rfl
theorem tb12 : tby Tryz.prog 12 = 8 := by kernel_rfl
theorem ta12 : tagg Tryz.prog 12 = some false := by kernel_rfl
theorem tc12 : Tryz.prog.cellsOf 12 = 1 := by kernel_rfl
theorem tB12 : Tryz.prog.bytesOf 12 = 8 := by kernel_rfl
theorem ti12 : (Tryz.prog.info? 12).isSome = true := by kernel_rfl
theorem tz12 : tzero Tryz.prog 12 = some (.int .u64 0) := by kernel_rfl
theorem ts13 : tsz Tryz.prog 13 = 2 := by kernel_rfl
theorem tb13 : tby Tryz.prog 13 = 24 := by kernel_rfl
theorem ta13 : tagg Tryz.prog 13 = some true := by kernel_rfl
theorem tc13 : Tryz.prog.cellsOf 13 = 2 := by kernel_rfl
theorem tB13 : Tryz.prog.bytesOf 13 = 24 := by kernel_rfl
theorem ti13 : (Tryz.prog.info? 13).isSome = true := by kernel_rfl
theorem tf13_0 : tfield Tryz.prog 13 0 = some (0, 9) := by kernel_rfl
theorem tf13_1 : tfield Tryz.prog 13 1 = some (1, 12) := by kernel_rfl
theorem tz13 : tzero Tryz.prog 13 = some (.agg #[.string ByteArray.empty, .int .u64 0]) := by kernel_rfl
theorem ts14 : tsz Tryz.prog 14 = 2 := by kernel_rfl
theorem tb14 : tby Tryz.prog 14 = 24 := by kernel_rfl
theorem ta14 : tagg Tryz.prog 14 = some true := by kernel_rfl
theorem tc14 : Tryz.prog.cellsOf 14 = 2 := by kernel_rfl
theorem tB14 : Tryz.prog.bytesOf 14 = 24 := by kernel_rfl
theorem ti14 : (Tryz.prog.info? 14).isSome = true := by kernel_rfl
theorem tf14_0 : tfield Tryz.prog 14 0 = some (0, 9) := by kernel_rfl
theorem tf14_1 : tfield Tryz.prog 14 1 = some (1, 12) := by kernel_rfl
theorem tz14 : tzero Tryz.prog 14 = some (.agg #[.string ByteArray.empty, .int .u64 0]) := by kernel_rfl
theorem ts15 : tsz Tryz.prog 15 = 1 := by kernel_rfl
theorem tb15 : tby Tryz.prog 15 = 8 := by kernel_rfl
theorem ta15 : tagg Tryz.prog 15 = some false := by kernel_rfl
theorem tc15 : Tryz.prog.cellsOf 15 = 1 := by kernel_rfl
theorem tB15 : Tryz.prog.bytesOf 15 = 8 := by kernel_rfl
theorem ti15 : (Tryz.prog.info? 15).isSome = true := by kernel_rfl
theorem tz15 : tzero Tryz.prog 15 = some (.pointer none) := by kernel_rfl
theorem ts16 : tsz Tryz.prog 16 = 1 := by kernel_rfl
theorem tb16 : tby Tryz.prog 16 = 8 := by kernel_rfl
theorem ta16 : tagg Tryz.prog 16 = some false := by kernel_rfl
theorem tc16 : Tryz.prog.cellsOf 16 = 1 := by kernel_rfl
theorem tB16 : Tryz.prog.bytesOf 16 = 8 := by kernel_rfl
theorem ti16 : (Tryz.prog.info? 16).isSome = true := by kernel_rfl
theorem tz16 : tzero Tryz.prog 16 = some (.pointer none) := by kernel_rfl
theorem ts17 : tsz Tryz.prog 17 = 1 := by kernel_rfl
theorem tb17 : tby Tryz.prog 17 = 8 := by kernel_rfl
theorem ta17 : tagg Tryz.prog 17 = some false := by kernel_rfl
theorem tc17 : Tryz.prog.cellsOf 17 = 1 := by kernel_rfl
theorem tB17 : Tryz.prog.bytesOf 17 = 8 := by kernel_rfl
theorem ti17 : (Tryz.prog.info? 17).isSome = true := by kernel_rfl
theorem tz17 : tzero Tryz.prog 17 = some (.pointer none) := by kernel_rfl
theorem ts18 : tsz Tryz.prog 18 = 1 := by kernel_rfl
theorem tb18 : tby Tryz.prog 18 = 8 := by kernel_rfl
theorem ta18 : tagg Tryz.prog 18 = some true := by kernel_rfl
theorem tc18 : Tryz.prog.cellsOf 18 = 1 := by kernel_rfl
theorem tB18 : Tryz.prog.bytesOf 18 = 8 := by kernel_rfl
theorem ti18 : (Tryz.prog.info? 18).isSome = true := by kernel_rfl
theorem tf18_0 : tfield Tryz.prog 18 0 = some (0, 17) := by kernel_rfl
theorem tz18 : tzero Tryz.prog 18 = some (.agg #[.pointer none]) := by kernel_rfl
theorem ts19 : tsz Tryz.prog 19 = 1 := by kernel_rfl
theorem tb19 : tby Tryz.prog 19 = 8 := by kernel_rfl
theorem ta19 : tagg Tryz.prog 19 = some true := by kernel_rfl
theorem tc19 : Tryz.prog.cellsOf 19 = 1 := by kernel_rfl
theorem tB19 : Tryz.prog.bytesOf 19 = 8 := by kernel_rfl
theorem ti19 : (Tryz.prog.info? 19).isSome = true := by kernel_rfl
theorem tf19_0 : tfield Tryz.prog 19 0 = some (0, 17) := by kernel_rfl
theorem tz19 : tzero Tryz.prog 19 = some (.agg #[.pointer none]) := by kernel_rfl
theorem ts21 : tsz Tryz.prog 21 = 1 := by kernel_rfl
theorem tb21 : tby Tryz.prog 21 = 4 := by kernel_rfl
theorem ta21 : tagg Tryz.prog 21 = some false := by kernel_rfl
theorem tc21 : Tryz.prog.cellsOf 21 = 1 := by kernel_rfl
theorem tB21 : Tryz.prog.bytesOf 21 = 4 := by kernel_rfl
theorem ti21 : (Tryz.prog.info? 21).isSome = true := by kernel_rfl
theorem tz21 : tzero Tryz.prog 21 = some (.int .i32 0) := by kernel_rfl
theorem ts22 : tsz Tryz.prog 22 = 1 := by kernel_rfl
theorem tb22 : tby Tryz.prog 22 = 24 := by kernel_rfl
theorem ta22 : tagg Tryz.prog 22 = some false := by kernel_rfl
theorem tc22 : Tryz.prog.cellsOf 22 = 1 := by kernel_rfl
theorem tB22 : Tryz.prog.bytesOf 22 = 24 := by kernel_rfl
theorem ti22 : (Tryz.prog.info? 22).isSome = true := by kernel_rfl
theorem te22 : telem Tryz.prog 22 = some 5 := by kernel_rfl
theorem tz22 : tzero Tryz.prog 22 = some (.slice none 0 0) := by kernel_rfl
theorem ts23 : tsz Tryz.prog 23 = 1 := by kernel_rfl
theorem tb23 : tby Tryz.prog 23 = 24 := by kernel_rfl
theorem ta23 : tagg Tryz.prog 23 = some false := by kernel_rfl
theorem tc23 : Tryz.prog.cellsOf 23 = 1 := by kernel_rfl
theorem tB23 : Tryz.prog.bytesOf 23 = 24 := by kernel_rfl
theorem ti23 : (Tryz.prog.info? 23).isSome = true := by kernel_rfl
theorem te23 : telem Tryz.prog 23 = some 58 := by kernel_rfl
theorem tz23 : tzero Tryz.prog 23 = some (.slice none 0 0) := by kernel_rfl
theorem ts24 : tsz Tryz.prog 24 = 1 := by kernel_rfl
theorem tb24 : tby Tryz.prog 24 = 24 := by kernel_rfl
theorem ta24 : tagg Tryz.prog 24 = some false := by kernel_rfl
theorem tc24 : Tryz.prog.cellsOf 24 = 1 := by kernel_rfl
theorem tB24 : Tryz.prog.bytesOf 24 = 24 := by kernel_rfl
theorem ti24 : (Tryz.prog.info? 24).isSome = true := by kernel_rfl
theorem te24 : telem Tryz.prog 24 = some 23 := by kernel_rfl
theorem tz24 : tzero Tryz.prog 24 = some (.slice none 0 0) := by kernel_rfl
theorem ts25 : tsz Tryz.prog 25 = 4 := by kernel_rfl
theorem tb25 : tby Tryz.prog 25 = 80 := by kernel_rfl
theorem ta25 : tagg Tryz.prog 25 = some true := by kernel_rfl
theorem tc25 : Tryz.prog.cellsOf 25 = 4 := by kernel_rfl
theorem tB25 : Tryz.prog.bytesOf 25 = 80 := by kernel_rfl
theorem ti25 : (Tryz.prog.info? 25).isSome = true := by kernel_rfl
theorem tf25_0 : tfield Tryz.prog 25 0 = some (0, 23) := by kernel_rfl
theorem tf25_1 : tfield Tryz.prog 25 1 = some (1, 23) := by kernel_rfl
theorem tf25_2 : tfield Tryz.prog 25 2 = some (2, 24) := by kernel_rfl
theorem tf25_3 : tfield Tryz.prog 25 3 = some (3, 3) := by kernel_rfl
theorem tz25 : tzero Tryz.prog 25 = some (.agg #[.slice none 0 0, .slice none 0 0, .slice none 0 0, .int .i64 0]) := by kernel_rfl
theorem ts26 : tsz Tryz.prog 26 = 4 := by kernel_rfl
theorem tb26 : tby Tryz.prog 26 = 80 := by kernel_rfl
theorem ta26 : tagg Tryz.prog 26 = some true := by kernel_rfl
theorem tc26 : Tryz.prog.cellsOf 26 = 4 := by kernel_rfl
theorem tB26 : Tryz.prog.bytesOf 26 = 80 := by kernel_rfl
theorem ti26 : (Tryz.prog.info? 26).isSome = true := by kernel_rfl
theorem tf26_0 : tfield Tryz.prog 26 0 = some (0, 23) := by kernel_rfl
theorem tf26_1 : tfield Tryz.prog 26 1 = some (1, 23) := by kernel_rfl
theorem tf26_2 : tfield Tryz.prog 26 2 = some (2, 24) := by kernel_rfl
theorem tf26_3 : tfield Tryz.prog 26 3 = some (3, 3) := by kernel_rfl
theorem tz26 : tzero Tryz.prog 26 = some (.agg #[.slice none 0 0, .slice none 0 0, .slice none 0 0, .int .i64 0]) := by kernel_rfl
theorem ts27 : tsz Tryz.prog 27 = 1 := by kernel_rfl
theorem tb27 : tby Tryz.prog 27 = 24 := by kernel_rfl
theorem ta27 : tagg Tryz.prog 27 = some false := by kernel_rfl
theorem tc27 : Tryz.prog.cellsOf 27 = 1 := by kernel_rfl
theorem tB27 : Tryz.prog.bytesOf 27 = 24 := by kernel_rfl
theorem ti27 : (Tryz.prog.info? 27).isSome = true := by kernel_rfl
theorem te27 : telem Tryz.prog 27 = some 9 := by kernel_rfl
theorem tz27 : tzero Tryz.prog 27 = some (.slice none 0 0) := by kernel_rfl
theorem ts28 : tsz Tryz.prog 28 = 4 := by kernel_rfl
theorem tb28 : tby Tryz.prog 28 = 56 := by kernel_rfl
theorem ta28 : tagg Tryz.prog 28 = some true := by kernel_rfl
theorem tc28 : Tryz.prog.cellsOf 28 = 4 := by kernel_rfl
theorem tB28 : Tryz.prog.bytesOf 28 = 56 := by kernel_rfl
theorem ti28 : (Tryz.prog.info? 28).isSome = true := by kernel_rfl
theorem tf28_0 : tfield Tryz.prog 28 0 = some (0, 3) := by kernel_rfl
theorem tf28_1 : tfield Tryz.prog 28 1 = some (1, 27) := by kernel_rfl
theorem tf28_2 : tfield Tryz.prog 28 2 = some (2, 9) := by kernel_rfl
theorem tf28_3 : tfield Tryz.prog 28 3 = some (3, 3) := by kernel_rfl
theorem tz28 : tzero Tryz.prog 28 = some (.agg #[.int .i64 0, .slice none 0 0, .string ByteArray.empty, .int .i64 0]) := by kernel_rfl
theorem ts29 : tsz Tryz.prog 29 = 4 := by kernel_rfl
theorem tb29 : tby Tryz.prog 29 = 56 := by kernel_rfl
theorem ta29 : tagg Tryz.prog 29 = some true := by kernel_rfl
theorem tc29 : Tryz.prog.cellsOf 29 = 4 := by kernel_rfl
theorem tB29 : Tryz.prog.bytesOf 29 = 56 := by kernel_rfl
theorem ti29 : (Tryz.prog.info? 29).isSome = true := by kernel_rfl
theorem tf29_0 : tfield Tryz.prog 29 0 = some (0, 3) := by kernel_rfl
theorem tf29_1 : tfield Tryz.prog 29 1 = some (1, 27) := by kernel_rfl
theorem tf29_2 : tfield Tryz.prog 29 2 = some (2, 9) := by kernel_rfl
theorem tf29_3 : tfield Tryz.prog 29 3 = some (3, 3) := by kernel_rfl
theorem tz29 : tzero Tryz.prog 29 = some (.agg #[.int .i64 0, .slice none 0 0, .string ByteArray.empty, .int .i64 0]) := by kernel_rfl
theorem ts38 : tsz Tryz.prog 38 = 1 := by kernel_rfl
theorem tb38 : tby Tryz.prog 38 = 24 := by kernel_rfl
theorem ta38 : tagg Tryz.prog 38 = some false := by kernel_rfl
theorem tc38 : Tryz.prog.cellsOf 38 = 1 := by kernel_rfl
theorem tB38 : Tryz.prog.bytesOf 38 = 24 := by kernel_rfl
theorem ti38 : (Tryz.prog.info? 38).isSome = true := by kernel_rfl
theorem te38 : telem Tryz.prog 38 = some 63 := by kernel_rfl
theorem tz38 : tzero Tryz.prog 38 = some (.slice none 0 0) := by kernel_rfl
theorem ts48 : tsz Tryz.prog 48 = 1 := by kernel_rfl
theorem tb48 : tby Tryz.prog 48 = 8 := by kernel_rfl
theorem ta48 : tagg Tryz.prog 48 = some false := by kernel_rfl
theorem tc48 : Tryz.prog.cellsOf 48 = 1 := by kernel_rfl
theorem tB48 : Tryz.prog.bytesOf 48 = 8 := by kernel_rfl
theorem ti48 : (Tryz.prog.info? 48).isSome = true := by kernel_rfl
theorem tz48 : tzero Tryz.prog 48 = some (.pointer none) := by kernel_rfl
theorem ts49 : tsz Tryz.prog 49 = 1 := by kernel_rfl
theorem tb49 : tby Tryz.prog 49 = 8 := by kernel_rfl
theorem ta49 : tagg Tryz.prog 49 = some false := by kernel_rfl
theorem tc49 : Tryz.prog.cellsOf 49 = 1 := by kernel_rfl
theorem tB49 : Tryz.prog.bytesOf 49 = 8 := by kernel_rfl
theorem ti49 : (Tryz.prog.info? 49).isSome = true := by kernel_rfl
theorem tz49 : tzero Tryz.prog 49 = some (.int .u64 0) := by kernel_rfl
theorem ts50 : tsz Tryz.prog 50 = 3 := by kernel_rfl
theorem tb50 : tby Tryz.prog 50 = 40 := by kernel_rfl
theorem ta50 : tagg Tryz.prog 50 = some true := by kernel_rfl
theorem tc50 : Tryz.prog.cellsOf 50 = 3 := by kernel_rfl
theorem tB50 : Tryz.prog.bytesOf 50 = 40 := by kernel_rfl
theorem ti50 : (Tryz.prog.info? 50).isSome = true := by kernel_rfl
theorem tf50_0 : tfield Tryz.prog 50 0 = some (0, 22) := by kernel_rfl
theorem tf50_1 : tfield Tryz.prog 50 1 = some (1, 3) := by kernel_rfl
theorem tf50_2 : tfield Tryz.prog 50 2 = some (2, 49) := by kernel_rfl
theorem tz50 : tzero Tryz.prog 50 = some (.agg #[.slice none 0 0, .int .i64 0, .int .u64 0]) := by kernel_rfl
theorem ts51 : tsz Tryz.prog 51 = 3 := by kernel_rfl
theorem tb51 : tby Tryz.prog 51 = 40 := by kernel_rfl
theorem ta51 : tagg Tryz.prog 51 = some true := by kernel_rfl
theorem tc51 : Tryz.prog.cellsOf 51 = 3 := by kernel_rfl
theorem tB51 : Tryz.prog.bytesOf 51 = 40 := by kernel_rfl
theorem ti51 : (Tryz.prog.info? 51).isSome = true := by kernel_rfl
theorem tf51_0 : tfield Tryz.prog 51 0 = some (0, 22) := by kernel_rfl
theorem tf51_1 : tfield Tryz.prog 51 1 = some (1, 3) := by kernel_rfl
theorem tf51_2 : tfield Tryz.prog 51 2 = some (2, 49) := by kernel_rfl
theorem tz51 : tzero Tryz.prog 51 = some (.agg #[.slice none 0 0, .int .i64 0, .int .u64 0]) := by kernel_rfl
theorem ts57 : tsz Tryz.prog 57 = 2 := by kernel_rfl
theorem tb57 : tby Tryz.prog 57 = 40 := by kernel_rfl
theorem ta57 : tagg Tryz.prog 57 = some true := by kernel_rfl
theorem tc57 : Tryz.prog.cellsOf 57 = 2 := by kernel_rfl
theorem tB57 : Tryz.prog.bytesOf 57 = 40 := by kernel_rfl
theorem ti57 : (Tryz.prog.info? 57).isSome = true := by kernel_rfl
theorem tf57_0 : tfield Tryz.prog 57 0 = some (0, 27) := by kernel_rfl
theorem tf57_1 : tfield Tryz.prog 57 1 = some (1, 9) := by kernel_rfl
theorem tz57 : tzero Tryz.prog 57 = some (.agg #[.slice none 0 0, .string ByteArray.empty]) := by kernel_rfl
theorem ts58 : tsz Tryz.prog 58 = 2 := by kernel_rfl
theorem tb58 : tby Tryz.prog 58 = 40 := by kernel_rfl
theorem ta58 : tagg Tryz.prog 58 = some true := by kernel_rfl
theorem tc58 : Tryz.prog.cellsOf 58 = 2 := by kernel_rfl
theorem tB58 : Tryz.prog.bytesOf 58 = 40 := by kernel_rfl
theorem ti58 : (Tryz.prog.info? 58).isSome = true := by kernel_rfl
theorem tf58_0 : tfield Tryz.prog 58 0 = some (0, 27) := by kernel_rfl
theorem tf58_1 : tfield Tryz.prog 58 1 = some (1, 9) := by kernel_rfl
theorem tz58 : tzero Tryz.prog 58 = some (.agg #[.slice none 0 0, .string ByteArray.empty]) := by kernel_rfl
theorem ts62 : tsz Tryz.prog 62 = 3 := by kernel_rfl
theorem tb62 : tby Tryz.prog 62 = 48 := by kernel_rfl
theorem ta62 : tagg Tryz.prog 62 = some true := by kernel_rfl
theorem tc62 : Tryz.prog.cellsOf 62 = 3 := by kernel_rfl
theorem tB62 : Tryz.prog.bytesOf 62 = 48 := by kernel_rfl
theorem ti62 : (Tryz.prog.info? 62).isSome = true := by kernel_rfl
theorem tf62_0 : tfield Tryz.prog 62 0 = some (0, 4) := by kernel_rfl
theorem tf62_1 : tfield Tryz.prog 62 1 = some (1, 27) := by kernel_rfl
theorem tf62_2 : tfield Tryz.prog 62 2 = some (2, 9) := by kernel_rfl
theorem tz62 : tzero Tryz.prog 62 = some (.agg #[.bool false, .slice none 0 0, .string ByteArray.empty]) := by kernel_rfl
theorem ts63 : tsz Tryz.prog 63 = 3 := by kernel_rfl
theorem tb63 : tby Tryz.prog 63 = 48 := by kernel_rfl
theorem ta63 : tagg Tryz.prog 63 = some true := by kernel_rfl
theorem tc63 : Tryz.prog.cellsOf 63 = 3 := by kernel_rfl
theorem tB63 : Tryz.prog.bytesOf 63 = 48 := by kernel_rfl
theorem ti63 : (Tryz.prog.info? 63).isSome = true := by kernel_rfl
theorem tf63_0 : tfield Tryz.prog 63 0 = some (0, 4) := by kernel_rfl
theorem tf63_1 : tfield Tryz.prog 63 1 = some (1, 27) := by kernel_rfl
theorem tf63_2 : tfield Tryz.prog 63 2 = some (2, 9) := by kernel_rfl
theorem tz63 : tzero Tryz.prog 63 = some (.agg #[.bool false, .slice none 0 0, .string ByteArray.empty]) := by kernel_rfl
theorem ts67 : tsz Tryz.prog 67 = 1 := by kernel_rfl
theorem tb67 : tby Tryz.prog 67 = 24 := by kernel_rfl
theorem ta67 : tagg Tryz.prog 67 = some false := by kernel_rfl
theorem tc67 : Tryz.prog.cellsOf 67 = 1 := by kernel_rfl
theorem tB67 : Tryz.prog.bytesOf 67 = 24 := by kernel_rfl
theorem ti67 : (Tryz.prog.info? 67).isSome = true := by kernel_rfl
theorem te67 : telem Tryz.prog 67 = some 4 := by kernel_rfl
theorem tz67 : tzero Tryz.prog 67 = some (.slice none 0 0) := by kernel_rfl
theorem ts70 : tsz Tryz.prog 70 = 1 := by kernel_rfl
theorem tb70 : tby Tryz.prog 70 = 24 := by kernel_rfl
theorem ta70 : tagg Tryz.prog 70 = some false := by kernel_rfl
theorem tc70 : Tryz.prog.cellsOf 70 = 1 := by kernel_rfl
theorem tB70 : Tryz.prog.bytesOf 70 = 24 := by kernel_rfl
theorem ti70 : (Tryz.prog.info? 70).isSome = true := by kernel_rfl
theorem te70 : telem Tryz.prog 70 = some 29 := by kernel_rfl
theorem tz70 : tzero Tryz.prog 70 = some (.slice none 0 0) := by kernel_rfl
theorem ts74 : tsz Tryz.prog 74 = 1 := by kernel_rfl
theorem tb74 : tby Tryz.prog 74 = 24 := by kernel_rfl
theorem ta74 : tagg Tryz.prog 74 = some false := by kernel_rfl
theorem tc74 : Tryz.prog.cellsOf 74 = 1 := by kernel_rfl
theorem tB74 : Tryz.prog.bytesOf 74 = 24 := by kernel_rfl
theorem ti74 : (Tryz.prog.info? 74).isSome = true := by kernel_rfl
theorem te74 : telem Tryz.prog 74 = some 3 := by kernel_rfl
theorem tz74 : tzero Tryz.prog 74 = some (.slice none 0 0) := by kernel_rfl
theorem ts92 : tsz Tryz.prog 92 = 1 := by kernel_rfl
theorem tb92 : tby Tryz.prog 92 = 8 := by kernel_rfl
theorem ta92 : tagg Tryz.prog 92 = some false := by kernel_rfl
theorem tc92 : Tryz.prog.cellsOf 92 = 1 := by kernel_rfl
theorem tB92 : Tryz.prog.bytesOf 92 = 8 := by kernel_rfl
theorem ti92 : (Tryz.prog.info? 92).isSome = true := by kernel_rfl
theorem tz92 : tzero Tryz.prog 92 = some (.pointer none) := by kernel_rfl
theorem ts103 : tsz Tryz.prog 103 = 1 := by kernel_rfl
theorem tb103 : tby Tryz.prog 103 = 8 := by kernel_rfl
theorem ta103 : tagg Tryz.prog 103 = some false := by kernel_rfl
theorem tc103 : Tryz.prog.cellsOf 103 = 1 := by kernel_rfl
theorem tB103 : Tryz.prog.bytesOf 103 = 8 := by kernel_rfl
theorem ti103 : (Tryz.prog.info? 103).isSome = true := by kernel_rfl
theorem tz103 : tzero Tryz.prog 103 = some (.int .u64 0) := by kernel_rfl
theorem ts110 : tsz Tryz.prog 110 = 4 := by kernel_rfl
theorem tb110 : tby Tryz.prog 110 = 40 := by kernel_rfl
theorem ta110 : tagg Tryz.prog 110 = some true := by kernel_rfl
theorem tc110 : Tryz.prog.cellsOf 110 = 4 := by kernel_rfl
theorem tB110 : Tryz.prog.bytesOf 110 = 40 := by kernel_rfl
theorem ti110 : (Tryz.prog.info? 110).isSome = true := by kernel_rfl
theorem tf110_0 : tfield Tryz.prog 110 0 = some (0, 17) := by kernel_rfl
theorem tf110_1 : tfield Tryz.prog 110 1 = some (1, 17) := by kernel_rfl
theorem tf110_2 : tfield Tryz.prog 110 2 = some (2, 17) := by kernel_rfl
theorem tf110_3 : tfield Tryz.prog 110 3 = some (3, 9) := by kernel_rfl
theorem tz110 : tzero Tryz.prog 110 = some (.agg #[.pointer none, .pointer none, .pointer none, .string ByteArray.empty]) := by kernel_rfl
theorem ts111 : tsz Tryz.prog 111 = 4 := by kernel_rfl
theorem tb111 : tby Tryz.prog 111 = 40 := by kernel_rfl
theorem ta111 : tagg Tryz.prog 111 = some true := by kernel_rfl
theorem tc111 : Tryz.prog.cellsOf 111 = 4 := by kernel_rfl
theorem tB111 : Tryz.prog.bytesOf 111 = 40 := by kernel_rfl
theorem ti111 : (Tryz.prog.info? 111).isSome = true := by kernel_rfl
theorem tf111_0 : tfield Tryz.prog 111 0 = some (0, 17) := by kernel_rfl
theorem tf111_1 : tfield Tryz.prog 111 1 = some (1, 17) := by kernel_rfl
theorem tf111_2 : tfield Tryz.prog 111 2 = some (2, 17) := by kernel_rfl
theorem tf111_3 : tfield Tryz.prog 111 3 = some (3, 9) := by kernel_rfl
theorem tz111 : tzero Tryz.prog 111 = some (.agg #[.pointer none, .pointer none, .pointer none, .string ByteArray.empty]) := by kernel_rfl
theorem ts113 : tsz Tryz.prog 113 = 0 := by kernel_rfl
theorem tb113 : tby Tryz.prog 113 = 0 := by kernel_rfl
theorem ta113 : tagg Tryz.prog 113 = some true := by kernel_rfl
theorem tc113 : Tryz.prog.cellsOf 113 = 0 := by kernel_rfl
theorem tB113 : Tryz.prog.bytesOf 113 = 0 := by kernel_rfl
theorem ti113 : (Tryz.prog.info? 113).isSome = true := by kernel_rfl
theorem tf113_0 : tfield Tryz.prog 113 0 = some (0, 112) := by kernel_rfl
theorem ts114 : tsz Tryz.prog 114 = 0 := by kernel_rfl
theorem tb114 : tby Tryz.prog 114 = 0 := by kernel_rfl
theorem ta114 : tagg Tryz.prog 114 = some true := by kernel_rfl
theorem tc114 : Tryz.prog.cellsOf 114 = 0 := by kernel_rfl
theorem tB114 : Tryz.prog.bytesOf 114 = 0 := by kernel_rfl
theorem ti114 : (Tryz.prog.info? 114).isSome = true := by kernel_rfl
theorem tf114_0 : tfield Tryz.prog 114 0 = some (0, 112) := by kernel_rfl
theorem ts115 : tsz Tryz.prog 115 = 1 := by kernel_rfl
theorem tb115 : tby Tryz.prog 115 = 4 := by kernel_rfl
theorem ta115 : tagg Tryz.prog 115 = some false := by kernel_rfl
theorem tc115 : Tryz.prog.cellsOf 115 = 1 := by kernel_rfl
theorem tB115 : Tryz.prog.bytesOf 115 = 4 := by kernel_rfl
theorem ti115 : (Tryz.prog.info? 115).isSome = true := by kernel_rfl
theorem tz115 : tzero Tryz.prog 115 = some (.int .u32 0) := by kernel_rfl
theorem ts116 : tsz Tryz.prog 116 = 1 := by kernel_rfl
theorem tb116 : tby Tryz.prog 116 = 1 := by kernel_rfl
theorem ta116 : tagg Tryz.prog 116 = some false := by kernel_rfl
theorem tc116 : Tryz.prog.cellsOf 116 = 1 := by kernel_rfl
theorem tB116 : Tryz.prog.bytesOf 116 = 1 := by kernel_rfl
theorem ti116 : (Tryz.prog.info? 116).isSome = true := by kernel_rfl
theorem tz116 : tzero Tryz.prog 116 = some (.int .u8 0) := by kernel_rfl
theorem ts117 : tsz Tryz.prog 117 = 1 := by kernel_rfl
theorem tb117 : tby Tryz.prog 117 = 1 := by kernel_rfl
theorem ta117 : tagg Tryz.prog 117 = some false := by kernel_rfl
theorem tc117 : Tryz.prog.cellsOf 117 = 1 := by kernel_rfl
theorem tB117 : Tryz.prog.bytesOf 117 = 1 := by kernel_rfl
theorem ti117 : (Tryz.prog.info? 117).isSome = true := by kernel_rfl
theorem tz117 : tzero Tryz.prog 117 = some (.int .u8 0) := by kernel_rfl
theorem ts119 : tsz Tryz.prog 119 = 1 := by kernel_rfl
theorem tb119 : tby Tryz.prog 119 = 8 := by kernel_rfl
theorem ta119 : tagg Tryz.prog 119 = some false := by kernel_rfl
theorem tc119 : Tryz.prog.cellsOf 119 = 1 := by kernel_rfl
theorem tB119 : Tryz.prog.bytesOf 119 = 8 := by kernel_rfl
theorem ti119 : (Tryz.prog.info? 119).isSome = true := by kernel_rfl
theorem tz119 : tzero Tryz.prog 119 = some (.pointer none) := by kernel_rfl
theorem ts120 : tsz Tryz.prog 120 = 1 := by kernel_rfl
theorem tb120 : tby Tryz.prog 120 = 4 := by kernel_rfl
theorem ta120 : tagg Tryz.prog 120 = some false := by kernel_rfl
theorem tc120 : Tryz.prog.cellsOf 120 = 1 := by kernel_rfl
theorem tB120 : Tryz.prog.bytesOf 120 = 4 := by kernel_rfl
theorem ti120 : (Tryz.prog.info? 120).isSome = true := by kernel_rfl
theorem tz120 : tzero Tryz.prog 120 = some (.int .i32 0) := by kernel_rfl
theorem ts121 : tsz Tryz.prog 121 = 1 := by kernel_rfl
theorem tb121 : tby Tryz.prog 121 = 4 := by kernel_rfl
theorem ta121 : tagg Tryz.prog 121 = some false := by kernel_rfl
theorem tc121 : Tryz.prog.cellsOf 121 = 1 := by kernel_rfl
theorem tB121 : Tryz.prog.bytesOf 121 = 4 := by kernel_rfl
theorem ti121 : (Tryz.prog.info? 121).isSome = true := by kernel_rfl
theorem tz121 : tzero Tryz.prog 121 = some (.int .i32 0) := by kernel_rfl
theorem ts122 : tsz Tryz.prog 122 = 11 := by kernel_rfl
theorem tb122 : tby Tryz.prog 122 = 48 := by kernel_rfl
theorem ta122 : tagg Tryz.prog 122 = some true := by kernel_rfl
theorem tc122 : Tryz.prog.cellsOf 122 = 11 := by kernel_rfl
theorem tB122 : Tryz.prog.bytesOf 122 = 48 := by kernel_rfl
theorem ti122 : (Tryz.prog.info? 122).isSome = true := by kernel_rfl
theorem tf122_0 : tfield Tryz.prog 122 0 = some (0, 12) := by kernel_rfl
theorem tf122_1 : tfield Tryz.prog 122 1 = some (1, 12) := by kernel_rfl
theorem tf122_2 : tfield Tryz.prog 122 2 = some (2, 115) := by kernel_rfl
theorem tf122_3 : tfield Tryz.prog 122 3 = some (3, 116) := by kernel_rfl
theorem tf122_4 : tfield Tryz.prog 122 4 = some (4, 5) := by kernel_rfl
theorem tf122_5 : tfield Tryz.prog 122 5 = some (5, 5) := by kernel_rfl
theorem tf122_6 : tfield Tryz.prog 122 6 = some (6, 117) := by kernel_rfl
theorem tf122_7 : tfield Tryz.prog 122 7 = some (7, 118) := by kernel_rfl
theorem tf122_8 : tfield Tryz.prog 122 8 = some (8, 119) := by kernel_rfl
theorem tf122_9 : tfield Tryz.prog 122 9 = some (9, 120) := by kernel_rfl
theorem tf122_10 : tfield Tryz.prog 122 10 = some (10, 121) := by kernel_rfl
theorem ts123 : tsz Tryz.prog 123 = 11 := by kernel_rfl
theorem tb123 : tby Tryz.prog 123 = 48 := by kernel_rfl
theorem ta123 : tagg Tryz.prog 123 = some true := by kernel_rfl
theorem tc123 : Tryz.prog.cellsOf 123 = 11 := by kernel_rfl
theorem tB123 : Tryz.prog.bytesOf 123 = 48 := by kernel_rfl
theorem ti123 : (Tryz.prog.info? 123).isSome = true := by kernel_rfl
theorem tf123_0 : tfield Tryz.prog 123 0 = some (0, 12) := by kernel_rfl
theorem tf123_1 : tfield Tryz.prog 123 1 = some (1, 12) := by kernel_rfl
theorem tf123_2 : tfield Tryz.prog 123 2 = some (2, 115) := by kernel_rfl
theorem tf123_3 : tfield Tryz.prog 123 3 = some (3, 116) := by kernel_rfl
theorem tf123_4 : tfield Tryz.prog 123 4 = some (4, 5) := by kernel_rfl
theorem tf123_5 : tfield Tryz.prog 123 5 = some (5, 5) := by kernel_rfl
theorem tf123_6 : tfield Tryz.prog 123 6 = some (6, 117) := by kernel_rfl
theorem tf123_7 : tfield Tryz.prog 123 7 = some (7, 118) := by kernel_rfl
theorem tf123_8 : tfield Tryz.prog 123 8 = some (8, 119) := by kernel_rfl
theorem tf123_9 : tfield Tryz.prog 123 9 = some (9, 120) := by kernel_rfl
theorem tf123_10 : tfield Tryz.prog 123 10 = some (10, 121) := by kernel_rfl
attribute [simp] ts2 tb2 ta2 tc2 tB2 ti2 tz2 ts3 tb3 ta3 tc3 tB3 ti3 tz3 ts4 tb4 ta4 tc4 tB4 ti4 tz4 ts5 tb5 ta5 tc5 tB5 ti5 tz5 ts6 tb6 ta6 tc6 tB6 ti6 tz6 ts7 tb7 ta7 tc7 tB7 ti7 tf7_0 tf7_1 tf7_2 tf7_3 tz7 ts8 tb8 ta8 tc8 tB8 ti8 tf8_0 tf8_1 tf8_2 tf8_3 tz8 ts9 tb9 ta9 tc9 tB9 ti9 tz9 ts10 tb10 ta10 tc10 tB10 ti10 tz10 ts11 tb11 ta11 tc11 tB11 ti11 tz11 ts12 tb12 ta12 tc12 tB12 ti12 tz12 ts13 tb13 ta13 tc13 tB13 ti13 tf13_0 tf13_1 tz13 ts14 tb14 ta14 tc14 tB14 ti14 tf14_0 tf14_1 tz14 ts15 tb15 ta15 tc15 tB15 ti15 tz15 ts16 tb16 ta16 tc16 tB16 ti16 tz16 ts17 tb17 ta17 tc17 tB17 ti17 tz17 ts18 tb18 ta18 tc18 tB18 ti18 tf18_0 tz18 ts19 tb19 ta19 tc19 tB19 ti19 tf19_0 tz19 ts21 tb21 ta21 tc21 tB21 ti21 tz21 ts22 tb22 ta22 tc22 tB22 ti22 te22 tz22 ts23 tb23 ta23 tc23 tB23 ti23 te23 tz23 ts24 tb24 ta24 tc24 tB24 ti24 te24 tz24 ts25 tb25 ta25 tc25 tB25 ti25 tf25_0 tf25_1 tf25_2 tf25_3 tz25 ts26 tb26 ta26 tc26 tB26 ti26 tf26_0 tf26_1 tf26_2 tf26_3 tz26 ts27 tb27 ta27 tc27 tB27 ti27 te27 tz27 ts28 tb28 ta28 tc28 tB28 ti28 tf28_0 tf28_1 tf28_2 tf28_3 tz28 ts29 tb29 ta29 tc29 tB29 ti29 tf29_0 tf29_1 tf29_2 tf29_3 tz29 ts38 tb38 ta38 tc38 tB38 ti38 te38 tz38 ts48 tb48 ta48 tc48 tB48 ti48 tz48 ts49 tb49 ta49 tc49 tB49 ti49 tz49 ts50 tb50 ta50 tc50 tB50 ti50 tf50_0 tf50_1 tf50_2 tz50 ts51 tb51 ta51 tc51 tB51 ti51 tf51_0 tf51_1 tf51_2 tz51 ts57 tb57 ta57 tc57 tB57 ti57 tf57_0 tf57_1 tz57 ts58 tb58 ta58 tc58 tB58 ti58 tf58_0 tf58_1 tz58 ts62 tb62 ta62 tc62 tB62 ti62 tf62_0 tf62_1 tf62_2 tz62 ts63 tb63 ta63 tc63 tB63 ti63 tf63_0 tf63_1 tf63_2 tz63 ts67 tb67 ta67 tc67 tB67 ti67 te67 tz67 ts70 tb70 ta70 tc70 tB70 ti70 te70 tz70 ts74 tb74 ta74 tc74 tB74 ti74 te74 tz74 ts92 tb92 ta92 tc92 tB92 ti92 tz92 ts103 tb103 ta103 tc103 tB103 ti103 tz103 ts110 tb110 ta110 tc110 tB110 ti110 tf110_0 tf110_1 tf110_2 tf110_3 tz110 ts111 tb111 ta111 tc111 tB111 ti111 tf111_0 tf111_1 tf111_2 tf111_3 tz111 ts113 tb113 ta113 tc113 tB113 ti113 tf113_0 ts114 tb114 ta114 tc114 tB114 ti114 tf114_0 ts115 tb115 ta115 tc115 tB115 ti115 tz115 ts116 tb116 ta116 tc116 tB116 ti116 tz116 ts117 tb117 ta117 tc117 tB117 ti117 tz117 ts119 tb119 ta119 tc119 tB119 ti119 tz119 ts120 tb120 ta120 tc120 tB120 ti120 tz120 ts121 tb121 ta121 tc121 tB121 ti121 tz121 ts122 tb122 ta122 tc122 tB122 ti122 tf122_0 tf122_1 tf122_2 tf122_3 tf122_4 tf122_5 tf122_6 tf122_7 tf122_8 tf122_9 tf122_10 ts123 tb123 ta123 tc123 tB123 ti123 tf123_0 tf123_1 tf123_2 tf123_3 tf123_4 tf123_5 tf123_6 tf123_7 tf123_8 tf123_9 tf123_10
end Go.V
