/- Facts on the types of the seat's program, each by reckoning. No conditions. -/
import Derived.Test.YtondobhlgnojeaaVe
import Derived.Test.YtondobhlgnojeaaProg
set_option linter.all false
namespace Go.V
open Go.Proofs
set_option maxRecDepth 10000
theorem h0 : tsz Try.prog nilE = 0 := by kernel_rfl
theorem hm : Try.prog.follows .mixedOrders = true := by kernel_rfl
theorem ts2 : tsz Try.prog 2 = 1 := by kernel_rfl
theorem tb2 : tby Try.prog 2 = 8 := by kernel_rfl
theorem ta2 : tagg Try.prog 2 = some false := by kernel_rfl
theorem tc2 : Try.prog.cellsOf 2 = 1 := by kernel_rfl
theorem tB2 : Try.prog.bytesOf 2 = 8 := by kernel_rfl
theorem ti2 : (Try.prog.info? 2).isSome = true := by kernel_rfl
theorem tz2 : tzero Try.prog 2 = some (.int .i64 0) := by kernel_rfl
theorem ts3 : tsz Try.prog 3 = 1 := by kernel_rfl
theorem tb3 : tby Try.prog 3 = 8 := by kernel_rfl
theorem ta3 : tagg Try.prog 3 = some false := by kernel_rfl
theorem tc3 : Try.prog.cellsOf 3 = 1 := by kernel_rfl
theorem tB3 : Try.prog.bytesOf 3 = 8 := by kernel_rfl
theorem ti3 : (Try.prog.info? 3).isSome = true := by kernel_rfl
theorem tz3 : tzero Try.prog 3 = some (.int .i64 0) := by kernel_rfl
theorem ts4 : tsz Try.prog 4 = 1 := by kernel_rfl
theorem tb4 : tby Try.prog 4 = 1 := by kernel_rfl
theorem ta4 : tagg Try.prog 4 = some false := by kernel_rfl
theorem tc4 : Try.prog.cellsOf 4 = 1 := by kernel_rfl
theorem tB4 : Try.prog.bytesOf 4 = 1 := by kernel_rfl
theorem ti4 : (Try.prog.info? 4).isSome = true := by kernel_rfl
theorem tz4 : tzero Try.prog 4 = some (.bool false) := by kernel_rfl
theorem ts5 : tsz Try.prog 5 = 1 := by kernel_rfl
theorem tb5 : tby Try.prog 5 = 1 := by kernel_rfl
theorem ta5 : tagg Try.prog 5 = some false := by kernel_rfl
theorem tc5 : Try.prog.cellsOf 5 = 1 := by kernel_rfl
theorem tB5 : Try.prog.bytesOf 5 = 1 := by kernel_rfl
theorem ti5 : (Try.prog.info? 5).isSome = true := by kernel_rfl
theorem tz5 : tzero Try.prog 5 = some (.int .u8 0) := by kernel_rfl
theorem ts6 : tsz Try.prog 6 = 1 := by kernel_rfl
theorem tb6 : tby Try.prog 6 = 1 := by kernel_rfl
theorem ta6 : tagg Try.prog 6 = some false := by kernel_rfl
theorem tc6 : Try.prog.cellsOf 6 = 1 := by kernel_rfl
theorem tB6 : Try.prog.bytesOf 6 = 1 := by kernel_rfl
theorem ti6 : (Try.prog.info? 6).isSome = true := by kernel_rfl
theorem tz6 : tzero Try.prog 6 = some (.int .u8 0) := by kernel_rfl
theorem ts7 : tsz Try.prog 7 = 4 := by kernel_rfl
theorem tb7 : tby Try.prog 7 = 24 := by kernel_rfl
theorem ta7 : tagg Try.prog 7 = some true := by kernel_rfl
theorem tc7 : Try.prog.cellsOf 7 = 4 := by kernel_rfl
theorem tB7 : Try.prog.bytesOf 7 = 24 := by kernel_rfl
theorem ti7 : (Try.prog.info? 7).isSome = true := by kernel_rfl
theorem tf7_0 : tfield Try.prog 7 0 = some (0, 2) := by kernel_rfl
theorem tf7_1 : tfield Try.prog 7 1 = some (1, 3) := by kernel_rfl
theorem tf7_2 : tfield Try.prog 7 2 = some (2, 4) := by kernel_rfl
theorem tf7_3 : tfield Try.prog 7 3 = some (3, 6) := by kernel_rfl
theorem tz7 : tzero Try.prog 7 = some (.agg #[.int .i64 0, .int .i64 0, .bool false, .int .u8 0]) := by kernel_rfl
theorem ts8 : tsz Try.prog 8 = 4 := by kernel_rfl
theorem tb8 : tby Try.prog 8 = 24 := by kernel_rfl
theorem ta8 : tagg Try.prog 8 = some true := by kernel_rfl
theorem tc8 : Try.prog.cellsOf 8 = 4 := by kernel_rfl
theorem tB8 : Try.prog.bytesOf 8 = 24 := by kernel_rfl
theorem ti8 : (Try.prog.info? 8).isSome = true := by kernel_rfl
theorem tf8_0 : tfield Try.prog 8 0 = some (0, 2) := by kernel_rfl
theorem tf8_1 : tfield Try.prog 8 1 = some (1, 3) := by kernel_rfl
theorem tf8_2 : tfield Try.prog 8 2 = some (2, 4) := by kernel_rfl
theorem tf8_3 : tfield Try.prog 8 3 = some (3, 6) := by kernel_rfl
theorem tz8 : tzero Try.prog 8 = some (.agg #[.int .i64 0, .int .i64 0, .bool false, .int .u8 0]) := by kernel_rfl
theorem ts9 : tsz Try.prog 9 = 1 := by kernel_rfl
theorem tb9 : tby Try.prog 9 = 16 := by kernel_rfl
theorem ta9 : tagg Try.prog 9 = some false := by kernel_rfl
theorem tc9 : Try.prog.cellsOf 9 = 1 := by kernel_rfl
theorem tB9 : Try.prog.bytesOf 9 = 16 := by kernel_rfl
theorem ti9 : (Try.prog.info? 9).isSome = true := by kernel_rfl
theorem tz9 : tzero Try.prog 9 = some (.string ByteArray.empty) := by kernel_rfl
theorem ts10 : tsz Try.prog 10 = 1 := by kernel_rfl
theorem tb10 : tby Try.prog 10 = 16 := by kernel_rfl
theorem ta10 : tagg Try.prog 10 = some false := by kernel_rfl
theorem tc10 : Try.prog.cellsOf 10 = 1 := by kernel_rfl
theorem tB10 : Try.prog.bytesOf 10 = 16 := by kernel_rfl
theorem ti10 : (Try.prog.info? 10).isSome = true := by kernel_rfl
theorem tz10 : tzero Try.prog 10 = some (.string ByteArray.empty) := by kernel_rfl
theorem ts11 : tsz Try.prog 11 = 1 := by kernel_rfl
theorem tb11 : tby Try.prog 11 = 16 := by kernel_rfl
theorem ta11 : tagg Try.prog 11 = some false := by kernel_rfl
theorem tc11 : Try.prog.cellsOf 11 = 1 := by kernel_rfl
theorem tB11 : Try.prog.bytesOf 11 = 16 := by kernel_rfl
theorem ti11 : (Try.prog.info? 11).isSome = true := by kernel_rfl
theorem tz11 : tzero Try.prog 11 = some (.string ByteArray.empty) := by kernel_rfl
theorem ts12 : tsz Try.prog 12 = 1 := by kernel_rfl
theorem tb12 : tby Try.prog 12 = 8 := by kernel_rfl
theorem ta12 : tagg Try.prog 12 = some false := by kernel_rfl
theorem tc12 : Try.prog.cellsOf 12 = 1 := by kernel_rfl
theorem tB12 : Try.prog.bytesOf 12 = 8 := by kernel_rfl
theorem ti12 : (Try.prog.info? 12).isSome = true := by kernel_rfl
theorem tz12 : tzero Try.prog 12 = some (.int .u64 0) := by kernel_rfl
theorem ts13 : tsz Try.prog 13 = 2 := by kernel_rfl
theorem tb13 : tby Try.prog 13 = 24 := by kernel_rfl
theorem ta13 : tagg Try.prog 13 = some true := by kernel_rfl
theorem tc13 : Try.prog.cellsOf 13 = 2 := by kernel_rfl
theorem tB13 : Try.prog.bytesOf 13 = 24 := by kernel_rfl
theorem ti13 : (Try.prog.info? 13).isSome = true := by kernel_rfl
theorem tf13_0 : tfield Try.prog 13 0 = some (0, 9) := by kernel_rfl
theorem tf13_1 : tfield Try.prog 13 1 = some (1, 12) := by kernel_rfl
theorem tz13 : tzero Try.prog 13 = some (.agg #[.string ByteArray.empty, .int .u64 0]) := by kernel_rfl
theorem ts14 : tsz Try.prog 14 = 2 := by kernel_rfl
theorem tb14 : tby Try.prog 14 = 24 := by kernel_rfl
theorem ta14 : tagg Try.prog 14 = some true := by kernel_rfl
theorem tc14 : Try.prog.cellsOf 14 = 2 := by kernel_rfl
theorem tB14 : Try.prog.bytesOf 14 = 24 := by kernel_rfl
theorem ti14 : (Try.prog.info? 14).isSome = true := by kernel_rfl
theorem tf14_0 : tfield Try.prog 14 0 = some (0, 9) := by kernel_rfl
theorem tf14_1 : tfield Try.prog 14 1 = some (1, 12) := by kernel_rfl
theorem tz14 : tzero Try.prog 14 = some (.agg #[.string ByteArray.empty, .int .u64 0]) := by kernel_rfl
theorem ts15 : tsz Try.prog 15 = 1 := by kernel_rfl
theorem tb15 : tby Try.prog 15 = 8 := by kernel_rfl
theorem ta15 : tagg Try.prog 15 = some false := by kernel_rfl
theorem tc15 : Try.prog.cellsOf 15 = 1 := by kernel_rfl
theorem tB15 : Try.prog.bytesOf 15 = 8 := by kernel_rfl
theorem ti15 : (Try.prog.info? 15).isSome = true := by kernel_rfl
theorem tz15 : tzero Try.prog 15 = some (.pointer none) := by kernel_rfl
theorem ts16 : tsz Try.prog 16 = 1 := by kernel_rfl
theorem tb16 : tby Try.prog 16 = 8 := by kernel_rfl
theorem ta16 : tagg Try.prog 16 = some false := by kernel_rfl
theorem tc16 : Try.prog.cellsOf 16 = 1 := by kernel_rfl
theorem tB16 : Try.prog.bytesOf 16 = 8 := by kernel_rfl
theorem ti16 : (Try.prog.info? 16).isSome = true := by kernel_rfl
theorem tz16 : tzero Try.prog 16 = some (.pointer none) := by kernel_rfl
theorem ts17 : tsz Try.prog 17 = 1 := by kernel_rfl
theorem tb17 : tby Try.prog 17 = 8 := by kernel_rfl
theorem ta17 : tagg Try.prog 17 = some false := by kernel_rfl
theorem tc17 : Try.prog.cellsOf 17 = 1 := by kernel_rfl
theorem tB17 : Try.prog.bytesOf 17 = 8 := by kernel_rfl
theorem ti17 : (Try.prog.info? 17).isSome = true := by kernel_rfl
theorem tz17 : tzero Try.prog 17 = some (.pointer none) := by kernel_rfl
theorem ts18 : tsz Try.prog 18 = 1 := by kernel_rfl
theorem tb18 : tby Try.prog 18 = 8 := by kernel_rfl
theorem ta18 : tagg Try.prog 18 = some true := by kernel_rfl
theorem tc18 : Try.prog.cellsOf 18 = 1 := by kernel_rfl
theorem tB18 : Try.prog.bytesOf 18 = 8 := by kernel_rfl
theorem ti18 : (Try.prog.info? 18).isSome = true := by kernel_rfl
theorem tf18_0 : tfield Try.prog 18 0 = some (0, 17) := by kernel_rfl
theorem tz18 : tzero Try.prog 18 = some (.agg #[.pointer none]) := by kernel_rfl
theorem ts19 : tsz Try.prog 19 = 1 := by kernel_rfl
theorem tb19 : tby Try.prog 19 = 8 := by kernel_rfl
theorem ta19 : tagg Try.prog 19 = some true := by kernel_rfl
theorem tc19 : Try.prog.cellsOf 19 = 1 := by kernel_rfl
theorem tB19 : Try.prog.bytesOf 19 = 8 := by kernel_rfl
theorem ti19 : (Try.prog.info? 19).isSome = true := by kernel_rfl
theorem tf19_0 : tfield Try.prog 19 0 = some (0, 17) := by kernel_rfl
theorem tz19 : tzero Try.prog 19 = some (.agg #[.pointer none]) := by kernel_rfl
theorem ts21 : tsz Try.prog 21 = 1 := by kernel_rfl
theorem tb21 : tby Try.prog 21 = 4 := by kernel_rfl
theorem ta21 : tagg Try.prog 21 = some false := by kernel_rfl
theorem tc21 : Try.prog.cellsOf 21 = 1 := by kernel_rfl
theorem tB21 : Try.prog.bytesOf 21 = 4 := by kernel_rfl
theorem ti21 : (Try.prog.info? 21).isSome = true := by kernel_rfl
theorem tz21 : tzero Try.prog 21 = some (.int .i32 0) := by kernel_rfl
theorem ts22 : tsz Try.prog 22 = 1 := by kernel_rfl
theorem tb22 : tby Try.prog 22 = 24 := by kernel_rfl
theorem ta22 : tagg Try.prog 22 = some false := by kernel_rfl
theorem tc22 : Try.prog.cellsOf 22 = 1 := by kernel_rfl
theorem tB22 : Try.prog.bytesOf 22 = 24 := by kernel_rfl
theorem ti22 : (Try.prog.info? 22).isSome = true := by kernel_rfl
theorem te22 : telem Try.prog 22 = some 9 := by kernel_rfl
theorem tz22 : tzero Try.prog 22 = some (.slice none 0 0) := by kernel_rfl
theorem ts23 : tsz Try.prog 23 = 3 := by kernel_rfl
theorem tb23 : tby Try.prog 23 = 48 := by kernel_rfl
theorem ta23 : tagg Try.prog 23 = some true := by kernel_rfl
theorem tc23 : Try.prog.cellsOf 23 = 3 := by kernel_rfl
theorem tB23 : Try.prog.bytesOf 23 = 48 := by kernel_rfl
theorem ti23 : (Try.prog.info? 23).isSome = true := by kernel_rfl
theorem tf23_0 : tfield Try.prog 23 0 = some (0, 4) := by kernel_rfl
theorem tf23_1 : tfield Try.prog 23 1 = some (1, 22) := by kernel_rfl
theorem tf23_2 : tfield Try.prog 23 2 = some (2, 9) := by kernel_rfl
theorem tz23 : tzero Try.prog 23 = some (.agg #[.bool false, .slice none 0 0, .string ByteArray.empty]) := by kernel_rfl
theorem ts24 : tsz Try.prog 24 = 3 := by kernel_rfl
theorem tb24 : tby Try.prog 24 = 48 := by kernel_rfl
theorem ta24 : tagg Try.prog 24 = some true := by kernel_rfl
theorem tc24 : Try.prog.cellsOf 24 = 3 := by kernel_rfl
theorem tB24 : Try.prog.bytesOf 24 = 48 := by kernel_rfl
theorem ti24 : (Try.prog.info? 24).isSome = true := by kernel_rfl
theorem tf24_0 : tfield Try.prog 24 0 = some (0, 4) := by kernel_rfl
theorem tf24_1 : tfield Try.prog 24 1 = some (1, 22) := by kernel_rfl
theorem tf24_2 : tfield Try.prog 24 2 = some (2, 9) := by kernel_rfl
theorem tz24 : tzero Try.prog 24 = some (.agg #[.bool false, .slice none 0 0, .string ByteArray.empty]) := by kernel_rfl
theorem ts28 : tsz Try.prog 28 = 3 := by kernel_rfl
theorem tb28 : tby Try.prog 28 = 48 := by kernel_rfl
theorem ta28 : tagg Try.prog 28 = some true := by kernel_rfl
theorem tc28 : Try.prog.cellsOf 28 = 3 := by kernel_rfl
theorem tB28 : Try.prog.bytesOf 28 = 48 := by kernel_rfl
theorem ti28 : (Try.prog.info? 28).isSome = true := by kernel_rfl
theorem tf28_0 : tfield Try.prog 28 0 = some (0, 4) := by kernel_rfl
theorem tf28_1 : tfield Try.prog 28 1 = some (1, 22) := by kernel_rfl
theorem tf28_2 : tfield Try.prog 28 2 = some (2, 9) := by kernel_rfl
theorem tz28 : tzero Try.prog 28 = some (.agg #[.bool false, .slice none 0 0, .string ByteArray.empty]) := by kernel_rfl
theorem ts32 : tsz Try.prog 32 = 1 := by kernel_rfl
theorem tb32 : tby Try.prog 32 = 24 := by kernel_rfl
theorem ta32 : tagg Try.prog 32 = some false := by kernel_rfl
theorem tc32 : Try.prog.cellsOf 32 = 1 := by kernel_rfl
theorem tB32 : Try.prog.bytesOf 32 = 24 := by kernel_rfl
theorem ti32 : (Try.prog.info? 32).isSome = true := by kernel_rfl
theorem te32 : telem Try.prog 32 = some 75 := by kernel_rfl
theorem tz32 : tzero Try.prog 32 = some (.slice none 0 0) := by kernel_rfl
theorem ts35 : tsz Try.prog 35 = 1 := by kernel_rfl
theorem tb35 : tby Try.prog 35 = 24 := by kernel_rfl
theorem ta35 : tagg Try.prog 35 = some false := by kernel_rfl
theorem tc35 : Try.prog.cellsOf 35 = 1 := by kernel_rfl
theorem tB35 : Try.prog.bytesOf 35 = 24 := by kernel_rfl
theorem ti35 : (Try.prog.info? 35).isSome = true := by kernel_rfl
theorem te35 : telem Try.prog 35 = some 76 := by kernel_rfl
theorem tz35 : tzero Try.prog 35 = some (.slice none 0 0) := by kernel_rfl
theorem ts47 : tsz Try.prog 47 = 1 := by kernel_rfl
theorem tb47 : tby Try.prog 47 = 24 := by kernel_rfl
theorem ta47 : tagg Try.prog 47 = some false := by kernel_rfl
theorem tc47 : Try.prog.cellsOf 47 = 1 := by kernel_rfl
theorem tB47 : Try.prog.bytesOf 47 = 24 := by kernel_rfl
theorem ti47 : (Try.prog.info? 47).isSome = true := by kernel_rfl
theorem te47 : telem Try.prog 47 = some 28 := by kernel_rfl
theorem tz47 : tzero Try.prog 47 = some (.slice none 0 0) := by kernel_rfl
theorem ts59 : tsz Try.prog 59 = 1 := by kernel_rfl
theorem tb59 : tby Try.prog 59 = 24 := by kernel_rfl
theorem ta59 : tagg Try.prog 59 = some false := by kernel_rfl
theorem tc59 : Try.prog.cellsOf 59 = 1 := by kernel_rfl
theorem tB59 : Try.prog.bytesOf 59 = 24 := by kernel_rfl
theorem ti59 : (Try.prog.info? 59).isSome = true := by kernel_rfl
theorem te59 : telem Try.prog 59 = some 24 := by kernel_rfl
theorem tz59 : tzero Try.prog 59 = some (.slice none 0 0) := by kernel_rfl
theorem ts64 : tsz Try.prog 64 = 1 := by kernel_rfl
theorem tb64 : tby Try.prog 64 = 24 := by kernel_rfl
theorem ta64 : tagg Try.prog 64 = some false := by kernel_rfl
theorem tc64 : Try.prog.cellsOf 64 = 1 := by kernel_rfl
theorem tB64 : Try.prog.bytesOf 64 = 24 := by kernel_rfl
theorem ti64 : (Try.prog.info? 64).isSome = true := by kernel_rfl
theorem te64 : telem Try.prog 64 = some 5 := by kernel_rfl
theorem tz64 : tzero Try.prog 64 = some (.slice none 0 0) := by kernel_rfl
theorem ts74 : tsz Try.prog 74 = 2 := by kernel_rfl
theorem tb74 : tby Try.prog 74 = 40 := by kernel_rfl
theorem ta74 : tagg Try.prog 74 = some true := by kernel_rfl
theorem tc74 : Try.prog.cellsOf 74 = 2 := by kernel_rfl
theorem tB74 : Try.prog.bytesOf 74 = 40 := by kernel_rfl
theorem ti74 : (Try.prog.info? 74).isSome = true := by kernel_rfl
theorem tf74_0 : tfield Try.prog 74 0 = some (0, 22) := by kernel_rfl
theorem tf74_1 : tfield Try.prog 74 1 = some (1, 9) := by kernel_rfl
theorem tz74 : tzero Try.prog 74 = some (.agg #[.slice none 0 0, .string ByteArray.empty]) := by kernel_rfl
theorem ts75 : tsz Try.prog 75 = 2 := by kernel_rfl
theorem tb75 : tby Try.prog 75 = 40 := by kernel_rfl
theorem ta75 : tagg Try.prog 75 = some true := by kernel_rfl
theorem tc75 : Try.prog.cellsOf 75 = 2 := by kernel_rfl
theorem tB75 : Try.prog.bytesOf 75 = 40 := by kernel_rfl
theorem ti75 : (Try.prog.info? 75).isSome = true := by kernel_rfl
theorem tf75_0 : tfield Try.prog 75 0 = some (0, 22) := by kernel_rfl
theorem tf75_1 : tfield Try.prog 75 1 = some (1, 9) := by kernel_rfl
theorem tz75 : tzero Try.prog 75 = some (.agg #[.slice none 0 0, .string ByteArray.empty]) := by kernel_rfl
theorem ts76 : tsz Try.prog 76 = 2 := by kernel_rfl
theorem tb76 : tby Try.prog 76 = 40 := by kernel_rfl
theorem ta76 : tagg Try.prog 76 = some true := by kernel_rfl
theorem tc76 : Try.prog.cellsOf 76 = 2 := by kernel_rfl
theorem tB76 : Try.prog.bytesOf 76 = 40 := by kernel_rfl
theorem ti76 : (Try.prog.info? 76).isSome = true := by kernel_rfl
theorem tf76_0 : tfield Try.prog 76 0 = some (0, 22) := by kernel_rfl
theorem tf76_1 : tfield Try.prog 76 1 = some (1, 9) := by kernel_rfl
theorem tz76 : tzero Try.prog 76 = some (.agg #[.slice none 0 0, .string ByteArray.empty]) := by kernel_rfl
theorem ts87 : tsz Try.prog 87 = 1 := by kernel_rfl
theorem tb87 : tby Try.prog 87 = 8 := by kernel_rfl
theorem ta87 : tagg Try.prog 87 = some false := by kernel_rfl
theorem tc87 : Try.prog.cellsOf 87 = 1 := by kernel_rfl
theorem tB87 : Try.prog.bytesOf 87 = 8 := by kernel_rfl
theorem ti87 : (Try.prog.info? 87).isSome = true := by kernel_rfl
theorem tz87 : tzero Try.prog 87 = some (.pointer none) := by kernel_rfl
theorem ts88 : tsz Try.prog 88 = 2 := by kernel_rfl
theorem tb88 : tby Try.prog 88 = 32 := by kernel_rfl
theorem ta88 : tagg Try.prog 88 = some true := by kernel_rfl
theorem tc88 : Try.prog.cellsOf 88 = 2 := by kernel_rfl
theorem tB88 : Try.prog.bytesOf 88 = 32 := by kernel_rfl
theorem ti88 : (Try.prog.info? 88).isSome = true := by kernel_rfl
theorem tf88_0 : tfield Try.prog 88 0 = some (0, 87) := by kernel_rfl
theorem tf88_1 : tfield Try.prog 88 1 = some (1, 64) := by kernel_rfl
theorem tz88 : tzero Try.prog 88 = some (.agg #[.pointer none, .slice none 0 0]) := by kernel_rfl
theorem ts89 : tsz Try.prog 89 = 2 := by kernel_rfl
theorem tb89 : tby Try.prog 89 = 32 := by kernel_rfl
theorem ta89 : tagg Try.prog 89 = some true := by kernel_rfl
theorem tc89 : Try.prog.cellsOf 89 = 2 := by kernel_rfl
theorem tB89 : Try.prog.bytesOf 89 = 32 := by kernel_rfl
theorem ti89 : (Try.prog.info? 89).isSome = true := by kernel_rfl
theorem tf89_0 : tfield Try.prog 89 0 = some (0, 87) := by kernel_rfl
theorem tf89_1 : tfield Try.prog 89 1 = some (1, 64) := by kernel_rfl
theorem tz89 : tzero Try.prog 89 = some (.agg #[.pointer none, .slice none 0 0]) := by kernel_rfl
theorem ts94 : tsz Try.prog 94 = 1 := by kernel_rfl
theorem tb94 : tby Try.prog 94 = 8 := by kernel_rfl
theorem ta94 : tagg Try.prog 94 = some false := by kernel_rfl
theorem tc94 : Try.prog.cellsOf 94 = 1 := by kernel_rfl
theorem tB94 : Try.prog.bytesOf 94 = 8 := by kernel_rfl
theorem ti94 : (Try.prog.info? 94).isSome = true := by kernel_rfl
theorem tz94 : tzero Try.prog 94 = some (.pointer none) := by kernel_rfl
theorem ts95 : tsz Try.prog 95 = 3 := by kernel_rfl
theorem tb95 : tby Try.prog 95 = 48 := by kernel_rfl
theorem ta95 : tagg Try.prog 95 = some true := by kernel_rfl
theorem tc95 : Try.prog.cellsOf 95 = 3 := by kernel_rfl
theorem tB95 : Try.prog.bytesOf 95 = 48 := by kernel_rfl
theorem ti95 : (Try.prog.info? 95).isSome = true := by kernel_rfl
theorem tf95_0 : tfield Try.prog 95 0 = some (0, 9) := by kernel_rfl
theorem tf95_1 : tfield Try.prog 95 1 = some (1, 3) := by kernel_rfl
theorem tf95_2 : tfield Try.prog 95 2 = some (2, 35) := by kernel_rfl
theorem tz95 : tzero Try.prog 95 = some (.agg #[.string ByteArray.empty, .int .i64 0, .slice none 0 0]) := by kernel_rfl
theorem ts96 : tsz Try.prog 96 = 3 := by kernel_rfl
theorem tb96 : tby Try.prog 96 = 48 := by kernel_rfl
theorem ta96 : tagg Try.prog 96 = some true := by kernel_rfl
theorem tc96 : Try.prog.cellsOf 96 = 3 := by kernel_rfl
theorem tB96 : Try.prog.bytesOf 96 = 48 := by kernel_rfl
theorem ti96 : (Try.prog.info? 96).isSome = true := by kernel_rfl
theorem tf96_0 : tfield Try.prog 96 0 = some (0, 9) := by kernel_rfl
theorem tf96_1 : tfield Try.prog 96 1 = some (1, 3) := by kernel_rfl
theorem tf96_2 : tfield Try.prog 96 2 = some (2, 35) := by kernel_rfl
theorem tz96 : tzero Try.prog 96 = some (.agg #[.string ByteArray.empty, .int .i64 0, .slice none 0 0]) := by kernel_rfl
theorem ts97 : tsz Try.prog 97 = 1 := by kernel_rfl
theorem tb97 : tby Try.prog 97 = 8 := by kernel_rfl
theorem ta97 : tagg Try.prog 97 = some false := by kernel_rfl
theorem tc97 : Try.prog.cellsOf 97 = 1 := by kernel_rfl
theorem tB97 : Try.prog.bytesOf 97 = 8 := by kernel_rfl
theorem ti97 : (Try.prog.info? 97).isSome = true := by kernel_rfl
theorem tz97 : tzero Try.prog 97 = some (.pointer none) := by kernel_rfl
theorem ts98 : tsz Try.prog 98 = 4 := by kernel_rfl
theorem tb98 : tby Try.prog 98 = 72 := by kernel_rfl
theorem ta98 : tagg Try.prog 98 = some true := by kernel_rfl
theorem tc98 : Try.prog.cellsOf 98 = 4 := by kernel_rfl
theorem tB98 : Try.prog.bytesOf 98 = 72 := by kernel_rfl
theorem ti98 : (Try.prog.info? 98).isSome = true := by kernel_rfl
theorem tf98_0 : tfield Try.prog 98 0 = some (0, 9) := by kernel_rfl
theorem tf98_1 : tfield Try.prog 98 1 = some (1, 3) := by kernel_rfl
theorem tf98_2 : tfield Try.prog 98 2 = some (2, 22) := by kernel_rfl
theorem tf98_3 : tfield Try.prog 98 3 = some (3, 35) := by kernel_rfl
theorem tz98 : tzero Try.prog 98 = some (.agg #[.string ByteArray.empty, .int .i64 0, .slice none 0 0, .slice none 0 0]) := by kernel_rfl
theorem ts99 : tsz Try.prog 99 = 4 := by kernel_rfl
theorem tb99 : tby Try.prog 99 = 72 := by kernel_rfl
theorem ta99 : tagg Try.prog 99 = some true := by kernel_rfl
theorem tc99 : Try.prog.cellsOf 99 = 4 := by kernel_rfl
theorem tB99 : Try.prog.bytesOf 99 = 72 := by kernel_rfl
theorem ti99 : (Try.prog.info? 99).isSome = true := by kernel_rfl
theorem tf99_0 : tfield Try.prog 99 0 = some (0, 9) := by kernel_rfl
theorem tf99_1 : tfield Try.prog 99 1 = some (1, 3) := by kernel_rfl
theorem tf99_2 : tfield Try.prog 99 2 = some (2, 22) := by kernel_rfl
theorem tf99_3 : tfield Try.prog 99 3 = some (3, 35) := by kernel_rfl
theorem tz99 : tzero Try.prog 99 = some (.agg #[.string ByteArray.empty, .int .i64 0, .slice none 0 0, .slice none 0 0]) := by kernel_rfl
theorem ts103 : tsz Try.prog 103 = 1 := by kernel_rfl
theorem tb103 : tby Try.prog 103 = 8 := by kernel_rfl
theorem ta103 : tagg Try.prog 103 = some false := by kernel_rfl
theorem tc103 : Try.prog.cellsOf 103 = 1 := by kernel_rfl
theorem tB103 : Try.prog.bytesOf 103 = 8 := by kernel_rfl
theorem ti103 : (Try.prog.info? 103).isSome = true := by kernel_rfl
theorem tz103 : tzero Try.prog 103 = some (.pointer none) := by kernel_rfl
theorem ts104 : tsz Try.prog 104 = 1 := by kernel_rfl
theorem tb104 : tby Try.prog 104 = 8 := by kernel_rfl
theorem ta104 : tagg Try.prog 104 = some false := by kernel_rfl
theorem tc104 : Try.prog.cellsOf 104 = 1 := by kernel_rfl
theorem tB104 : Try.prog.bytesOf 104 = 8 := by kernel_rfl
theorem ti104 : (Try.prog.info? 104).isSome = true := by kernel_rfl
theorem tz104 : tzero Try.prog 104 = some (.int .u64 0) := by kernel_rfl
theorem ts105 : tsz Try.prog 105 = 3 := by kernel_rfl
theorem tb105 : tby Try.prog 105 = 40 := by kernel_rfl
theorem ta105 : tagg Try.prog 105 = some true := by kernel_rfl
theorem tc105 : Try.prog.cellsOf 105 = 3 := by kernel_rfl
theorem tB105 : Try.prog.bytesOf 105 = 40 := by kernel_rfl
theorem ti105 : (Try.prog.info? 105).isSome = true := by kernel_rfl
theorem tf105_0 : tfield Try.prog 105 0 = some (0, 64) := by kernel_rfl
theorem tf105_1 : tfield Try.prog 105 1 = some (1, 3) := by kernel_rfl
theorem tf105_2 : tfield Try.prog 105 2 = some (2, 104) := by kernel_rfl
theorem tz105 : tzero Try.prog 105 = some (.agg #[.slice none 0 0, .int .i64 0, .int .u64 0]) := by kernel_rfl
theorem ts106 : tsz Try.prog 106 = 3 := by kernel_rfl
theorem tb106 : tby Try.prog 106 = 40 := by kernel_rfl
theorem ta106 : tagg Try.prog 106 = some true := by kernel_rfl
theorem tc106 : Try.prog.cellsOf 106 = 3 := by kernel_rfl
theorem tB106 : Try.prog.bytesOf 106 = 40 := by kernel_rfl
theorem ti106 : (Try.prog.info? 106).isSome = true := by kernel_rfl
theorem tf106_0 : tfield Try.prog 106 0 = some (0, 64) := by kernel_rfl
theorem tf106_1 : tfield Try.prog 106 1 = some (1, 3) := by kernel_rfl
theorem tf106_2 : tfield Try.prog 106 2 = some (2, 104) := by kernel_rfl
theorem tz106 : tzero Try.prog 106 = some (.agg #[.slice none 0 0, .int .i64 0, .int .u64 0]) := by kernel_rfl
theorem ts125 : tsz Try.prog 125 = 1 := by kernel_rfl
theorem tb125 : tby Try.prog 125 = 8 := by kernel_rfl
theorem ta125 : tagg Try.prog 125 = some false := by kernel_rfl
theorem tc125 : Try.prog.cellsOf 125 = 1 := by kernel_rfl
theorem tB125 : Try.prog.bytesOf 125 = 8 := by kernel_rfl
theorem ti125 : (Try.prog.info? 125).isSome = true := by kernel_rfl
theorem tz125 : tzero Try.prog 125 = some (.pointer none) := by kernel_rfl
theorem ts133 : tsz Try.prog 133 = 1 := by kernel_rfl
theorem tb133 : tby Try.prog 133 = 8 := by kernel_rfl
theorem ta133 : tagg Try.prog 133 = some false := by kernel_rfl
theorem tc133 : Try.prog.cellsOf 133 = 1 := by kernel_rfl
theorem tB133 : Try.prog.bytesOf 133 = 8 := by kernel_rfl
theorem ti133 : (Try.prog.info? 133).isSome = true := by kernel_rfl
theorem tz133 : tzero Try.prog 133 = some (.int .u64 0) := by kernel_rfl
theorem ts143 : tsz Try.prog 143 = 1 := by kernel_rfl
theorem tb143 : tby Try.prog 143 = 4 := by kernel_rfl
theorem ta143 : tagg Try.prog 143 = some false := by kernel_rfl
theorem tc143 : Try.prog.cellsOf 143 = 1 := by kernel_rfl
theorem tB143 : Try.prog.bytesOf 143 = 4 := by kernel_rfl
theorem ti143 : (Try.prog.info? 143).isSome = true := by kernel_rfl
theorem tz143 : tzero Try.prog 143 = some (.int .u32 0) := by kernel_rfl
theorem ts149 : tsz Try.prog 149 = 4 := by kernel_rfl
theorem tb149 : tby Try.prog 149 = 40 := by kernel_rfl
theorem ta149 : tagg Try.prog 149 = some true := by kernel_rfl
theorem tc149 : Try.prog.cellsOf 149 = 4 := by kernel_rfl
theorem tB149 : Try.prog.bytesOf 149 = 40 := by kernel_rfl
theorem ti149 : (Try.prog.info? 149).isSome = true := by kernel_rfl
theorem tf149_0 : tfield Try.prog 149 0 = some (0, 17) := by kernel_rfl
theorem tf149_1 : tfield Try.prog 149 1 = some (1, 17) := by kernel_rfl
theorem tf149_2 : tfield Try.prog 149 2 = some (2, 17) := by kernel_rfl
theorem tf149_3 : tfield Try.prog 149 3 = some (3, 9) := by kernel_rfl
theorem tz149 : tzero Try.prog 149 = some (.agg #[.pointer none, .pointer none, .pointer none, .string ByteArray.empty]) := by kernel_rfl
theorem ts150 : tsz Try.prog 150 = 4 := by kernel_rfl
theorem tb150 : tby Try.prog 150 = 40 := by kernel_rfl
theorem ta150 : tagg Try.prog 150 = some true := by kernel_rfl
theorem tc150 : Try.prog.cellsOf 150 = 4 := by kernel_rfl
theorem tB150 : Try.prog.bytesOf 150 = 40 := by kernel_rfl
theorem ti150 : (Try.prog.info? 150).isSome = true := by kernel_rfl
theorem tf150_0 : tfield Try.prog 150 0 = some (0, 17) := by kernel_rfl
theorem tf150_1 : tfield Try.prog 150 1 = some (1, 17) := by kernel_rfl
theorem tf150_2 : tfield Try.prog 150 2 = some (2, 17) := by kernel_rfl
theorem tf150_3 : tfield Try.prog 150 3 = some (3, 9) := by kernel_rfl
theorem tz150 : tzero Try.prog 150 = some (.agg #[.pointer none, .pointer none, .pointer none, .string ByteArray.empty]) := by kernel_rfl
theorem ts152 : tsz Try.prog 152 = 0 := by kernel_rfl
theorem tb152 : tby Try.prog 152 = 0 := by kernel_rfl
theorem ta152 : tagg Try.prog 152 = some true := by kernel_rfl
theorem tc152 : Try.prog.cellsOf 152 = 0 := by kernel_rfl
theorem tB152 : Try.prog.bytesOf 152 = 0 := by kernel_rfl
theorem ti152 : (Try.prog.info? 152).isSome = true := by kernel_rfl
theorem tf152_0 : tfield Try.prog 152 0 = some (0, 151) := by kernel_rfl
theorem ts153 : tsz Try.prog 153 = 0 := by kernel_rfl
theorem tb153 : tby Try.prog 153 = 0 := by kernel_rfl
theorem ta153 : tagg Try.prog 153 = some true := by kernel_rfl
theorem tc153 : Try.prog.cellsOf 153 = 0 := by kernel_rfl
theorem tB153 : Try.prog.bytesOf 153 = 0 := by kernel_rfl
theorem ti153 : (Try.prog.info? 153).isSome = true := by kernel_rfl
theorem tf153_0 : tfield Try.prog 153 0 = some (0, 151) := by kernel_rfl
theorem ts154 : tsz Try.prog 154 = 1 := by kernel_rfl
theorem tb154 : tby Try.prog 154 = 1 := by kernel_rfl
theorem ta154 : tagg Try.prog 154 = some false := by kernel_rfl
theorem tc154 : Try.prog.cellsOf 154 = 1 := by kernel_rfl
theorem tB154 : Try.prog.bytesOf 154 = 1 := by kernel_rfl
theorem ti154 : (Try.prog.info? 154).isSome = true := by kernel_rfl
theorem tz154 : tzero Try.prog 154 = some (.int .u8 0) := by kernel_rfl
theorem ts155 : tsz Try.prog 155 = 1 := by kernel_rfl
theorem tb155 : tby Try.prog 155 = 1 := by kernel_rfl
theorem ta155 : tagg Try.prog 155 = some false := by kernel_rfl
theorem tc155 : Try.prog.cellsOf 155 = 1 := by kernel_rfl
theorem tB155 : Try.prog.bytesOf 155 = 1 := by kernel_rfl
theorem ti155 : (Try.prog.info? 155).isSome = true := by kernel_rfl
theorem tz155 : tzero Try.prog 155 = some (.int .u8 0) := by kernel_rfl
theorem ts157 : tsz Try.prog 157 = 1 := by kernel_rfl
theorem tb157 : tby Try.prog 157 = 4 := by kernel_rfl
theorem ta157 : tagg Try.prog 157 = some false := by kernel_rfl
theorem tc157 : Try.prog.cellsOf 157 = 1 := by kernel_rfl
theorem tB157 : Try.prog.bytesOf 157 = 4 := by kernel_rfl
theorem ti157 : (Try.prog.info? 157).isSome = true := by kernel_rfl
theorem tz157 : tzero Try.prog 157 = some (.int .i32 0) := by kernel_rfl
theorem ts158 : tsz Try.prog 158 = 1 := by kernel_rfl
theorem tb158 : tby Try.prog 158 = 4 := by kernel_rfl
theorem ta158 : tagg Try.prog 158 = some false := by kernel_rfl
theorem tc158 : Try.prog.cellsOf 158 = 1 := by kernel_rfl
theorem tB158 : Try.prog.bytesOf 158 = 4 := by kernel_rfl
theorem ti158 : (Try.prog.info? 158).isSome = true := by kernel_rfl
theorem tz158 : tzero Try.prog 158 = some (.int .i32 0) := by kernel_rfl
theorem ts159 : tsz Try.prog 159 = 11 := by kernel_rfl
theorem tb159 : tby Try.prog 159 = 48 := by kernel_rfl
theorem ta159 : tagg Try.prog 159 = some true := by kernel_rfl
theorem tc159 : Try.prog.cellsOf 159 = 11 := by kernel_rfl
theorem tB159 : Try.prog.bytesOf 159 = 48 := by kernel_rfl
theorem ti159 : (Try.prog.info? 159).isSome = true := by kernel_rfl
theorem tf159_0 : tfield Try.prog 159 0 = some (0, 12) := by kernel_rfl
theorem tf159_1 : tfield Try.prog 159 1 = some (1, 12) := by kernel_rfl
theorem tf159_2 : tfield Try.prog 159 2 = some (2, 143) := by kernel_rfl
theorem tf159_3 : tfield Try.prog 159 3 = some (3, 154) := by kernel_rfl
theorem tf159_4 : tfield Try.prog 159 4 = some (4, 5) := by kernel_rfl
theorem tf159_5 : tfield Try.prog 159 5 = some (5, 5) := by kernel_rfl
theorem tf159_6 : tfield Try.prog 159 6 = some (6, 155) := by kernel_rfl
theorem tf159_7 : tfield Try.prog 159 7 = some (7, 156) := by kernel_rfl
theorem tf159_8 : tfield Try.prog 159 8 = some (8, 125) := by kernel_rfl
theorem tf159_9 : tfield Try.prog 159 9 = some (9, 157) := by kernel_rfl
theorem tf159_10 : tfield Try.prog 159 10 = some (10, 158) := by kernel_rfl
theorem ts160 : tsz Try.prog 160 = 11 := by kernel_rfl
theorem tb160 : tby Try.prog 160 = 48 := by kernel_rfl
theorem ta160 : tagg Try.prog 160 = some true := by kernel_rfl
theorem tc160 : Try.prog.cellsOf 160 = 11 := by kernel_rfl
theorem tB160 : Try.prog.bytesOf 160 = 48 := by kernel_rfl
theorem ti160 : (Try.prog.info? 160).isSome = true := by kernel_rfl
theorem tf160_0 : tfield Try.prog 160 0 = some (0, 12) := by kernel_rfl
theorem tf160_1 : tfield Try.prog 160 1 = some (1, 12) := by kernel_rfl
theorem tf160_2 : tfield Try.prog 160 2 = some (2, 143) := by kernel_rfl
theorem tf160_3 : tfield Try.prog 160 3 = some (3, 154) := by kernel_rfl
theorem tf160_4 : tfield Try.prog 160 4 = some (4, 5) := by kernel_rfl
theorem tf160_5 : tfield Try.prog 160 5 = some (5, 5) := by kernel_rfl
theorem tf160_6 : tfield Try.prog 160 6 = some (6, 155) := by kernel_rfl
theorem tf160_7 : tfield Try.prog 160 7 = some (7, 156) := by kernel_rfl
theorem tf160_8 : tfield Try.prog 160 8 = some (8, 125) := by kernel_rfl
theorem tf160_9 : tfield Try.prog 160 9 = some (9, 157) := by kernel_rfl
theorem tf160_10 : tfield Try.prog 160 10 = some (10, 158) := by kernel_rfl
attribute [simp] ts2 tb2 ta2 tc2 tB2 ti2 tz2 ts3 tb3 ta3 tc3 tB3 ti3 tz3 ts4 tb4 ta4 tc4 tB4 ti4 tz4 ts5 tb5 ta5 tc5 tB5 ti5 tz5 ts6 tb6 ta6 tc6 tB6 ti6 tz6 ts7 tb7 ta7 tc7 tB7 ti7 tf7_0 tf7_1 tf7_2 tf7_3 tz7 ts8 tb8 ta8 tc8 tB8 ti8 tf8_0 tf8_1 tf8_2 tf8_3 tz8 ts9 tb9 ta9 tc9 tB9 ti9 tz9 ts10 tb10 ta10 tc10 tB10 ti10 tz10 ts11 tb11 ta11 tc11 tB11 ti11 tz11 ts12 tb12 ta12 tc12 tB12 ti12 tz12 ts13 tb13 ta13 tc13 tB13 ti13 tf13_0 tf13_1 tz13 ts14 tb14 ta14 tc14 tB14 ti14 tf14_0 tf14_1 tz14 ts15 tb15 ta15 tc15 tB15 ti15 tz15 ts16 tb16 ta16 tc16 tB16 ti16 tz16 ts17 tb17 ta17 tc17 tB17 ti17 tz17 ts18 tb18 ta18 tc18 tB18 ti18 tf18_0 tz18 ts19 tb19 ta19 tc19 tB19 ti19 tf19_0 tz19 ts21 tb21 ta21 tc21 tB21 ti21 tz21 ts22 tb22 ta22 tc22 tB22 ti22 te22 tz22 ts23 tb23 ta23 tc23 tB23 ti23 tf23_0 tf23_1 tf23_2 tz23 ts24 tb24 ta24 tc24 tB24 ti24 tf24_0 tf24_1 tf24_2 tz24 ts28 tb28 ta28 tc28 tB28 ti28 tf28_0 tf28_1 tf28_2 tz28 ts32 tb32 ta32 tc32 tB32 ti32 te32 tz32 ts35 tb35 ta35 tc35 tB35 ti35 te35 tz35 ts47 tb47 ta47 tc47 tB47 ti47 te47 tz47 ts59 tb59 ta59 tc59 tB59 ti59 te59 tz59 ts64 tb64 ta64 tc64 tB64 ti64 te64 tz64 ts74 tb74 ta74 tc74 tB74 ti74 tf74_0 tf74_1 tz74 ts75 tb75 ta75 tc75 tB75 ti75 tf75_0 tf75_1 tz75 ts76 tb76 ta76 tc76 tB76 ti76 tf76_0 tf76_1 tz76 ts87 tb87 ta87 tc87 tB87 ti87 tz87 ts88 tb88 ta88 tc88 tB88 ti88 tf88_0 tf88_1 tz88 ts89 tb89 ta89 tc89 tB89 ti89 tf89_0 tf89_1 tz89 ts94 tb94 ta94 tc94 tB94 ti94 tz94 ts95 tb95 ta95 tc95 tB95 ti95 tf95_0 tf95_1 tf95_2 tz95 ts96 tb96 ta96 tc96 tB96 ti96 tf96_0 tf96_1 tf96_2 tz96 ts97 tb97 ta97 tc97 tB97 ti97 tz97 ts98 tb98 ta98 tc98 tB98 ti98 tf98_0 tf98_1 tf98_2 tf98_3 tz98 ts99 tb99 ta99 tc99 tB99 ti99 tf99_0 tf99_1 tf99_2 tf99_3 tz99 ts103 tb103 ta103 tc103 tB103 ti103 tz103 ts104 tb104 ta104 tc104 tB104 ti104 tz104 ts105 tb105 ta105 tc105 tB105 ti105 tf105_0 tf105_1 tf105_2 tz105 ts106 tb106 ta106 tc106 tB106 ti106 tf106_0 tf106_1 tf106_2 tz106 ts125 tb125 ta125 tc125 tB125 ti125 tz125 ts133 tb133 ta133 tc133 tB133 ti133 tz133 ts143 tb143 ta143 tc143 tB143 ti143 tz143 ts149 tb149 ta149 tc149 tB149 ti149 tf149_0 tf149_1 tf149_2 tf149_3 tz149 ts150 tb150 ta150 tc150 tB150 ti150 tf150_0 tf150_1 tf150_2 tf150_3 tz150 ts152 tb152 ta152 tc152 tB152 ti152 tf152_0 ts153 tb153 ta153 tc153 tB153 ti153 tf153_0 ts154 tb154 ta154 tc154 tB154 ti154 tz154 ts155 tb155 ta155 tc155 tB155 ti155 tz155 ts157 tb157 ta157 tc157 tB157 ti157 tz157 ts158 tb158 ta158 tc158 tB158 ti158 tz158 ts159 tb159 ta159 tc159 tB159 ti159 tf159_0 tf159_1 tf159_2 tf159_3 tf159_4 tf159_5 tf159_6 tf159_7 tf159_8 tf159_9 tf159_10 ts160 tb160 ta160 tc160 tB160 ti160 tf160_0 tf160_1 tf160_2 tf160_3 tf160_4 tf160_5 tf160_6 tf160_7 tf160_8 tf160_9 tf160_10
end Go.V
