/- Facts on the types of the seat's program, each by reckoning. No conditions. -/
import Derived.Test.YtildjkidohpmbaaVg
import Derived.Test.YtildjkidohpmbaaProg
set_option linter.all false
namespace Go.V
open Go.Proofs
set_option maxRecDepth 10000
theorem h0 : tsz Try.prog nilE = 0 := by kernel_rfl
theorem hm : Try.prog.follows .mixedOrders = true := by kernel_rfl
theorem ts2 : tsz Try.prog 2 = 1 := by kernel_rfl
theorem tb2 : tby Try.prog 2 = 8 := by kernel_rfl
theorem ta2 : tagg Try.prog 2 = some false := by kernel_rfl
theorem tc2 : Try.prog.cellsOf 2 = 1 := by kernel_rfl
theorem tB2 : Try.prog.bytesOf 2 = 8 := by kernel_rfl
theorem ti2 : (Try.prog.info? 2).isSome = true := by kernel_rfl
theorem tz2 : tzero Try.prog 2 = some (.int .i64 0) := by kernel_rfl
theorem ts3 : tsz Try.prog 3 = 1 := by kernel_rfl
theorem tb3 : tby Try.prog 3 = 8 := by kernel_rfl
theorem ta3 : tagg Try.prog 3 = some false := by kernel_rfl
theorem tc3 : Try.prog.cellsOf 3 = 1 := by kernel_rfl
theorem tB3 : Try.prog.bytesOf 3 = 8 := by kernel_rfl
theorem ti3 : (Try.prog.info? 3).isSome = true := by kernel_rfl
theorem tz3 : tzero Try.prog 3 = some (.int .i64 0) := by kernel_rfl
theorem ts4 : tsz Try.prog 4 = 1 := by kernel_rfl
theorem tb4 : tby Try.prog 4 = 1 := by kernel_rfl
theorem ta4 : tagg Try.prog 4 = some false := by kernel_rfl
theorem tc4 : Try.prog.cellsOf 4 = 1 := by kernel_rfl
theorem tB4 : Try.prog.bytesOf 4 = 1 := by kernel_rfl
theorem ti4 : (Try.prog.info? 4).isSome = true := by kernel_rfl
theorem tz4 : tzero Try.prog 4 = some (.bool false) := by kernel_rfl
theorem ts5 : tsz Try.prog 5 = 1 := by kernel_rfl
theorem tb5 : tby Try.prog 5 = 1 := by kernel_rfl
theorem ta5 : tagg Try.prog 5 = some false := by kernel_rfl
theorem tc5 : Try.prog.cellsOf 5 = 1 := by kernel_rfl
theorem tB5 : Try.prog.bytesOf 5 = 1 := by kernel_rfl
theorem ti5 : (Try.prog.info? 5).isSome = true := by kernel_rfl
theorem tz5 : tzero Try.prog 5 = some (.int .u8 0) := by kernel_rfl
theorem ts6 : tsz Try.prog 6 = 1 := by kernel_rfl
theorem tb6 : tby Try.prog 6 = 1 := by kernel_rfl
theorem ta6 : tagg Try.prog 6 = some false := by kernel_rfl
theorem tc6 : Try.prog.cellsOf 6 = 1 := by kernel_rfl
theorem tB6 : Try.prog.bytesOf 6 = 1 := by kernel_rfl
theorem ti6 : (Try.prog.info? 6).isSome = true := by kernel_rfl
theorem tz6 : tzero Try.prog 6 = some (.int .u8 0) := by kernel_rfl
theorem ts7 : tsz Try.prog 7 = 4 := by kernel_rfl
theorem tb7 : tby Try.prog 7 = 24 := by kernel_rfl
theorem ta7 : tagg Try.prog 7 = some true := by kernel_rfl
theorem tc7 : Try.prog.cellsOf 7 = 4 := by kernel_rfl
theorem tB7 : Try.prog.bytesOf 7 = 24 := by kernel_rfl
theorem ti7 : (Try.prog.info? 7).isSome = true := by kernel_rfl
theorem tf7_0 : tfield Try.prog 7 0 = some (0, 2) := by kernel_rfl
theorem tf7_1 : tfield Try.prog 7 1 = some (1, 3) := by kernel_rfl
theorem tf7_2 : tfield Try.prog 7 2 = some (2, 4) := by kernel_rfl
theorem tf7_3 : tfield Try.prog 7 3 = some (3, 6) := by kernel_rfl
theorem tz7 : tzero Try.prog 7 = some (.agg #[.int .i64 0, .int .i64 0, .bool false, .int .u8 0]) := by kernel_rfl
theorem ts8 : tsz Try.prog 8 = 4 := by kernel_rfl
theorem tb8 : tby Try.prog 8 = 24 := by kernel_rfl
theorem ta8 : tagg Try.prog 8 = some true := by kernel_rfl
theorem tc8 : Try.prog.cellsOf 8 = 4 := by kernel_rfl
theorem tB8 : Try.prog.bytesOf 8 = 24 := by kernel_rfl
theorem ti8 : (Try.prog.info? 8).isSome = true := by kernel_rfl
theorem tf8_0 : tfield Try.prog 8 0 = some (0, 2) := by kernel_rfl
theorem tf8_1 : tfield Try.prog 8 1 = some (1, 3) := by kernel_rfl
theorem tf8_2 : tfield Try.prog 8 2 = some (2, 4) := by kernel_rfl
theorem tf8_3 : tfield Try.prog 8 3 = some (3, 6) := by kernel_rfl
theorem tz8 : tzero Try.prog 8 = some (.agg #[.int .i64 0, .int .i64 0, .bool false, .int .u8 0]) := by kernel_rfl
theorem ts9 : tsz Try.prog 9 = 1 := by kernel_rfl
theorem tb9 : tby Try.prog 9 = 16 := by kernel_rfl
theorem ta9 : tagg Try.prog 9 = some false := by kernel_rfl
theorem tc9 : Try.prog.cellsOf 9 = 1 := by kernel_rfl
theorem tB9 : Try.prog.bytesOf 9 = 16 := by kernel_rfl
theorem ti9 : (Try.prog.info? 9).isSome = true := by kernel_rfl
theorem tz9 : tzero Try.prog 9 = some (.string ByteArray.empty) := by kernel_rfl
theorem ts10 : tsz Try.prog 10 = 1 := by kernel_rfl
theorem tb10 : tby Try.prog 10 = 16 := by kernel_rfl
theorem ta10 : tagg Try.prog 10 = some false := by kernel_rfl
theorem tc10 : Try.prog.cellsOf 10 = 1 := by kernel_rfl
theorem tB10 : Try.prog.bytesOf 10 = 16 := by kernel_rfl
theorem ti10 : (Try.prog.info? 10).isSome = true := by kernel_rfl
theorem tz10 : tzero Try.prog 10 = some (.string ByteArray.empty) := by kernel_rfl
theorem ts11 : tsz Try.prog 11 = 1 := by kernel_rfl
theorem tb11 : tby Try.prog 11 = 16 := by kernel_rfl
theorem ta11 : tagg Try.prog 11 = some false := by kernel_rfl
theorem tc11 : Try.prog.cellsOf 11 = 1 := by kernel_rfl
theorem tB11 : Try.prog.bytesOf 11 = 16 := by kernel_rfl
theorem ti11 : (Try.prog.info? 11).isSome = true := by kernel_rfl
theorem tz11 : tzero Try.prog 11 = some (.string ByteArray.empty) := by kernel_rfl
theorem ts12 : tsz Try.prog 12 = 1 := by kernel_rfl
theorem tb12 : tby Try.prog 12 = 8 := by kernel_rfl
theorem ta12 : tagg Try.prog 12 = some false := by kernel_rfl
theorem tc12 : Try.prog.cellsOf 12 = 1 := by kernel_rfl
theorem tB12 : Try.prog.bytesOf 12 = 8 := by kernel_rfl
theorem ti12 : (Try.prog.info? 12).isSome = true := by kernel_rfl
theorem tz12 : tzero Try.prog 12 = some (.int .u64 0) := by kernel_rfl
theorem ts13 : tsz Try.prog 13 = 2 := by kernel_rfl
theorem tb13 : tby Try.prog 13 = 24 := by kernel_rfl
theorem ta13 : tagg Try.prog 13 = some true := by kernel_rfl
theorem tc13 : Try.prog.cellsOf 13 = 2 := by kernel_rfl
theorem tB13 : Try.prog.bytesOf 13 = 24 := by kernel_rfl
theorem ti13 : (Try.prog.info? 13).isSome = true := by kernel_rfl
theorem tf13_0 : tfield Try.prog 13 0 = some (0, 9) := by kernel_rfl
theorem tf13_1 : tfield Try.prog 13 1 = some (1, 12) := by kernel_rfl
theorem tz13 : tzero Try.prog 13 = some (.agg #[.string ByteArray.empty, .int .u64 0]) := by kernel_rfl
theorem ts14 : tsz Try.prog 14 = 2 := by kernel_rfl
theorem tb14 : tby Try.prog 14 = 24 := by kernel_rfl
theorem ta14 : tagg Try.prog 14 = some true := by kernel_rfl
theorem tc14 : Try.prog.cellsOf 14 = 2 := by kernel_rfl
theorem tB14 : Try.prog.bytesOf 14 = 24 := by kernel_rfl
theorem ti14 : (Try.prog.info? 14).isSome = true := by kernel_rfl
theorem tf14_0 : tfield Try.prog 14 0 = some (0, 9) := by kernel_rfl
theorem tf14_1 : tfield Try.prog 14 1 = some (1, 12) := by kernel_rfl
theorem tz14 : tzero Try.prog 14 = some (.agg #[.string ByteArray.empty, .int .u64 0]) := by kernel_rfl
theorem ts15 : tsz Try.prog 15 = 1 := by kernel_rfl
theorem tb15 : tby Try.prog 15 = 8 := by kernel_rfl
theorem ta15 : tagg Try.prog 15 = some false := by kernel_rfl
theorem tc15 : Try.prog.cellsOf 15 = 1 := by kernel_rfl
theorem tB15 : Try.prog.bytesOf 15 = 8 := by kernel_rfl
theorem ti15 : (Try.prog.info? 15).isSome = true := by kernel_rfl
theorem tz15 : tzero Try.prog 15 = some (.pointer none) := by kernel_rfl
theorem ts16 : tsz Try.prog 16 = 1 := by kernel_rfl
theorem tb16 : tby Try.prog 16 = 8 := by kernel_rfl
theorem ta16 : tagg Try.prog 16 = some false := by kernel_rfl
theorem tc16 : Try.prog.cellsOf 16 = 1 := by kernel_rfl
theorem tB16 : Try.prog.bytesOf 16 = 8 := by kernel_rfl
theorem ti16 : (Try.prog.info? 16).isSome = true := by kernel_rfl
theorem tz16 : tzero Try.prog 16 = some (.pointer none) := by kernel_rfl
theorem ts17 : tsz Try.prog 17 = 1 := by kernel_rfl
theorem tb17 : tby Try.prog 17 = 8 := by kernel_rfl
theorem ta17 : tagg Try.prog 17 = some false := by kernel_rfl
theorem tc17 : Try.prog.cellsOf 17 = 1 := by kernel_rfl
theorem tB17 : Try.prog.bytesOf 17 = 8 := by kernel_rfl
theorem ti17 : (Try.prog.info? 17).isSome = true := by kernel_rfl
theorem tz17 : tzero Try.prog 17 = some (.pointer none) := by kernel_rfl
theorem ts18 : tsz Try.prog 18 = 1 := by kernel_rfl
theorem tb18 : tby Try.prog 18 = 8 := by kernel_rfl
theorem ta18 : tagg Try.prog 18 = some true := by kernel_rfl
theorem tc18 : Try.prog.cellsOf 18 = 1 := by kernel_rfl
theorem tB18 : Try.prog.bytesOf 18 = 8 := by kernel_rfl
theorem ti18 : (Try.prog.info? 18).isSome = true := by kernel_rfl
theorem tf18_0 : tfield Try.prog 18 0 = some (0, 17) := by kernel_rfl
theorem tz18 : tzero Try.prog 18 = some (.agg #[.pointer none]) := by kernel_rfl
theorem ts19 : tsz Try.prog 19 = 1 := by kernel_rfl
theorem tb19 : tby Try.prog 19 = 8 := by kernel_rfl
theorem ta19 : tagg Try.prog 19 = some true := by kernel_rfl
theorem tc19 : Try.prog.cellsOf 19 = 1 := by kernel_rfl
theorem tB19 : Try.prog.bytesOf 19 = 8 := by kernel_rfl
theorem ti19 : (Try.prog.info? 19).isSome = true := by kernel_rfl
theorem tf19_0 : tfield Try.prog 19 0 = some (0, 17) := by kernel_rfl
theorem tz19 : tzero Try.prog 19 = some (.agg #[.pointer none]) := by kernel_rfl
theorem ts21 : tsz Try.prog 21 = 1 := by kernel_rfl
theorem tb21 : tby Try.prog 21 = 4 := by kernel_rfl
theorem ta21 : tagg Try.prog 21 = some false := by kernel_rfl
theorem tc21 : Try.prog.cellsOf 21 = 1 := by kernel_rfl
theorem tB21 : Try.prog.bytesOf 21 = 4 := by kernel_rfl
theorem ti21 : (Try.prog.info? 21).isSome = true := by kernel_rfl
theorem tz21 : tzero Try.prog 21 = some (.int .i32 0) := by kernel_rfl
theorem ts22 : tsz Try.prog 22 = 1 := by kernel_rfl
theorem tb22 : tby Try.prog 22 = 24 := by kernel_rfl
theorem ta22 : tagg Try.prog 22 = some false := by kernel_rfl
theorem tc22 : Try.prog.cellsOf 22 = 1 := by kernel_rfl
theorem tB22 : Try.prog.bytesOf 22 = 24 := by kernel_rfl
theorem ti22 : (Try.prog.info? 22).isSome = true := by kernel_rfl
theorem te22 : telem Try.prog 22 = some 5 := by kernel_rfl
theorem tz22 : tzero Try.prog 22 = some (.slice none 0 0) := by kernel_rfl
theorem ts23 : tsz Try.prog 23 = 1 := by kernel_rfl
theorem tb23 : tby Try.prog 23 = 24 := by kernel_rfl
theorem ta23 : tagg Try.prog 23 = some false := by kernel_rfl
theorem tc23 : Try.prog.cellsOf 23 = 1 := by kernel_rfl
theorem tB23 : Try.prog.bytesOf 23 = 24 := by kernel_rfl
theorem ti23 : (Try.prog.info? 23).isSome = true := by kernel_rfl
theorem te23 : telem Try.prog 23 = some 9 := by kernel_rfl
theorem tz23 : tzero Try.prog 23 = some (.slice none 0 0) := by kernel_rfl
theorem ts24 : tsz Try.prog 24 = 1 := by kernel_rfl
theorem tb24 : tby Try.prog 24 = 24 := by kernel_rfl
theorem ta24 : tagg Try.prog 24 = some false := by kernel_rfl
theorem tc24 : Try.prog.cellsOf 24 = 1 := by kernel_rfl
theorem tB24 : Try.prog.bytesOf 24 = 24 := by kernel_rfl
theorem ti24 : (Try.prog.info? 24).isSome = true := by kernel_rfl
theorem te24 : telem Try.prog 24 = some 4 := by kernel_rfl
theorem tz24 : tzero Try.prog 24 = some (.slice none 0 0) := by kernel_rfl
theorem ts27 : tsz Try.prog 27 = 1 := by kernel_rfl
theorem tb27 : tby Try.prog 27 = 24 := by kernel_rfl
theorem ta27 : tagg Try.prog 27 = some false := by kernel_rfl
theorem tc27 : Try.prog.cellsOf 27 = 1 := by kernel_rfl
theorem tB27 : Try.prog.bytesOf 27 = 24 := by kernel_rfl
theorem ti27 : (Try.prog.info? 27).isSome = true := by kernel_rfl
theorem te27 : telem Try.prog 27 = some 43 := by kernel_rfl
theorem tz27 : tzero Try.prog 27 = some (.slice none 0 0) := by kernel_rfl
theorem ts28 : tsz Try.prog 28 = 2 := by kernel_rfl
theorem tb28 : tby Try.prog 28 = 48 := by kernel_rfl
theorem ta28 : tagg Try.prog 28 = some true := by kernel_rfl
theorem tc28 : Try.prog.cellsOf 28 = 2 := by kernel_rfl
theorem tB28 : Try.prog.bytesOf 28 = 48 := by kernel_rfl
theorem ti28 : (Try.prog.info? 28).isSome = true := by kernel_rfl
theorem tf28_0 : tfield Try.prog 28 0 = some (0, 23) := by kernel_rfl
theorem tf28_1 : tfield Try.prog 28 1 = some (1, 27) := by kernel_rfl
theorem tz28 : tzero Try.prog 28 = some (.agg #[.slice none 0 0, .slice none 0 0]) := by kernel_rfl
theorem ts29 : tsz Try.prog 29 = 2 := by kernel_rfl
theorem tb29 : tby Try.prog 29 = 48 := by kernel_rfl
theorem ta29 : tagg Try.prog 29 = some true := by kernel_rfl
theorem tc29 : Try.prog.cellsOf 29 = 2 := by kernel_rfl
theorem tB29 : Try.prog.bytesOf 29 = 48 := by kernel_rfl
theorem ti29 : (Try.prog.info? 29).isSome = true := by kernel_rfl
theorem tf29_0 : tfield Try.prog 29 0 = some (0, 23) := by kernel_rfl
theorem tf29_1 : tfield Try.prog 29 1 = some (1, 27) := by kernel_rfl
theorem tz29 : tzero Try.prog 29 = some (.agg #[.slice none 0 0, .slice none 0 0]) := by kernel_rfl
theorem ts42 : tsz Try.prog 42 = 2 := by kernel_rfl
theorem tb42 : tby Try.prog 42 = 24 := by kernel_rfl
theorem ta42 : tagg Try.prog 42 = some true := by kernel_rfl
theorem tc42 : Try.prog.cellsOf 42 = 2 := by kernel_rfl
theorem tB42 : Try.prog.bytesOf 42 = 24 := by kernel_rfl
theorem ti42 : (Try.prog.info? 42).isSome = true := by kernel_rfl
theorem tr42 : isNumStrT Try.prog 42 = true := by kernel_rfl
theorem tf42_0 : tfield Try.prog 42 0 = some (0, 3) := by kernel_rfl
theorem tf42_1 : tfield Try.prog 42 1 = some (1, 9) := by kernel_rfl
theorem tz42 : tzero Try.prog 42 = some (.agg #[.int .i64 0, .string ByteArray.empty]) := by kernel_rfl
theorem ts43 : tsz Try.prog 43 = 2 := by kernel_rfl
theorem tb43 : tby Try.prog 43 = 24 := by kernel_rfl
theorem ta43 : tagg Try.prog 43 = some true := by kernel_rfl
theorem tc43 : Try.prog.cellsOf 43 = 2 := by kernel_rfl
theorem tB43 : Try.prog.bytesOf 43 = 24 := by kernel_rfl
theorem ti43 : (Try.prog.info? 43).isSome = true := by kernel_rfl
theorem tr43 : isNumStrT Try.prog 43 = true := by kernel_rfl
theorem tf43_0 : tfield Try.prog 43 0 = some (0, 3) := by kernel_rfl
theorem tf43_1 : tfield Try.prog 43 1 = some (1, 9) := by kernel_rfl
theorem tz43 : tzero Try.prog 43 = some (.agg #[.int .i64 0, .string ByteArray.empty]) := by kernel_rfl
theorem ts58 : tsz Try.prog 58 = 1 := by kernel_rfl
theorem tb58 : tby Try.prog 58 = 24 := by kernel_rfl
theorem ta58 : tagg Try.prog 58 = some false := by kernel_rfl
theorem tc58 : Try.prog.cellsOf 58 = 1 := by kernel_rfl
theorem tB58 : Try.prog.bytesOf 58 = 24 := by kernel_rfl
theorem ti58 : (Try.prog.info? 58).isSome = true := by kernel_rfl
theorem te58 : telem Try.prog 58 = some 103 := by kernel_rfl
theorem tz58 : tzero Try.prog 58 = some (.slice none 0 0) := by kernel_rfl
theorem ts61 : tsz Try.prog 61 = 1 := by kernel_rfl
theorem tb61 : tby Try.prog 61 = 24 := by kernel_rfl
theorem ta61 : tagg Try.prog 61 = some false := by kernel_rfl
theorem tc61 : Try.prog.cellsOf 61 = 1 := by kernel_rfl
theorem tB61 : Try.prog.bytesOf 61 = 24 := by kernel_rfl
theorem ti61 : (Try.prog.info? 61).isSome = true := by kernel_rfl
theorem te61 : telem Try.prog 61 = some 65 := by kernel_rfl
theorem tz61 : tzero Try.prog 61 = some (.slice none 0 0) := by kernel_rfl
theorem ts64 : tsz Try.prog 64 = 3 := by kernel_rfl
theorem tb64 : tby Try.prog 64 = 48 := by kernel_rfl
theorem ta64 : tagg Try.prog 64 = some true := by kernel_rfl
theorem tc64 : Try.prog.cellsOf 64 = 3 := by kernel_rfl
theorem tB64 : Try.prog.bytesOf 64 = 48 := by kernel_rfl
theorem ti64 : (Try.prog.info? 64).isSome = true := by kernel_rfl
theorem tf64_0 : tfield Try.prog 64 0 = some (0, 4) := by kernel_rfl
theorem tf64_1 : tfield Try.prog 64 1 = some (1, 23) := by kernel_rfl
theorem tf64_2 : tfield Try.prog 64 2 = some (2, 9) := by kernel_rfl
theorem tz64 : tzero Try.prog 64 = some (.agg #[.bool false, .slice none 0 0, .string ByteArray.empty]) := by kernel_rfl
theorem ts65 : tsz Try.prog 65 = 3 := by kernel_rfl
theorem tb65 : tby Try.prog 65 = 48 := by kernel_rfl
theorem ta65 : tagg Try.prog 65 = some true := by kernel_rfl
theorem tc65 : Try.prog.cellsOf 65 = 3 := by kernel_rfl
theorem tB65 : Try.prog.bytesOf 65 = 48 := by kernel_rfl
theorem ti65 : (Try.prog.info? 65).isSome = true := by kernel_rfl
theorem tf65_0 : tfield Try.prog 65 0 = some (0, 4) := by kernel_rfl
theorem tf65_1 : tfield Try.prog 65 1 = some (1, 23) := by kernel_rfl
theorem tf65_2 : tfield Try.prog 65 2 = some (2, 9) := by kernel_rfl
theorem tz65 : tzero Try.prog 65 = some (.agg #[.bool false, .slice none 0 0, .string ByteArray.empty]) := by kernel_rfl
theorem ts74 : tsz Try.prog 74 = 1 := by kernel_rfl
theorem tb74 : tby Try.prog 74 = 8 := by kernel_rfl
theorem ta74 : tagg Try.prog 74 = some false := by kernel_rfl
theorem tc74 : Try.prog.cellsOf 74 = 1 := by kernel_rfl
theorem tB74 : Try.prog.bytesOf 74 = 8 := by kernel_rfl
theorem ti74 : (Try.prog.info? 74).isSome = true := by kernel_rfl
theorem tz74 : tzero Try.prog 74 = some (.pointer none) := by kernel_rfl
theorem ts75 : tsz Try.prog 75 = 1 := by kernel_rfl
theorem tb75 : tby Try.prog 75 = 8 := by kernel_rfl
theorem ta75 : tagg Try.prog 75 = some false := by kernel_rfl
theorem tc75 : Try.prog.cellsOf 75 = 1 := by kernel_rfl
theorem tB75 : Try.prog.bytesOf 75 = 8 := by kernel_rfl
theorem ti75 : (Try.prog.info? 75).isSome = true := by kernel_rfl
theorem tz75 : tzero Try.prog 75 = some (.int .u64 0) := by kernel_rfl
theorem ts76 : tsz Try.prog 76 = 3 := by kernel_rfl
theorem tb76 : tby Try.prog 76 = 40 := by kernel_rfl
theorem ta76 : tagg Try.prog 76 = some true := by kernel_rfl
theorem tc76 : Try.prog.cellsOf 76 = 3 := by kernel_rfl
theorem tB76 : Try.prog.bytesOf 76 = 40 := by kernel_rfl
theorem ti76 : (Try.prog.info? 76).isSome = true := by kernel_rfl
theorem tf76_0 : tfield Try.prog 76 0 = some (0, 22) := by kernel_rfl
theorem tf76_1 : tfield Try.prog 76 1 = some (1, 3) := by kernel_rfl
theorem tf76_2 : tfield Try.prog 76 2 = some (2, 75) := by kernel_rfl
theorem tz76 : tzero Try.prog 76 = some (.agg #[.slice none 0 0, .int .i64 0, .int .u64 0]) := by kernel_rfl
theorem ts77 : tsz Try.prog 77 = 3 := by kernel_rfl
theorem tb77 : tby Try.prog 77 = 40 := by kernel_rfl
theorem ta77 : tagg Try.prog 77 = some true := by kernel_rfl
theorem tc77 : Try.prog.cellsOf 77 = 3 := by kernel_rfl
theorem tB77 : Try.prog.bytesOf 77 = 40 := by kernel_rfl
theorem ti77 : (Try.prog.info? 77).isSome = true := by kernel_rfl
theorem tf77_0 : tfield Try.prog 77 0 = some (0, 22) := by kernel_rfl
theorem tf77_1 : tfield Try.prog 77 1 = some (1, 3) := by kernel_rfl
theorem tf77_2 : tfield Try.prog 77 2 = some (2, 75) := by kernel_rfl
theorem tz77 : tzero Try.prog 77 = some (.agg #[.slice none 0 0, .int .i64 0, .int .u64 0]) := by kernel_rfl
theorem ts102 : tsz Try.prog 102 = 2 := by kernel_rfl
theorem tb102 : tby Try.prog 102 = 40 := by kernel_rfl
theorem ta102 : tagg Try.prog 102 = some true := by kernel_rfl
theorem tc102 : Try.prog.cellsOf 102 = 2 := by kernel_rfl
theorem tB102 : Try.prog.bytesOf 102 = 40 := by kernel_rfl
theorem ti102 : (Try.prog.info? 102).isSome = true := by kernel_rfl
theorem tf102_0 : tfield Try.prog 102 0 = some (0, 23) := by kernel_rfl
theorem tf102_1 : tfield Try.prog 102 1 = some (1, 9) := by kernel_rfl
theorem tz102 : tzero Try.prog 102 = some (.agg #[.slice none 0 0, .string ByteArray.empty]) := by kernel_rfl
theorem ts103 : tsz Try.prog 103 = 2 := by kernel_rfl
theorem tb103 : tby Try.prog 103 = 40 := by kernel_rfl
theorem ta103 : tagg Try.prog 103 = some true := by kernel_rfl
theorem tc103 : Try.prog.cellsOf 103 = 2 := by kernel_rfl
theorem tB103 : Try.prog.bytesOf 103 = 40 := by kernel_rfl
theorem ti103 : (Try.prog.info? 103).isSome = true := by kernel_rfl
theorem tf103_0 : tfield Try.prog 103 0 = some (0, 23) := by kernel_rfl
theorem tf103_1 : tfield Try.prog 103 1 = some (1, 9) := by kernel_rfl
theorem tz103 : tzero Try.prog 103 = some (.agg #[.slice none 0 0, .string ByteArray.empty]) := by kernel_rfl
theorem ts114 : tsz Try.prog 114 = 1 := by kernel_rfl
theorem tb114 : tby Try.prog 114 = 24 := by kernel_rfl
theorem ta114 : tagg Try.prog 114 = some false := by kernel_rfl
theorem tc114 : Try.prog.cellsOf 114 = 1 := by kernel_rfl
theorem tB114 : Try.prog.bytesOf 114 = 24 := by kernel_rfl
theorem ti114 : (Try.prog.info? 114).isSome = true := by kernel_rfl
theorem te114 : telem Try.prog 114 = some 3 := by kernel_rfl
theorem tz114 : tzero Try.prog 114 = some (.slice none 0 0) := by kernel_rfl
theorem ts118 : tsz Try.prog 118 = 1 := by kernel_rfl
theorem tb118 : tby Try.prog 118 = 8 := by kernel_rfl
theorem ta118 : tagg Try.prog 118 = some false := by kernel_rfl
theorem tc118 : Try.prog.cellsOf 118 = 1 := by kernel_rfl
theorem tB118 : Try.prog.bytesOf 118 = 8 := by kernel_rfl
theorem ti118 : (Try.prog.info? 118).isSome = true := by kernel_rfl
theorem tz118 : tzero Try.prog 118 = some (.int .u64 0) := by kernel_rfl
theorem ts124 : tsz Try.prog 124 = 1 := by kernel_rfl
theorem tb124 : tby Try.prog 124 = 8 := by kernel_rfl
theorem ta124 : tagg Try.prog 124 = some false := by kernel_rfl
theorem tc124 : Try.prog.cellsOf 124 = 1 := by kernel_rfl
theorem tB124 : Try.prog.bytesOf 124 = 8 := by kernel_rfl
theorem ti124 : (Try.prog.info? 124).isSome = true := by kernel_rfl
theorem tz124 : tzero Try.prog 124 = some (.pointer none) := by kernel_rfl
theorem ts125 : tsz Try.prog 125 = 2 := by kernel_rfl
theorem tb125 : tby Try.prog 125 = 32 := by kernel_rfl
theorem ta125 : tagg Try.prog 125 = some true := by kernel_rfl
theorem tc125 : Try.prog.cellsOf 125 = 2 := by kernel_rfl
theorem tB125 : Try.prog.bytesOf 125 = 32 := by kernel_rfl
theorem ti125 : (Try.prog.info? 125).isSome = true := by kernel_rfl
theorem tf125_0 : tfield Try.prog 125 0 = some (0, 124) := by kernel_rfl
theorem tf125_1 : tfield Try.prog 125 1 = some (1, 22) := by kernel_rfl
theorem tz125 : tzero Try.prog 125 = some (.agg #[.pointer none, .slice none 0 0]) := by kernel_rfl
theorem ts126 : tsz Try.prog 126 = 2 := by kernel_rfl
theorem tb126 : tby Try.prog 126 = 32 := by kernel_rfl
theorem ta126 : tagg Try.prog 126 = some true := by kernel_rfl
theorem tc126 : Try.prog.cellsOf 126 = 2 := by kernel_rfl
theorem tB126 : Try.prog.bytesOf 126 = 32 := by kernel_rfl
theorem ti126 : (Try.prog.info? 126).isSome = true := by kernel_rfl
theorem tf126_0 : tfield Try.prog 126 0 = some (0, 124) := by kernel_rfl
theorem tf126_1 : tfield Try.prog 126 1 = some (1, 22) := by kernel_rfl
theorem tz126 : tzero Try.prog 126 = some (.agg #[.pointer none, .slice none 0 0]) := by kernel_rfl
theorem ts144 : tsz Try.prog 144 = 1 := by kernel_rfl
theorem tb144 : tby Try.prog 144 = 8 := by kernel_rfl
theorem ta144 : tagg Try.prog 144 = some false := by kernel_rfl
theorem tc144 : Try.prog.cellsOf 144 = 1 := by kernel_rfl
theorem tB144 : Try.prog.bytesOf 144 = 8 := by kernel_rfl
theorem ti144 : (Try.prog.info? 144).isSome = true := by kernel_rfl
theorem tz144 : tzero Try.prog 144 = some (.pointer none) := by kernel_rfl
theorem ts145 : tsz Try.prog 145 = 1 := by kernel_rfl
theorem tb145 : tby Try.prog 145 = 4 := by kernel_rfl
theorem ta145 : tagg Try.prog 145 = some false := by kernel_rfl
theorem tc145 : Try.prog.cellsOf 145 = 1 := by kernel_rfl
theorem tB145 : Try.prog.bytesOf 145 = 4 := by kernel_rfl
theorem ti145 : (Try.prog.info? 145).isSome = true := by kernel_rfl
theorem tz145 : tzero Try.prog 145 = some (.int .u32 0) := by kernel_rfl
theorem ts155 : tsz Try.prog 155 = 4 := by kernel_rfl
theorem tb155 : tby Try.prog 155 = 40 := by kernel_rfl
theorem ta155 : tagg Try.prog 155 = some true := by kernel_rfl
theorem tc155 : Try.prog.cellsOf 155 = 4 := by kernel_rfl
theorem tB155 : Try.prog.bytesOf 155 = 40 := by kernel_rfl
theorem ti155 : (Try.prog.info? 155).isSome = true := by kernel_rfl
theorem tf155_0 : tfield Try.prog 155 0 = some (0, 17) := by kernel_rfl
theorem tf155_1 : tfield Try.prog 155 1 = some (1, 17) := by kernel_rfl
theorem tf155_2 : tfield Try.prog 155 2 = some (2, 17) := by kernel_rfl
theorem tf155_3 : tfield Try.prog 155 3 = some (3, 9) := by kernel_rfl
theorem tz155 : tzero Try.prog 155 = some (.agg #[.pointer none, .pointer none, .pointer none, .string ByteArray.empty]) := by kernel_rfl
theorem ts156 : tsz Try.prog 156 = 4 := by kernel_rfl
theorem tb156 : tby Try.prog 156 = 40 := by kernel_rfl
theorem ta156 : tagg Try.prog 156 = some true := by kernel_rfl
theorem tc156 : Try.prog.cellsOf 156 = 4 := by kernel_rfl
theorem tB156 : Try.prog.bytesOf 156 = 40 := by kernel_rfl
theorem ti156 : (Try.prog.info? 156).isSome = true := by kernel_rfl
theorem tf156_0 : tfield Try.prog 156 0 = some (0, 17) := by kernel_rfl
theorem tf156_1 : tfield Try.prog 156 1 = some (1, 17) := by kernel_rfl
theorem tf156_2 : tfield Try.prog 156 2 = some (2, 17) := by kernel_rfl
theorem tf156_3 : tfield Try.prog 156 3 = some (3, 9) := by kernel_rfl
theorem tz156 : tzero Try.prog 156 = some (.agg #[.pointer none, .pointer none, .pointer none, .string ByteArray.empty]) := by kernel_rfl
theorem ts158 : tsz Try.prog 158 = 0 := by kernel_rfl
theorem tb158 : tby Try.prog 158 = 0 := by kernel_rfl
theorem ta158 : tagg Try.prog 158 = some true := by kernel_rfl
theorem tc158 : Try.prog.cellsOf 158 = 0 := by kernel_rfl
theorem tB158 : Try.prog.bytesOf 158 = 0 := by kernel_rfl
theorem ti158 : (Try.prog.info? 158).isSome = true := by kernel_rfl
theorem tf158_0 : tfield Try.prog 158 0 = some (0, 157) := by kernel_rfl
theorem ts159 : tsz Try.prog 159 = 0 := by kernel_rfl
theorem tb159 : tby Try.prog 159 = 0 := by kernel_rfl
theorem ta159 : tagg Try.prog 159 = some true := by kernel_rfl
theorem tc159 : Try.prog.cellsOf 159 = 0 := by kernel_rfl
theorem tB159 : Try.prog.bytesOf 159 = 0 := by kernel_rfl
theorem ti159 : (Try.prog.info? 159).isSome = true := by kernel_rfl
theorem tf159_0 : tfield Try.prog 159 0 = some (0, 157) := by kernel_rfl
theorem ts160 : tsz Try.prog 160 = 1 := by kernel_rfl
theorem tb160 : tby Try.prog 160 = 1 := by kernel_rfl
theorem ta160 : tagg Try.prog 160 = some false := by kernel_rfl
theorem tc160 : Try.prog.cellsOf 160 = 1 := by kernel_rfl
theorem tB160 : Try.prog.bytesOf 160 = 1 := by kernel_rfl
theorem ti160 : (Try.prog.info? 160).isSome = true := by kernel_rfl
theorem tz160 : tzero Try.prog 160 = some (.int .u8 0) := by kernel_rfl
theorem ts161 : tsz Try.prog 161 = 1 := by kernel_rfl
theorem tb161 : tby Try.prog 161 = 1 := by kernel_rfl
theorem ta161 : tagg Try.prog 161 = some false := by kernel_rfl
theorem tc161 : Try.prog.cellsOf 161 = 1 := by kernel_rfl
theorem tB161 : Try.prog.bytesOf 161 = 1 := by kernel_rfl
theorem ti161 : (Try.prog.info? 161).isSome = true := by kernel_rfl
theorem tz161 : tzero Try.prog 161 = some (.int .u8 0) := by kernel_rfl
theorem ts163 : tsz Try.prog 163 = 1 := by kernel_rfl
theorem tb163 : tby Try.prog 163 = 4 := by kernel_rfl
theorem ta163 : tagg Try.prog 163 = some false := by kernel_rfl
theorem tc163 : Try.prog.cellsOf 163 = 1 := by kernel_rfl
theorem tB163 : Try.prog.bytesOf 163 = 4 := by kernel_rfl
theorem ti163 : (Try.prog.info? 163).isSome = true := by kernel_rfl
theorem tz163 : tzero Try.prog 163 = some (.int .i32 0) := by kernel_rfl
theorem ts164 : tsz Try.prog 164 = 1 := by kernel_rfl
theorem tb164 : tby Try.prog 164 = 4 := by kernel_rfl
theorem ta164 : tagg Try.prog 164 = some false := by kernel_rfl
theorem tc164 : Try.prog.cellsOf 164 = 1 := by kernel_rfl
theorem tB164 : Try.prog.bytesOf 164 = 4 := by kernel_rfl
theorem ti164 : (Try.prog.info? 164).isSome = true := by kernel_rfl
theorem tz164 : tzero Try.prog 164 = some (.int .i32 0) := by kernel_rfl
theorem ts165 : tsz Try.prog 165 = 11 := by kernel_rfl
theorem tb165 : tby Try.prog 165 = 48 := by kernel_rfl
theorem ta165 : tagg Try.prog 165 = some true := by kernel_rfl
theorem tc165 : Try.prog.cellsOf 165 = 11 := by kernel_rfl
theorem tB165 : Try.prog.bytesOf 165 = 48 := by kernel_rfl
theorem ti165 : (Try.prog.info? 165).isSome = true := by kernel_rfl
theorem tf165_0 : tfield Try.prog 165 0 = some (0, 12) := by kernel_rfl
theorem tf165_1 : tfield Try.prog 165 1 = some (1, 12) := by kernel_rfl
theorem tf165_2 : tfield Try.prog 165 2 = some (2, 145) := by kernel_rfl
theorem tf165_3 : tfield Try.prog 165 3 = some (3, 160) := by kernel_rfl
theorem tf165_4 : tfield Try.prog 165 4 = some (4, 5) := by kernel_rfl
theorem tf165_5 : tfield Try.prog 165 5 = some (5, 5) := by kernel_rfl
theorem tf165_6 : tfield Try.prog 165 6 = some (6, 161) := by kernel_rfl
theorem tf165_7 : tfield Try.prog 165 7 = some (7, 162) := by kernel_rfl
theorem tf165_8 : tfield Try.prog 165 8 = some (8, 144) := by kernel_rfl
theorem tf165_9 : tfield Try.prog 165 9 = some (9, 163) := by kernel_rfl
theorem tf165_10 : tfield Try.prog 165 10 = some (10, 164) := by kernel_rfl
theorem ts166 : tsz Try.prog 166 = 11 := by kernel_rfl
theorem tb166 : tby Try.prog 166 = 48 := by kernel_rfl
theorem ta166 : tagg Try.prog 166 = some true := by kernel_rfl
theorem tc166 : Try.prog.cellsOf 166 = 11 := by kernel_rfl
theorem tB166 : Try.prog.bytesOf 166 = 48 := by kernel_rfl
theorem ti166 : (Try.prog.info? 166).isSome = true := by kernel_rfl
theorem tf166_0 : tfield Try.prog 166 0 = some (0, 12) := by kernel_rfl
theorem tf166_1 : tfield Try.prog 166 1 = some (1, 12) := by kernel_rfl
theorem tf166_2 : tfield Try.prog 166 2 = some (2, 145) := by kernel_rfl
theorem tf166_3 : tfield Try.prog 166 3 = some (3, 160) := by kernel_rfl
theorem tf166_4 : tfield Try.prog 166 4 = some (4, 5) := by kernel_rfl
theorem tf166_5 : tfield Try.prog 166 5 = some (5, 5) := by kernel_rfl
theorem tf166_6 : tfield Try.prog 166 6 = some (6, 161) := by kernel_rfl
theorem tf166_7 : tfield Try.prog 166 7 = some (7, 162) := by kernel_rfl
theorem tf166_8 : tfield Try.prog 166 8 = some (8, 144) := by kernel_rfl
theorem tf166_9 : tfield Try.prog 166 9 = some (9, 163) := by kernel_rfl
theorem tf166_10 : tfield Try.prog 166 10 = some (10, 164) := by kernel_rfl
attribute [simp] ts2 tb2 ta2 tc2 tB2 ti2 tz2 ts3 tb3 ta3 tc3 tB3 ti3 tz3 ts4 tb4 ta4 tc4 tB4 ti4 tz4 ts5 tb5 ta5 tc5 tB5 ti5 tz5 ts6 tb6 ta6 tc6 tB6 ti6 tz6 ts7 tb7 ta7 tc7 tB7 ti7 tf7_0 tf7_1 tf7_2 tf7_3 tz7 ts8 tb8 ta8 tc8 tB8 ti8 tf8_0 tf8_1 tf8_2 tf8_3 tz8 ts9 tb9 ta9 tc9 tB9 ti9 tz9 ts10 tb10 ta10 tc10 tB10 ti10 tz10 ts11 tb11 ta11 tc11 tB11 ti11 tz11 ts12 tb12 ta12 tc12 tB12 ti12 tz12 ts13 tb13 ta13 tc13 tB13 ti13 tf13_0 tf13_1 tz13 ts14 tb14 ta14 tc14 tB14 ti14 tf14_0 tf14_1 tz14 ts15 tb15 ta15 tc15 tB15 ti15 tz15 ts16 tb16 ta16 tc16 tB16 ti16 tz16 ts17 tb17 ta17 tc17 tB17 ti17 tz17 ts18 tb18 ta18 tc18 tB18 ti18 tf18_0 tz18 ts19 tb19 ta19 tc19 tB19 ti19 tf19_0 tz19 ts21 tb21 ta21 tc21 tB21 ti21 tz21 ts22 tb22 ta22 tc22 tB22 ti22 te22 tz22 ts23 tb23 ta23 tc23 tB23 ti23 te23 tz23 ts24 tb24 ta24 tc24 tB24 ti24 te24 tz24 ts27 tb27 ta27 tc27 tB27 ti27 te27 tz27 ts28 tb28 ta28 tc28 tB28 ti28 tf28_0 tf28_1 tz28 ts29 tb29 ta29 tc29 tB29 ti29 tf29_0 tf29_1 tz29 ts42 tb42 ta42 tc42 tB42 ti42 tr42 tf42_0 tf42_1 tz42 ts43 tb43 ta43 tc43 tB43 ti43 tr43 tf43_0 tf43_1 tz43 ts58 tb58 ta58 tc58 tB58 ti58 te58 tz58 ts61 tb61 ta61 tc61 tB61 ti61 te61 tz61 ts64 tb64 ta64 tc64 tB64 ti64 tf64_0 tf64_1 tf64_2 tz64 ts65 tb65 ta65 tc65 tB65 ti65 tf65_0 tf65_1 tf65_2 tz65 ts74 tb74 ta74 tc74 tB74 ti74 tz74 ts75 tb75 ta75 tc75 tB75 ti75 tz75 ts76 tb76 ta76 tc76 tB76 ti76 tf76_0 tf76_1 tf76_2 tz76 ts77 tb77 ta77 tc77 tB77 ti77 tf77_0 tf77_1 tf77_2 tz77 ts102 tb102 ta102 tc102 tB102 ti102 tf102_0 tf102_1 tz102 ts103 tb103 ta103 tc103 tB103 ti103 tf103_0 tf103_1 tz103 ts114 tb114 ta114 tc114 tB114 ti114 te114 tz114 ts118 tb118 ta118 tc118 tB118 ti118 tz118 ts124 tb124 ta124 tc124 tB124 ti124 tz124 ts125 tb125 ta125 tc125 tB125 ti125 tf125_0 tf125_1 tz125 ts126 tb126 ta126 tc126 tB126 ti126 tf126_0 tf126_1 tz126 ts144 tb144 ta144 tc144 tB144 ti144 tz144 ts145 tb145 ta145 tc145 tB145 ti145 tz145 ts155 tb155 ta155 tc155 tB155 ti155 tf155_0 tf155_1 tf155_2 tf155_3 tz155 ts156 tb156 ta156 tc156 tB156 ti156 tf156_0 tf156_1 tf156_2 tf156_3 tz156 ts158 tb158 ta158 tc158 tB158 ti158 tf158_0 ts159 tb159 ta159 tc159 tB159 ti159 tf159_0 ts160 tb160 ta160 tc160 tB160 ti160 tz160 ts161 tb161 ta161 tc161 tB161 ti161 tz161 ts163 tb163 ta163 tc163 tB163 ti163 tz163 ts164 tb164 ta164 tc164 tB164 ti164 tz164 ts165 tb165 ta165 tc165 tB165 ti165 tf165_0 tf165_1 tf165_2 tf165_3 tf165_4 tf165_5 tf165_6 tf165_7 tf165_8 tf165_9 tf165_10 ts166 tb166 ta166 tc166 tB166 ti166 tf166_0 tf166_1 tf166_2 tf166_3 tf166_4 tf166_5 tf166_6 tf166_7 tf166_8 tf166_9 tf166_10
end Go.V
