/- Facts on the types of the seat's program, each by reckoning. No conditions. -/
import Derived.Test.YtpeioklpclkdbaaVe
import Derived.Test.YtpeioklpclkdbaaProg
set_option linter.all false
namespace Go.V
open Go.Proofs
set_option maxRecDepth 10000
theorem h0 : tsz Try.prog nilE = 0 := by kernel_rfl
theorem hm : Try.prog.follows .mixedOrders = true := by kernel_rfl
theorem ts2 : tsz Try.prog 2 = 1 := by kernel_rfl
theorem tb2 : tby Try.prog 2 = 8 := by kernel_rfl
theorem ta2 : tagg Try.prog 2 = some false := by kernel_rfl
theorem tc2 : Try.prog.cellsOf 2 = 1 := by kernel_rfl
theorem tB2 : Try.prog.bytesOf 2 = 8 := by kernel_rfl
theorem ti2 : (Try.prog.info? 2).isSome = true := by kernel_rfl
theorem tz2 : tzero Try.prog 2 = some (.int .i64 0) := by kernel_rfl
theorem ts3 : tsz Try.prog 3 = 1 := by kernel_rfl
theorem tb3 : tby Try.prog 3 = 8 := by kernel_rfl
theorem ta3 : tagg Try.prog 3 = some false := by kernel_rfl
theorem tc3 : Try.prog.cellsOf 3 = 1 := by kernel_rfl
theorem tB3 : Try.prog.bytesOf 3 = 8 := by kernel_rfl
theorem ti3 : (Try.prog.info? 3).isSome = true := by kernel_rfl
theorem tz3 : tzero Try.prog 3 = some (.int .i64 0) := by kernel_rfl
theorem ts4 : tsz Try.prog 4 = 1 := by kernel_rfl
theorem tb4 : tby Try.prog 4 = 1 := by kernel_rfl
theorem ta4 : tagg Try.prog 4 = some false := by kernel_rfl
theorem tc4 : Try.prog.cellsOf 4 = 1 := by kernel_rfl
theorem tB4 : Try.prog.bytesOf 4 = 1 := by kernel_rfl
theorem ti4 : (Try.prog.info? 4).isSome = true := by kernel_rfl
theorem tz4 : tzero Try.prog 4 = some (.bool false) := by kernel_rfl
theorem ts5 : tsz Try.prog 5 = 1 := by kernel_rfl
theorem tb5 : tby Try.prog 5 = 1 := by kernel_rfl
theorem ta5 : tagg Try.prog 5 = some false := by kernel_rfl
theorem tc5 : Try.prog.cellsOf 5 = 1 := by kernel_rfl
theorem tB5 : Try.prog.bytesOf 5 = 1 := by kernel_rfl
theorem ti5 : (Try.prog.info? 5).isSome = true := by kernel_rfl
theorem tz5 : tzero Try.prog 5 = some (.int .u8 0) := by kernel_rfl
theorem ts6 : tsz Try.prog 6 = 1 := by kernel_rfl
theorem tb6 : tby Try.prog 6 = 1 := by kernel_rfl
theorem ta6 : tagg Try.prog 6 = some false := by kernel_rfl
theorem tc6 : Try.prog.cellsOf 6 = 1 := by kernel_rfl
theorem tB6 : Try.prog.bytesOf 6 = 1 := by kernel_rfl
theorem ti6 : (Try.prog.info? 6).isSome = true := by kernel_rfl
theorem tz6 : tzero Try.prog 6 = some (.int .u8 0) := by kernel_rfl
theorem ts7 : tsz Try.prog 7 = 4 := by kernel_rfl
theorem tb7 : tby Try.prog 7 = 24 := by kernel_rfl
theorem ta7 : tagg Try.prog 7 = some true := by kernel_rfl
theorem tc7 : Try.prog.cellsOf 7 = 4 := by kernel_rfl
theorem tB7 : Try.prog.bytesOf 7 = 24 := by kernel_rfl
theorem ti7 : (Try.prog.info? 7).isSome = true := by kernel_rfl
theorem tf7_0 : tfield Try.prog 7 0 = some (0, 2) := by kernel_rfl
theorem tf7_1 : tfield Try.prog 7 1 = some (1, 3) := by kernel_rfl
theorem tf7_2 : tfield Try.prog 7 2 = some (2, 4) := by kernel_rfl
theorem tf7_3 : tfield Try.prog 7 3 = some (3, 6) := by kernel_rfl
theorem tz7 : tzero Try.prog 7 = some (.agg #[.int .i64 0, .int .i64 0, .bool false, .int .u8 0]) := by kernel_rfl
theorem ts8 : tsz Try.prog 8 = 4 := by kernel_rfl
theorem tb8 : tby Try.prog 8 = 24 := by kernel_rfl
theorem ta8 : tagg Try.prog 8 = some true := by kernel_rfl
theorem tc8 : Try.prog.cellsOf 8 = 4 := by kernel_rfl
theorem tB8 : Try.prog.bytesOf 8 = 24 := by kernel_rfl
theorem ti8 : (Try.prog.info? 8).isSome = true := by kernel_rfl
theorem tf8_0 : tfield Try.prog 8 0 = some (0, 2) := by kernel_rfl
theorem tf8_1 : tfield Try.prog 8 1 = some (1, 3) := by kernel_rfl
theorem tf8_2 : tfield Try.prog 8 2 = some (2, 4) := by kernel_rfl
theorem tf8_3 : tfield Try.prog 8 3 = some (3, 6) := by kernel_rfl
theorem tz8 : tzero Try.prog 8 = some (.agg #[.int .i64 0, .int .i64 0, .bool false, .int .u8 0]) := by kernel_rfl
theorem ts9 : tsz Try.prog 9 = 1 := by kernel_rfl
theorem tb9 : tby Try.prog 9 = 16 := by kernel_rfl
theorem ta9 : tagg Try.prog 9 = some false := by kernel_rfl
theorem tc9 : Try.prog.cellsOf 9 = 1 := by kernel_rfl
theorem tB9 : Try.prog.bytesOf 9 = 16 := by kernel_rfl
theorem ti9 : (Try.prog.info? 9).isSome = true := by kernel_rfl
theorem tz9 : tzero Try.prog 9 = some (.string ByteArray.empty) := by kernel_rfl
theorem ts10 : tsz Try.prog 10 = 1 := by kernel_rfl
theorem tb10 : tby Try.prog 10 = 16 := by kernel_rfl
theorem ta10 : tagg Try.prog 10 = some false := by kernel_rfl
theorem tc10 : Try.prog.cellsOf 10 = 1 := by kernel_rfl
theorem tB10 : Try.prog.bytesOf 10 = 16 := by kernel_rfl
theorem ti10 : (Try.prog.info? 10).isSome = true := by kernel_rfl
theorem tz10 : tzero Try.prog 10 = some (.string ByteArray.empty) := by kernel_rfl
theorem ts11 : tsz Try.prog 11 = 1 := by kernel_rfl
theorem tb11 : tby Try.prog 11 = 16 := by kernel_rfl
theorem ta11 : tagg Try.prog 11 = some false := by kernel_rfl
theorem tc11 : Try.prog.cellsOf 11 = 1 := by kernel_rfl
theorem tB11 : Try.prog.bytesOf 11 = 16 := by kernel_rfl
theorem ti11 : (Try.prog.info? 11).isSome = true := by kernel_rfl
theorem tz11 : tzero Try.prog 11 = some (.string ByteArray.empty) := by kernel_rfl
theorem ts12 : tsz Try.prog 12 = 1 := by kernel_rfl
theorem tb12 : tby Try.prog 12 = 8 := by kernel_rfl
theorem ta12 : tagg Try.prog 12 = some false := by kernel_rfl
theorem tc12 : Try.prog.cellsOf 12 = 1 := by kernel_rfl
theorem tB12 : Try.prog.bytesOf 12 = 8 := by kernel_rfl
theorem ti12 : (Try.prog.info? 12).isSome = true := by kernel_rfl
theorem tz12 : tzero Try.prog 12 = some (.int .u64 0) := by kernel_rfl
theorem ts13 : tsz Try.prog 13 = 2 := by kernel_rfl
theorem tb13 : tby Try.prog 13 = 24 := by kernel_rfl
theorem ta13 : tagg Try.prog 13 = some true := by kernel_rfl
theorem tc13 : Try.prog.cellsOf 13 = 2 := by kernel_rfl
theorem tB13 : Try.prog.bytesOf 13 = 24 := by kernel_rfl
theorem ti13 : (Try.prog.info? 13).isSome = true := by kernel_rfl
theorem tf13_0 : tfield Try.prog 13 0 = some (0, 9) := by kernel_rfl
theorem tf13_1 : tfield Try.prog 13 1 = some (1, 12) := by kernel_rfl
theorem tz13 : tzero Try.prog 13 = some (.agg #[.string ByteArray.empty, .int .u64 0]) := by kernel_rfl
theorem ts14 : tsz Try.prog 14 = 2 := by kernel_rfl
theorem tb14 : tby Try.prog 14 = 24 := by kernel_rfl
theorem ta14 : tagg Try.prog 14 = some true := by kernel_rfl
theorem tc14 : Try.prog.cellsOf 14 = 2 := by kernel_rfl
theorem tB14 : Try.prog.bytesOf 14 = 24 := by kernel_rfl
theorem ti14 : (Try.prog.info? 14).isSome = true := by kernel_rfl
theorem tf14_0 : tfield Try.prog 14 0 = some (0, 9) := by kernel_rfl
theorem tf14_1 : tfield Try.prog 14 1 = some (1, 12) := by kernel_rfl
theorem tz14 : tzero Try.prog 14 = some (.agg #[.string ByteArray.empty, .int .u64 0]) := by kernel_rfl
theorem ts15 : tsz Try.prog 15 = 1 := by kernel_rfl
theorem tb15 : tby Try.prog 15 = 8 := by kernel_rfl
theorem ta15 : tagg Try.prog 15 = some false := by kernel_rfl
theorem tc15 : Try.prog.cellsOf 15 = 1 := by kernel_rfl
theorem tB15 : Try.prog.bytesOf 15 = 8 := by kernel_rfl
theorem ti15 : (Try.prog.info? 15).isSome = true := by kernel_rfl
theorem tz15 : tzero Try.prog 15 = some (.pointer none) := by kernel_rfl
theorem ts16 : tsz Try.prog 16 = 1 := by kernel_rfl
theorem tb16 : tby Try.prog 16 = 8 := by kernel_rfl
theorem ta16 : tagg Try.prog 16 = some false := by kernel_rfl
theorem tc16 : Try.prog.cellsOf 16 = 1 := by kernel_rfl
theorem tB16 : Try.prog.bytesOf 16 = 8 := by kernel_rfl
theorem ti16 : (Try.prog.info? 16).isSome = true := by kernel_rfl
theorem tz16 : tzero Try.prog 16 = some (.pointer none) := by kernel_rfl
theorem ts17 : tsz Try.prog 17 = 1 := by kernel_rfl
theorem tb17 : tby Try.prog 17 = 8 := by kernel_rfl
theorem ta17 : tagg Try.prog 17 = some false := by kernel_rfl
theorem tc17 : Try.prog.cellsOf 17 = 1 := by kernel_rfl
theorem tB17 : Try.prog.bytesOf 17 = 8 := by kernel_rfl
theorem ti17 : (Try.prog.info? 17).isSome = true := by kernel_rfl
theorem tz17 : tzero Try.prog 17 = some (.pointer none) := by kernel_rfl
theorem ts18 : tsz Try.prog 18 = 1 := by kernel_rfl
theorem tb18 : tby Try.prog 18 = 8 := by kernel_rfl
theorem ta18 : tagg Try.prog 18 = some true := by kernel_rfl
theorem tc18 : Try.prog.cellsOf 18 = 1 := by kernel_rfl
theorem tB18 : Try.prog.bytesOf 18 = 8 := by kernel_rfl
theorem ti18 : (Try.prog.info? 18).isSome = true := by kernel_rfl
theorem tf18_0 : tfield Try.prog 18 0 = some (0, 17) := by kernel_rfl
theorem tz18 : tzero Try.prog 18 = some (.agg #[.pointer none]) := by kernel_rfl
theorem ts19 : tsz Try.prog 19 = 1 := by kernel_rfl
theorem tb19 : tby Try.prog 19 = 8 := by kernel_rfl
theorem ta19 : tagg Try.prog 19 = some true := by kernel_rfl
theorem tc19 : Try.prog.cellsOf 19 = 1 := by kernel_rfl
theorem tB19 : Try.prog.bytesOf 19 = 8 := by kernel_rfl
theorem ti19 : (Try.prog.info? 19).isSome = true := by kernel_rfl
theorem tf19_0 : tfield Try.prog 19 0 = some (0, 17) := by kernel_rfl
theorem tz19 : tzero Try.prog 19 = some (.agg #[.pointer none]) := by kernel_rfl
theorem ts21 : tsz Try.prog 21 = 1 := by kernel_rfl
theorem tb21 : tby Try.prog 21 = 4 := by kernel_rfl
theorem ta21 : tagg Try.prog 21 = some false := by kernel_rfl
theorem tc21 : Try.prog.cellsOf 21 = 1 := by kernel_rfl
theorem tB21 : Try.prog.bytesOf 21 = 4 := by kernel_rfl
theorem ti21 : (Try.prog.info? 21).isSome = true := by kernel_rfl
theorem tz21 : tzero Try.prog 21 = some (.int .i32 0) := by kernel_rfl
theorem ts22 : tsz Try.prog 22 = 1 := by kernel_rfl
theorem tb22 : tby Try.prog 22 = 24 := by kernel_rfl
theorem ta22 : tagg Try.prog 22 = some false := by kernel_rfl
theorem tc22 : Try.prog.cellsOf 22 = 1 := by kernel_rfl
theorem tB22 : Try.prog.bytesOf 22 = 24 := by kernel_rfl
theorem ti22 : (Try.prog.info? 22).isSome = true := by kernel_rfl
theorem te22 : telem Try.prog 22 = some 9 := by kernel_rfl
theorem tz22 : tzero Try.prog 22 = some (.slice none 0 0) := by kernel_rfl
theorem ts23 : tsz Try.prog 23 = 1 := by kernel_rfl
theorem tb23 : tby Try.prog 23 = 24 := by kernel_rfl
theorem ta23 : tagg Try.prog 23 = some false := by kernel_rfl
theorem tc23 : Try.prog.cellsOf 23 = 1 := by kernel_rfl
theorem tB23 : Try.prog.bytesOf 23 = 24 := by kernel_rfl
theorem ti23 : (Try.prog.info? 23).isSome = true := by kernel_rfl
theorem te23 : telem Try.prog 23 = some 103 := by kernel_rfl
theorem tz23 : tzero Try.prog 23 = some (.slice none 0 0) := by kernel_rfl
theorem ts24 : tsz Try.prog 24 = 2 := by kernel_rfl
theorem tb24 : tby Try.prog 24 = 48 := by kernel_rfl
theorem ta24 : tagg Try.prog 24 = some true := by kernel_rfl
theorem tc24 : Try.prog.cellsOf 24 = 2 := by kernel_rfl
theorem tB24 : Try.prog.bytesOf 24 = 48 := by kernel_rfl
theorem ti24 : (Try.prog.info? 24).isSome = true := by kernel_rfl
theorem tf24_0 : tfield Try.prog 24 0 = some (0, 22) := by kernel_rfl
theorem tf24_1 : tfield Try.prog 24 1 = some (1, 23) := by kernel_rfl
theorem tz24 : tzero Try.prog 24 = some (.agg #[.slice none 0 0, .slice none 0 0]) := by kernel_rfl
theorem ts25 : tsz Try.prog 25 = 2 := by kernel_rfl
theorem tb25 : tby Try.prog 25 = 48 := by kernel_rfl
theorem ta25 : tagg Try.prog 25 = some true := by kernel_rfl
theorem tc25 : Try.prog.cellsOf 25 = 2 := by kernel_rfl
theorem tB25 : Try.prog.bytesOf 25 = 48 := by kernel_rfl
theorem ti25 : (Try.prog.info? 25).isSome = true := by kernel_rfl
theorem tf25_0 : tfield Try.prog 25 0 = some (0, 22) := by kernel_rfl
theorem tf25_1 : tfield Try.prog 25 1 = some (1, 23) := by kernel_rfl
theorem tz25 : tzero Try.prog 25 = some (.agg #[.slice none 0 0, .slice none 0 0]) := by kernel_rfl
theorem ts28 : tsz Try.prog 28 = 1 := by kernel_rfl
theorem tb28 : tby Try.prog 28 = 24 := by kernel_rfl
theorem ta28 : tagg Try.prog 28 = some false := by kernel_rfl
theorem tc28 : Try.prog.cellsOf 28 = 1 := by kernel_rfl
theorem tB28 : Try.prog.bytesOf 28 = 24 := by kernel_rfl
theorem ti28 : (Try.prog.info? 28).isSome = true := by kernel_rfl
theorem te28 : telem Try.prog 28 = some 66 := by kernel_rfl
theorem tz28 : tzero Try.prog 28 = some (.slice none 0 0) := by kernel_rfl
theorem ts29 : tsz Try.prog 29 = 2 := by kernel_rfl
theorem tb29 : tby Try.prog 29 = 48 := by kernel_rfl
theorem ta29 : tagg Try.prog 29 = some true := by kernel_rfl
theorem tc29 : Try.prog.cellsOf 29 = 2 := by kernel_rfl
theorem tB29 : Try.prog.bytesOf 29 = 48 := by kernel_rfl
theorem ti29 : (Try.prog.info? 29).isSome = true := by kernel_rfl
theorem tf29_0 : tfield Try.prog 29 0 = some (0, 22) := by kernel_rfl
theorem tf29_1 : tfield Try.prog 29 1 = some (1, 28) := by kernel_rfl
theorem tz29 : tzero Try.prog 29 = some (.agg #[.slice none 0 0, .slice none 0 0]) := by kernel_rfl
theorem ts30 : tsz Try.prog 30 = 2 := by kernel_rfl
theorem tb30 : tby Try.prog 30 = 48 := by kernel_rfl
theorem ta30 : tagg Try.prog 30 = some true := by kernel_rfl
theorem tc30 : Try.prog.cellsOf 30 = 2 := by kernel_rfl
theorem tB30 : Try.prog.bytesOf 30 = 48 := by kernel_rfl
theorem ti30 : (Try.prog.info? 30).isSome = true := by kernel_rfl
theorem tf30_0 : tfield Try.prog 30 0 = some (0, 22) := by kernel_rfl
theorem tf30_1 : tfield Try.prog 30 1 = some (1, 28) := by kernel_rfl
theorem tz30 : tzero Try.prog 30 = some (.agg #[.slice none 0 0, .slice none 0 0]) := by kernel_rfl
theorem ts41 : tsz Try.prog 41 = 1 := by kernel_rfl
theorem tb41 : tby Try.prog 41 = 24 := by kernel_rfl
theorem ta41 : tagg Try.prog 41 = some false := by kernel_rfl
theorem tc41 : Try.prog.cellsOf 41 = 1 := by kernel_rfl
theorem tB41 : Try.prog.bytesOf 41 = 24 := by kernel_rfl
theorem ti41 : (Try.prog.info? 41).isSome = true := by kernel_rfl
theorem te41 : telem Try.prog 41 = some 4 := by kernel_rfl
theorem tz41 : tzero Try.prog 41 = some (.slice none 0 0) := by kernel_rfl
theorem ts52 : tsz Try.prog 52 = 1 := by kernel_rfl
theorem tb52 : tby Try.prog 52 = 24 := by kernel_rfl
theorem ta52 : tagg Try.prog 52 = some false := by kernel_rfl
theorem tc52 : Try.prog.cellsOf 52 = 1 := by kernel_rfl
theorem tB52 : Try.prog.bytesOf 52 = 24 := by kernel_rfl
theorem ti52 : (Try.prog.info? 52).isSome = true := by kernel_rfl
theorem te52 : telem Try.prog 52 = some 5 := by kernel_rfl
theorem tz52 : tzero Try.prog 52 = some (.slice none 0 0) := by kernel_rfl
theorem ts65 : tsz Try.prog 65 = 2 := by kernel_rfl
theorem tb65 : tby Try.prog 65 = 24 := by kernel_rfl
theorem ta65 : tagg Try.prog 65 = some true := by kernel_rfl
theorem tc65 : Try.prog.cellsOf 65 = 2 := by kernel_rfl
theorem tB65 : Try.prog.bytesOf 65 = 24 := by kernel_rfl
theorem ti65 : (Try.prog.info? 65).isSome = true := by kernel_rfl
theorem tf65_0 : tfield Try.prog 65 0 = some (0, 3) := by kernel_rfl
theorem tf65_1 : tfield Try.prog 65 1 = some (1, 9) := by kernel_rfl
theorem tz65 : tzero Try.prog 65 = some (.agg #[.int .i64 0, .string ByteArray.empty]) := by kernel_rfl
theorem ts66 : tsz Try.prog 66 = 2 := by kernel_rfl
theorem tb66 : tby Try.prog 66 = 24 := by kernel_rfl
theorem ta66 : tagg Try.prog 66 = some true := by kernel_rfl
theorem tc66 : Try.prog.cellsOf 66 = 2 := by kernel_rfl
theorem tB66 : Try.prog.bytesOf 66 = 24 := by kernel_rfl
theorem ti66 : (Try.prog.info? 66).isSome = true := by kernel_rfl
theorem tf66_0 : tfield Try.prog 66 0 = some (0, 3) := by kernel_rfl
theorem tf66_1 : tfield Try.prog 66 1 = some (1, 9) := by kernel_rfl
theorem tz66 : tzero Try.prog 66 = some (.agg #[.int .i64 0, .string ByteArray.empty]) := by kernel_rfl
theorem ts91 : tsz Try.prog 91 = 1 := by kernel_rfl
theorem tb91 : tby Try.prog 91 = 8 := by kernel_rfl
theorem ta91 : tagg Try.prog 91 = some false := by kernel_rfl
theorem tc91 : Try.prog.cellsOf 91 = 1 := by kernel_rfl
theorem tB91 : Try.prog.bytesOf 91 = 8 := by kernel_rfl
theorem ti91 : (Try.prog.info? 91).isSome = true := by kernel_rfl
theorem tz91 : tzero Try.prog 91 = some (.pointer none) := by kernel_rfl
theorem ts92 : tsz Try.prog 92 = 1 := by kernel_rfl
theorem tb92 : tby Try.prog 92 = 8 := by kernel_rfl
theorem ta92 : tagg Try.prog 92 = some false := by kernel_rfl
theorem tc92 : Try.prog.cellsOf 92 = 1 := by kernel_rfl
theorem tB92 : Try.prog.bytesOf 92 = 8 := by kernel_rfl
theorem ti92 : (Try.prog.info? 92).isSome = true := by kernel_rfl
theorem tz92 : tzero Try.prog 92 = some (.int .u64 0) := by kernel_rfl
theorem ts93 : tsz Try.prog 93 = 3 := by kernel_rfl
theorem tb93 : tby Try.prog 93 = 40 := by kernel_rfl
theorem ta93 : tagg Try.prog 93 = some true := by kernel_rfl
theorem tc93 : Try.prog.cellsOf 93 = 3 := by kernel_rfl
theorem tB93 : Try.prog.bytesOf 93 = 40 := by kernel_rfl
theorem ti93 : (Try.prog.info? 93).isSome = true := by kernel_rfl
theorem tf93_0 : tfield Try.prog 93 0 = some (0, 52) := by kernel_rfl
theorem tf93_1 : tfield Try.prog 93 1 = some (1, 3) := by kernel_rfl
theorem tf93_2 : tfield Try.prog 93 2 = some (2, 92) := by kernel_rfl
theorem tz93 : tzero Try.prog 93 = some (.agg #[.slice none 0 0, .int .i64 0, .int .u64 0]) := by kernel_rfl
theorem ts94 : tsz Try.prog 94 = 3 := by kernel_rfl
theorem tb94 : tby Try.prog 94 = 40 := by kernel_rfl
theorem ta94 : tagg Try.prog 94 = some true := by kernel_rfl
theorem tc94 : Try.prog.cellsOf 94 = 3 := by kernel_rfl
theorem tB94 : Try.prog.bytesOf 94 = 40 := by kernel_rfl
theorem ti94 : (Try.prog.info? 94).isSome = true := by kernel_rfl
theorem tf94_0 : tfield Try.prog 94 0 = some (0, 52) := by kernel_rfl
theorem tf94_1 : tfield Try.prog 94 1 = some (1, 3) := by kernel_rfl
theorem tf94_2 : tfield Try.prog 94 2 = some (2, 92) := by kernel_rfl
theorem tz94 : tzero Try.prog 94 = some (.agg #[.slice none 0 0, .int .i64 0, .int .u64 0]) := by kernel_rfl
theorem ts103 : tsz Try.prog 103 = 2 := by kernel_rfl
theorem tb103 : tby Try.prog 103 = 24 := by kernel_rfl
theorem ta103 : tagg Try.prog 103 = some true := by kernel_rfl
theorem tc103 : Try.prog.cellsOf 103 = 2 := by kernel_rfl
theorem tB103 : Try.prog.bytesOf 103 = 24 := by kernel_rfl
theorem ti103 : (Try.prog.info? 103).isSome = true := by kernel_rfl
theorem tf103_0 : tfield Try.prog 103 0 = some (0, 3) := by kernel_rfl
theorem tf103_1 : tfield Try.prog 103 1 = some (1, 9) := by kernel_rfl
theorem tz103 : tzero Try.prog 103 = some (.agg #[.int .i64 0, .string ByteArray.empty]) := by kernel_rfl
theorem ts115 : tsz Try.prog 115 = 1 := by kernel_rfl
theorem tb115 : tby Try.prog 115 = 24 := by kernel_rfl
theorem ta115 : tagg Try.prog 115 = some false := by kernel_rfl
theorem tc115 : Try.prog.cellsOf 115 = 1 := by kernel_rfl
theorem tB115 : Try.prog.bytesOf 115 = 24 := by kernel_rfl
theorem ti115 : (Try.prog.info? 115).isSome = true := by kernel_rfl
theorem te115 : telem Try.prog 115 = some 3 := by kernel_rfl
theorem tz115 : tzero Try.prog 115 = some (.slice none 0 0) := by kernel_rfl
theorem ts117 : tsz Try.prog 117 = 1 := by kernel_rfl
theorem tb117 : tby Try.prog 117 = 8 := by kernel_rfl
theorem ta117 : tagg Try.prog 117 = some false := by kernel_rfl
theorem tc117 : Try.prog.cellsOf 117 = 1 := by kernel_rfl
theorem tB117 : Try.prog.bytesOf 117 = 8 := by kernel_rfl
theorem ti117 : (Try.prog.info? 117).isSome = true := by kernel_rfl
theorem tz117 : tzero Try.prog 117 = some (.int .u64 0) := by kernel_rfl
theorem ts121 : tsz Try.prog 121 = 1 := by kernel_rfl
theorem tb121 : tby Try.prog 121 = 8 := by kernel_rfl
theorem ta121 : tagg Try.prog 121 = some false := by kernel_rfl
theorem tc121 : Try.prog.cellsOf 121 = 1 := by kernel_rfl
theorem tB121 : Try.prog.bytesOf 121 = 8 := by kernel_rfl
theorem ti121 : (Try.prog.info? 121).isSome = true := by kernel_rfl
theorem tz121 : tzero Try.prog 121 = some (.pointer none) := by kernel_rfl
theorem ts122 : tsz Try.prog 122 = 2 := by kernel_rfl
theorem tb122 : tby Try.prog 122 = 32 := by kernel_rfl
theorem ta122 : tagg Try.prog 122 = some true := by kernel_rfl
theorem tc122 : Try.prog.cellsOf 122 = 2 := by kernel_rfl
theorem tB122 : Try.prog.bytesOf 122 = 32 := by kernel_rfl
theorem ti122 : (Try.prog.info? 122).isSome = true := by kernel_rfl
theorem tf122_0 : tfield Try.prog 122 0 = some (0, 121) := by kernel_rfl
theorem tf122_1 : tfield Try.prog 122 1 = some (1, 52) := by kernel_rfl
theorem tz122 : tzero Try.prog 122 = some (.agg #[.pointer none, .slice none 0 0]) := by kernel_rfl
theorem ts123 : tsz Try.prog 123 = 2 := by kernel_rfl
theorem tb123 : tby Try.prog 123 = 32 := by kernel_rfl
theorem ta123 : tagg Try.prog 123 = some true := by kernel_rfl
theorem tc123 : Try.prog.cellsOf 123 = 2 := by kernel_rfl
theorem tB123 : Try.prog.bytesOf 123 = 32 := by kernel_rfl
theorem ti123 : (Try.prog.info? 123).isSome = true := by kernel_rfl
theorem tf123_0 : tfield Try.prog 123 0 = some (0, 121) := by kernel_rfl
theorem tf123_1 : tfield Try.prog 123 1 = some (1, 52) := by kernel_rfl
theorem tz123 : tzero Try.prog 123 = some (.agg #[.pointer none, .slice none 0 0]) := by kernel_rfl
theorem ts129 : tsz Try.prog 129 = 1 := by kernel_rfl
theorem tb129 : tby Try.prog 129 = 4 := by kernel_rfl
theorem ta129 : tagg Try.prog 129 = some false := by kernel_rfl
theorem tc129 : Try.prog.cellsOf 129 = 1 := by kernel_rfl
theorem tB129 : Try.prog.bytesOf 129 = 4 := by kernel_rfl
theorem ti129 : (Try.prog.info? 129).isSome = true := by kernel_rfl
theorem tz129 : tzero Try.prog 129 = some (.int .u32 0) := by kernel_rfl
theorem ts134 : tsz Try.prog 134 = 1 := by kernel_rfl
theorem tb134 : tby Try.prog 134 = 8 := by kernel_rfl
theorem ta134 : tagg Try.prog 134 = some false := by kernel_rfl
theorem tc134 : Try.prog.cellsOf 134 = 1 := by kernel_rfl
theorem tB134 : Try.prog.bytesOf 134 = 8 := by kernel_rfl
theorem ti134 : (Try.prog.info? 134).isSome = true := by kernel_rfl
theorem tz134 : tzero Try.prog 134 = some (.pointer none) := by kernel_rfl
theorem ts138 : tsz Try.prog 138 = 4 := by kernel_rfl
theorem tb138 : tby Try.prog 138 = 40 := by kernel_rfl
theorem ta138 : tagg Try.prog 138 = some true := by kernel_rfl
theorem tc138 : Try.prog.cellsOf 138 = 4 := by kernel_rfl
theorem tB138 : Try.prog.bytesOf 138 = 40 := by kernel_rfl
theorem ti138 : (Try.prog.info? 138).isSome = true := by kernel_rfl
theorem tf138_0 : tfield Try.prog 138 0 = some (0, 17) := by kernel_rfl
theorem tf138_1 : tfield Try.prog 138 1 = some (1, 17) := by kernel_rfl
theorem tf138_2 : tfield Try.prog 138 2 = some (2, 17) := by kernel_rfl
theorem tf138_3 : tfield Try.prog 138 3 = some (3, 9) := by kernel_rfl
theorem tz138 : tzero Try.prog 138 = some (.agg #[.pointer none, .pointer none, .pointer none, .string ByteArray.empty]) := by kernel_rfl
theorem ts139 : tsz Try.prog 139 = 4 := by kernel_rfl
theorem tb139 : tby Try.prog 139 = 40 := by kernel_rfl
theorem ta139 : tagg Try.prog 139 = some true := by kernel_rfl
theorem tc139 : Try.prog.cellsOf 139 = 4 := by kernel_rfl
theorem tB139 : Try.prog.bytesOf 139 = 40 := by kernel_rfl
theorem ti139 : (Try.prog.info? 139).isSome = true := by kernel_rfl
theorem tf139_0 : tfield Try.prog 139 0 = some (0, 17) := by kernel_rfl
theorem tf139_1 : tfield Try.prog 139 1 = some (1, 17) := by kernel_rfl
theorem tf139_2 : tfield Try.prog 139 2 = some (2, 17) := by kernel_rfl
theorem tf139_3 : tfield Try.prog 139 3 = some (3, 9) := by kernel_rfl
theorem tz139 : tzero Try.prog 139 = some (.agg #[.pointer none, .pointer none, .pointer none, .string ByteArray.empty]) := by kernel_rfl
theorem ts141 : tsz Try.prog 141 = 0 := by kernel_rfl
theorem tb141 : tby Try.prog 141 = 0 := by kernel_rfl
theorem ta141 : tagg Try.prog 141 = some true := by kernel_rfl
theorem tc141 : Try.prog.cellsOf 141 = 0 := by kernel_rfl
theorem tB141 : Try.prog.bytesOf 141 = 0 := by kernel_rfl
theorem ti141 : (Try.prog.info? 141).isSome = true := by kernel_rfl
theorem tf141_0 : tfield Try.prog 141 0 = some (0, 140) := by kernel_rfl
theorem ts142 : tsz Try.prog 142 = 0 := by kernel_rfl
theorem tb142 : tby Try.prog 142 = 0 := by kernel_rfl
theorem ta142 : tagg Try.prog 142 = some true := by kernel_rfl
theorem tc142 : Try.prog.cellsOf 142 = 0 := by kernel_rfl
theorem tB142 : Try.prog.bytesOf 142 = 0 := by kernel_rfl
theorem ti142 : (Try.prog.info? 142).isSome = true := by kernel_rfl
theorem tf142_0 : tfield Try.prog 142 0 = some (0, 140) := by kernel_rfl
theorem ts143 : tsz Try.prog 143 = 1 := by kernel_rfl
theorem tb143 : tby Try.prog 143 = 1 := by kernel_rfl
theorem ta143 : tagg Try.prog 143 = some false := by kernel_rfl
theorem tc143 : Try.prog.cellsOf 143 = 1 := by kernel_rfl
theorem tB143 : Try.prog.bytesOf 143 = 1 := by kernel_rfl
theorem ti143 : (Try.prog.info? 143).isSome = true := by kernel_rfl
theorem tz143 : tzero Try.prog 143 = some (.int .u8 0) := by kernel_rfl
theorem ts144 : tsz Try.prog 144 = 1 := by kernel_rfl
theorem tb144 : tby Try.prog 144 = 1 := by kernel_rfl
theorem ta144 : tagg Try.prog 144 = some false := by kernel_rfl
theorem tc144 : Try.prog.cellsOf 144 = 1 := by kernel_rfl
theorem tB144 : Try.prog.bytesOf 144 = 1 := by kernel_rfl
theorem ti144 : (Try.prog.info? 144).isSome = true := by kernel_rfl
theorem tz144 : tzero Try.prog 144 = some (.int .u8 0) := by kernel_rfl
theorem ts146 : tsz Try.prog 146 = 1 := by kernel_rfl
theorem tb146 : tby Try.prog 146 = 4 := by kernel_rfl
theorem ta146 : tagg Try.prog 146 = some false := by kernel_rfl
theorem tc146 : Try.prog.cellsOf 146 = 1 := by kernel_rfl
theorem tB146 : Try.prog.bytesOf 146 = 4 := by kernel_rfl
theorem ti146 : (Try.prog.info? 146).isSome = true := by kernel_rfl
theorem tz146 : tzero Try.prog 146 = some (.int .i32 0) := by kernel_rfl
theorem ts147 : tsz Try.prog 147 = 1 := by kernel_rfl
theorem tb147 : tby Try.prog 147 = 4 := by kernel_rfl
theorem ta147 : tagg Try.prog 147 = some false := by kernel_rfl
theorem tc147 : Try.prog.cellsOf 147 = 1 := by kernel_rfl
theorem tB147 : Try.prog.bytesOf 147 = 4 := by kernel_rfl
theorem ti147 : (Try.prog.info? 147).isSome = true := by kernel_rfl
theorem tz147 : tzero Try.prog 147 = some (.int .i32 0) := by kernel_rfl
theorem ts148 : tsz Try.prog 148 = 11 := by kernel_rfl
theorem tb148 : tby Try.prog 148 = 48 := by kernel_rfl
theorem ta148 : tagg Try.prog 148 = some true := by kernel_rfl
theorem tc148 : Try.prog.cellsOf 148 = 11 := by kernel_rfl
theorem tB148 : Try.prog.bytesOf 148 = 48 := by kernel_rfl
theorem ti148 : (Try.prog.info? 148).isSome = true := by kernel_rfl
theorem tf148_0 : tfield Try.prog 148 0 = some (0, 12) := by kernel_rfl
theorem tf148_1 : tfield Try.prog 148 1 = some (1, 12) := by kernel_rfl
theorem tf148_2 : tfield Try.prog 148 2 = some (2, 129) := by kernel_rfl
theorem tf148_3 : tfield Try.prog 148 3 = some (3, 143) := by kernel_rfl
theorem tf148_4 : tfield Try.prog 148 4 = some (4, 5) := by kernel_rfl
theorem tf148_5 : tfield Try.prog 148 5 = some (5, 5) := by kernel_rfl
theorem tf148_6 : tfield Try.prog 148 6 = some (6, 144) := by kernel_rfl
theorem tf148_7 : tfield Try.prog 148 7 = some (7, 145) := by kernel_rfl
theorem tf148_8 : tfield Try.prog 148 8 = some (8, 134) := by kernel_rfl
theorem tf148_9 : tfield Try.prog 148 9 = some (9, 146) := by kernel_rfl
theorem tf148_10 : tfield Try.prog 148 10 = some (10, 147) := by kernel_rfl
theorem ts149 : tsz Try.prog 149 = 11 := by kernel_rfl
theorem tb149 : tby Try.prog 149 = 48 := by kernel_rfl
theorem ta149 : tagg Try.prog 149 = some true := by kernel_rfl
theorem tc149 : Try.prog.cellsOf 149 = 11 := by kernel_rfl
theorem tB149 : Try.prog.bytesOf 149 = 48 := by kernel_rfl
theorem ti149 : (Try.prog.info? 149).isSome = true := by kernel_rfl
theorem tf149_0 : tfield Try.prog 149 0 = some (0, 12) := by kernel_rfl
theorem tf149_1 : tfield Try.prog 149 1 = some (1, 12) := by kernel_rfl
theorem tf149_2 : tfield Try.prog 149 2 = some (2, 129) := by kernel_rfl
theorem tf149_3 : tfield Try.prog 149 3 = some (3, 143) := by kernel_rfl
theorem tf149_4 : tfield Try.prog 149 4 = some (4, 5) := by kernel_rfl
theorem tf149_5 : tfield Try.prog 149 5 = some (5, 5) := by kernel_rfl
theorem tf149_6 : tfield Try.prog 149 6 = some (6, 144) := by kernel_rfl
theorem tf149_7 : tfield Try.prog 149 7 = some (7, 145) := by kernel_rfl
theorem tf149_8 : tfield Try.prog 149 8 = some (8, 134) := by kernel_rfl
theorem tf149_9 : tfield Try.prog 149 9 = some (9, 146) := by kernel_rfl
theorem tf149_10 : tfield Try.prog 149 10 = some (10, 147) := by kernel_rfl
attribute [simp] ts2 tb2 ta2 tc2 tB2 ti2 tz2 ts3 tb3 ta3 tc3 tB3 ti3 tz3 ts4 tb4 ta4 tc4 tB4 ti4 tz4 ts5 tb5 ta5 tc5 tB5 ti5 tz5 ts6 tb6 ta6 tc6 tB6 ti6 tz6 ts7 tb7 ta7 tc7 tB7 ti7 tf7_0 tf7_1 tf7_2 tf7_3 tz7 ts8 tb8 ta8 tc8 tB8 ti8 tf8_0 tf8_1 tf8_2 tf8_3 tz8 ts9 tb9 ta9 tc9 tB9 ti9 tz9 ts10 tb10 ta10 tc10 tB10 ti10 tz10 ts11 tb11 ta11 tc11 tB11 ti11 tz11 ts12 tb12 ta12 tc12 tB12 ti12 tz12 ts13 tb13 ta13 tc13 tB13 ti13 tf13_0 tf13_1 tz13 ts14 tb14 ta14 tc14 tB14 ti14 tf14_0 tf14_1 tz14 ts15 tb15 ta15 tc15 tB15 ti15 tz15 ts16 tb16 ta16 tc16 tB16 ti16 tz16 ts17 tb17 ta17 tc17 tB17 ti17 tz17 ts18 tb18 ta18 tc18 tB18 ti18 tf18_0 tz18 ts19 tb19 ta19 tc19 tB19 ti19 tf19_0 tz19 ts21 tb21 ta21 tc21 tB21 ti21 tz21 ts22 tb22 ta22 tc22 tB22 ti22 te22 tz22 ts23 tb23 ta23 tc23 tB23 ti23 te23 tz23 ts24 tb24 ta24 tc24 tB24 ti24 tf24_0 tf24_1 tz24 ts25 tb25 ta25 tc25 tB25 ti25 tf25_0 tf25_1 tz25 ts28 tb28 ta28 tc28 tB28 ti28 te28 tz28 ts29 tb29 ta29 tc29 tB29 ti29 tf29_0 tf29_1 tz29 ts30 tb30 ta30 tc30 tB30 ti30 tf30_0 tf30_1 tz30 ts41 tb41 ta41 tc41 tB41 ti41 te41 tz41 ts52 tb52 ta52 tc52 tB52 ti52 te52 tz52 ts65 tb65 ta65 tc65 tB65 ti65 tf65_0 tf65_1 tz65 ts66 tb66 ta66 tc66 tB66 ti66 tf66_0 tf66_1 tz66 ts91 tb91 ta91 tc91 tB91 ti91 tz91 ts92 tb92 ta92 tc92 tB92 ti92 tz92 ts93 tb93 ta93 tc93 tB93 ti93 tf93_0 tf93_1 tf93_2 tz93 ts94 tb94 ta94 tc94 tB94 ti94 tf94_0 tf94_1 tf94_2 tz94 ts103 tb103 ta103 tc103 tB103 ti103 tf103_0 tf103_1 tz103 ts115 tb115 ta115 tc115 tB115 ti115 te115 tz115 ts117 tb117 ta117 tc117 tB117 ti117 tz117 ts121 tb121 ta121 tc121 tB121 ti121 tz121 ts122 tb122 ta122 tc122 tB122 ti122 tf122_0 tf122_1 tz122 ts123 tb123 ta123 tc123 tB123 ti123 tf123_0 tf123_1 tz123 ts129 tb129 ta129 tc129 tB129 ti129 tz129 ts134 tb134 ta134 tc134 tB134 ti134 tz134 ts138 tb138 ta138 tc138 tB138 ti138 tf138_0 tf138_1 tf138_2 tf138_3 tz138 ts139 tb139 ta139 tc139 tB139 ti139 tf139_0 tf139_1 tf139_2 tf139_3 tz139 ts141 tb141 ta141 tc141 tB141 ti141 tf141_0 ts142 tb142 ta142 tc142 tB142 ti142 tf142_0 ts143 tb143 ta143 tc143 tB143 ti143 tz143 ts144 tb144 ta144 tc144 tB144 ti144 tz144 ts146 tb146 ta146 tc146 tB146 ti146 tz146 ts147 tb147 ta147 tc147 tB147 ti147 tz147 ts148 tb148 ta148 tc148 tB148 ti148 tf148_0 tf148_1 tf148_2 tf148_3 tf148_4 tf148_5 tf148_6 tf148_7 tf148_8 tf148_9 tf148_10 ts149 tb149 ta149 tc149 tB149 ti149 tf149_0 tf149_1 tf149_2 tf149_3 tf149_4 tf149_5 tf149_6 tf149_7 tf149_8 tf149_9 tf149_10
end Go.V
