/- Facts on the types of the seat's program, each by reckoning. No conditions. -/
import Derived.Test.YtfooiclnbkchmaaVf
import Derived.Test.YtfooiclnbkchmaaProg
set_option linter.all false
namespace Go.V
open Go.Proofs
set_option maxRecDepth 10000
theorem h0 : tsz Try.prog nilE = 0 := by kernel_rfl
theorem hm : Try.prog.follows .mixedOrders = true := by kernel_rfl
theorem ts2 : tsz Try.prog 2 = 1 := by kernel_rfl
theorem tb2 : tby Try.prog 2 = 8 := by kernel_rfl
theorem ta2 : tagg Try.prog 2 = some false := by kernel_rfl
theorem tc2 : Try.prog.cellsOf 2 = 1 := by kernel_rfl
theorem tB2 : Try.prog.bytesOf 2 = 8 := by kernel_rfl
theorem ti2 : (Try.prog.info? 2).isSome = true := by kernel_rfl
theorem tz2 : tzero Try.prog 2 = some (.int .i64 0) := by kernel_rfl
theorem ts3 : tsz Try.prog 3 = 1 := by kernel_rfl
theorem tb3 : tby Try.prog 3 = 8 := by kernel_rfl
theorem ta3 : tagg Try.prog 3 = some false := by kernel_rfl
theorem tc3 : Try.prog.cellsOf 3 = 1 := by kernel_rfl
theorem tB3 : Try.prog.bytesOf 3 = 8 := by kernel_rfl
theorem ti3 : (Try.prog.info? 3).isSome = true := by kernel_rfl
theorem tz3 : tzero Try.prog 3 = some (.int .i64 0) := by kernel_rfl
theorem ts4 : tsz Try.prog 4 = 1 := by kernel_rfl
theorem tb4 : tby Try.prog 4 = 1 := by kernel_rfl
theorem ta4 : tagg Try.prog 4 = some false := by kernel_rfl
theorem tc4 : Try.prog.cellsOf 4 = 1 := by kernel_rfl
theorem tB4 : Try.prog.bytesOf 4 = 1 := by kernel_rfl
theorem ti4 : (Try.prog.info? 4).isSome = true := by kernel_rfl
theorem tz4 : tzero Try.prog 4 = some (.bool false) := by kernel_rfl
theorem ts5 : tsz Try.prog 5 = 1 := by kernel_rfl
theorem tb5 : tby Try.prog 5 = 1 := by kernel_rfl
theorem ta5 : tagg Try.prog 5 = some false := by kernel_rfl
theorem tc5 : Try.prog.cellsOf 5 = 1 := by kernel_rfl
theorem tB5 : Try.prog.bytesOf 5 = 1 := by kernel_rfl
theorem ti5 : (Try.prog.info? 5).isSome = true := by kernel_rfl
theorem tz5 : tzero Try.prog 5 = some (.int .u8 0) := by kernel_rfl
theorem ts6 : tsz Try.prog 6 = 1 := by kernel_rfl
theorem tb6 : tby Try.prog 6 = 1 := by kernel_rfl
theorem ta6 : tagg Try.prog 6 = some false := by kernel_rfl
theorem tc6 : Try.prog.cellsOf 6 = 1 := by kernel_rfl
theorem tB6 : Try.prog.bytesOf 6 = 1 := by kernel_rfl
theorem ti6 : (Try.prog.info? 6).isSome = true := by kernel_rfl
theorem tz6 : tzero Try.prog 6 = some (.int .u8 0) := by kernel_rfl
theorem ts7 : tsz Try.prog 7 = 4 := by kernel_rfl
theorem tb7 : tby Try.prog 7 = 24 := by kernel_rfl
theorem ta7 : tagg Try.prog 7 = some true := by kernel_rfl
theorem tc7 : Try.prog.cellsOf 7 = 4 := by kernel_rfl
theorem tB7 : Try.prog.bytesOf 7 = 24 := by kernel_rfl
theorem ti7 : (Try.prog.info? 7).isSome = true := by kernel_rfl
theorem tf7_0 : tfield Try.prog 7 0 = some (0, 2) := by kernel_rfl
theorem tf7_1 : tfield Try.prog 7 1 = some (1, 3) := by kernel_rfl
theorem tf7_2 : tfield Try.prog 7 2 = some (2, 4) := by kernel_rfl
theorem tf7_3 : tfield Try.prog 7 3 = some (3, 6) := by kernel_rfl
theorem tz7 : tzero Try.prog 7 = some (.agg #[.int .i64 0, .int .i64 0, .bool false, .int .u8 0]) := by kernel_rfl
theorem ts8 : tsz Try.prog 8 = 4 := by kernel_rfl
theorem tb8 : tby Try.prog 8 = 24 := by kernel_rfl
theorem ta8 : tagg Try.prog 8 = some true := by kernel_rfl
theorem tc8 : Try.prog.cellsOf 8 = 4 := by kernel_rfl
theorem tB8 : Try.prog.bytesOf 8 = 24 := by kernel_rfl
theorem ti8 : (Try.prog.info? 8).isSome = true := by kernel_rfl
theorem tf8_0 : tfield Try.prog 8 0 = some (0, 2) := by kernel_rfl
theorem tf8_1 : tfield Try.prog 8 1 = some (1, 3) := by kernel_rfl
theorem tf8_2 : tfield Try.prog 8 2 = some (2, 4) := by kernel_rfl
theorem tf8_3 : tfield Try.prog 8 3 = some (3, 6) := by kernel_rfl
theorem tz8 : tzero Try.prog 8 = some (.agg #[.int .i64 0, .int .i64 0, .bool false, .int .u8 0]) := by kernel_rfl
theorem ts9 : tsz Try.prog 9 = 1 := by kernel_rfl
theorem tb9 : tby Try.prog 9 = 16 := by kernel_rfl
theorem ta9 : tagg Try.prog 9 = some false := by kernel_rfl
theorem tc9 : Try.prog.cellsOf 9 = 1 := by kernel_rfl
theorem tB9 : Try.prog.bytesOf 9 = 16 := by kernel_rfl
theorem ti9 : (Try.prog.info? 9).isSome = true := by kernel_rfl
theorem tz9 : tzero Try.prog 9 = some (.string ByteArray.empty) := by kernel_rfl
theorem ts10 : tsz Try.prog 10 = 1 := by kernel_rfl
theorem tb10 : tby Try.prog 10 = 16 := by kernel_rfl
theorem ta10 : tagg Try.prog 10 = some false := by kernel_rfl
theorem tc10 : Try.prog.cellsOf 10 = 1 := by kernel_rfl
theorem tB10 : Try.prog.bytesOf 10 = 16 := by kernel_rfl
theorem ti10 : (Try.prog.info? 10).isSome = true := by kernel_rfl
theorem tz10 : tzero Try.prog 10 = some (.string ByteArray.empty) := by kernel_rfl
theorem ts11 : tsz Try.prog 11 = 1 := by kernel_rfl
theorem tb11 : tby Try.prog 11 = 16 := by kernel_rfl
theorem ta11 : tagg Try.prog 11 = some false := by kernel_rfl
theorem tc11 : Try.prog.cellsOf 11 = 1 := by kernel_rfl
theorem tB11 : Try.prog.bytesOf 11 = 16 := by kernel_rfl
theorem ti11 : (Try.prog.info? 11).isSome = true := by kernel_rfl
theorem tz11 : tzero Try.prog 11 = some (.string ByteArray.empty) := by kernel_rfl
theorem ts12 : tsz Try.prog 12 = 1 := by kernel_rfl
theorem tb12 : tby Try.prog 12 = 8 := by kernel_rfl
theorem ta12 : tagg Try.prog 12 = some false := by kernel_rfl
theorem tc12 : Try.prog.cellsOf 12 = 1 := by kernel_rfl
theorem tB12 : Try.prog.bytesOf 12 = 8 := by kernel_rfl
theorem ti12 : (Try.prog.info? 12).isSome = true := by kernel_rfl
theorem tz12 : tzero Try.prog 12 = some (.int .u64 0) := by kernel_rfl
theorem ts13 : tsz Try.prog 13 = 2 := by kernel_rfl
theorem tb13 : tby Try.prog 13 = 24 := by kernel_rfl
theorem ta13 : tagg Try.prog 13 = some true := by kernel_rfl
theorem tc13 : Try.prog.cellsOf 13 = 2 := by kernel_rfl
theorem tB13 : Try.prog.bytesOf 13 = 24 := by kernel_rfl
theorem ti13 : (Try.prog.info? 13).isSome = true := by kernel_rfl
theorem tf13_0 : tfield Try.prog 13 0 = some (0, 9) := by kernel_rfl
theorem tf13_1 : tfield Try.prog 13 1 = some (1, 12) := by kernel_rfl
theorem tz13 : tzero Try.prog 13 = some (.agg #[.string ByteArray.empty, .int .u64 0]) := by kernel_rfl
theorem ts14 : tsz Try.prog 14 = 2 := by kernel_rfl
theorem tb14 : tby Try.prog 14 = 24 := by kernel_rfl
theorem ta14 : tagg Try.prog 14 = some true := by kernel_rfl
theorem tc14 : Try.prog.cellsOf 14 = 2 := by kernel_rfl
theorem tB14 : Try.prog.bytesOf 14 = 24 := by kernel_rfl
theorem ti14 : (Try.prog.info? 14).isSome = true := by kernel_rfl
theorem tf14_0 : tfield Try.prog 14 0 = some (0, 9) := by kernel_rfl
theorem tf14_1 : tfield Try.prog 14 1 = some (1, 12) := by kernel_rfl
theorem tz14 : tzero Try.prog 14 = some (.agg #[.string ByteArray.empty, .int .u64 0]) := by kernel_rfl
theorem ts15 : tsz Try.prog 15 = 1 := by kernel_rfl
theorem tb15 : tby Try.prog 15 = 8 := by kernel_rfl
theorem ta15 : tagg Try.prog 15 = some false := by kernel_rfl
theorem tc15 : Try.prog.cellsOf 15 = 1 := by kernel_rfl
theorem tB15 : Try.prog.bytesOf 15 = 8 := by kernel_rfl
theorem ti15 : (Try.prog.info? 15).isSome = true := by kernel_rfl
theorem tz15 : tzero Try.prog 15 = some (.pointer none) := by kernel_rfl
theorem ts16 : tsz Try.prog 16 = 1 := by kernel_rfl
theorem tb16 : tby Try.prog 16 = 8 := by kernel_rfl
theorem ta16 : tagg Try.prog 16 = some false := by kernel_rfl
theorem tc16 : Try.prog.cellsOf 16 = 1 := by kernel_rfl
theorem tB16 : Try.prog.bytesOf 16 = 8 := by kernel_rfl
theorem ti16 : (Try.prog.info? 16).isSome = true := by kernel_rfl
theorem tz16 : tzero Try.prog 16 = some (.pointer none) := by kernel_rfl
theorem ts17 : tsz Try.prog 17 = 1 := by kernel_rfl
theorem tb17 : tby Try.prog 17 = 8 := by kernel_rfl
theorem ta17 : tagg Try.prog 17 = some false := by kernel_rfl
theorem tc17 : Try.prog.cellsOf 17 = 1 := by kernel_rfl
theorem tB17 : Try.prog.bytesOf 17 = 8 := by kernel_rfl
theorem ti17 : (Try.prog.info? 17).isSome = true := by kernel_rfl
theorem tz17 : tzero Try.prog 17 = some (.pointer none) := by kernel_rfl
theorem ts18 : tsz Try.prog 18 = 1 := by kernel_rfl
theorem tb18 : tby Try.prog 18 = 8 := by kernel_rfl
theorem ta18 : tagg Try.prog 18 = some true := by kernel_rfl
theorem tc18 : Try.prog.cellsOf 18 = 1 := by kernel_rfl
theorem tB18 : Try.prog.bytesOf 18 = 8 := by kernel_rfl
theorem ti18 : (Try.prog.info? 18).isSome = true := by kernel_rfl
theorem tf18_0 : tfield Try.prog 18 0 = some (0, 17) := by kernel_rfl
theorem tz18 : tzero Try.prog 18 = some (.agg #[.pointer none]) := by kernel_rfl
theorem ts19 : tsz Try.prog 19 = 1 := by kernel_rfl
theorem tb19 : tby Try.prog 19 = 8 := by kernel_rfl
theorem ta19 : tagg Try.prog 19 = some true := by kernel_rfl
theorem tc19 : Try.prog.cellsOf 19 = 1 := by kernel_rfl
theorem tB19 : Try.prog.bytesOf 19 = 8 := by kernel_rfl
theorem ti19 : (Try.prog.info? 19).isSome = true := by kernel_rfl
theorem tf19_0 : tfield Try.prog 19 0 = some (0, 17) := by kernel_rfl
theorem tz19 : tzero Try.prog 19 = some (.agg #[.pointer none]) := by kernel_rfl
theorem ts21 : tsz Try.prog 21 = 1 := by kernel_rfl
theorem tb21 : tby Try.prog 21 = 4 := by kernel_rfl
theorem ta21 : tagg Try.prog 21 = some false := by kernel_rfl
theorem tc21 : Try.prog.cellsOf 21 = 1 := by kernel_rfl
theorem tB21 : Try.prog.bytesOf 21 = 4 := by kernel_rfl
theorem ti21 : (Try.prog.info? 21).isSome = true := by kernel_rfl
theorem tz21 : tzero Try.prog 21 = some (.int .i32 0) := by kernel_rfl
theorem ts22 : tsz Try.prog 22 = 1 := by kernel_rfl
theorem tb22 : tby Try.prog 22 = 24 := by kernel_rfl
theorem ta22 : tagg Try.prog 22 = some false := by kernel_rfl
theorem tc22 : Try.prog.cellsOf 22 = 1 := by kernel_rfl
theorem tB22 : Try.prog.bytesOf 22 = 24 := by kernel_rfl
theorem ti22 : (Try.prog.info? 22).isSome = true := by kernel_rfl
theorem te22 : telem Try.prog 22 = some 9 := by kernel_rfl
theorem tz22 : tzero Try.prog 22 = some (.slice none 0 0) := by kernel_rfl
theorem ts23 : tsz Try.prog 23 = 1 := by kernel_rfl
theorem tb23 : tby Try.prog 23 = 24 := by kernel_rfl
theorem ta23 : tagg Try.prog 23 = some false := by kernel_rfl
theorem tc23 : Try.prog.cellsOf 23 = 1 := by kernel_rfl
theorem tB23 : Try.prog.bytesOf 23 = 24 := by kernel_rfl
theorem ti23 : (Try.prog.info? 23).isSome = true := by kernel_rfl
theorem te23 : telem Try.prog 23 = some 101 := by kernel_rfl
theorem tz23 : tzero Try.prog 23 = some (.slice none 0 0) := by kernel_rfl
theorem ts24 : tsz Try.prog 24 = 2 := by kernel_rfl
theorem tb24 : tby Try.prog 24 = 48 := by kernel_rfl
theorem ta24 : tagg Try.prog 24 = some true := by kernel_rfl
theorem tc24 : Try.prog.cellsOf 24 = 2 := by kernel_rfl
theorem tB24 : Try.prog.bytesOf 24 = 48 := by kernel_rfl
theorem ti24 : (Try.prog.info? 24).isSome = true := by kernel_rfl
theorem tf24_0 : tfield Try.prog 24 0 = some (0, 22) := by kernel_rfl
theorem tf24_1 : tfield Try.prog 24 1 = some (1, 23) := by kernel_rfl
theorem tz24 : tzero Try.prog 24 = some (.agg #[.slice none 0 0, .slice none 0 0]) := by kernel_rfl
theorem ts25 : tsz Try.prog 25 = 2 := by kernel_rfl
theorem tb25 : tby Try.prog 25 = 48 := by kernel_rfl
theorem ta25 : tagg Try.prog 25 = some true := by kernel_rfl
theorem tc25 : Try.prog.cellsOf 25 = 2 := by kernel_rfl
theorem tB25 : Try.prog.bytesOf 25 = 48 := by kernel_rfl
theorem ti25 : (Try.prog.info? 25).isSome = true := by kernel_rfl
theorem tf25_0 : tfield Try.prog 25 0 = some (0, 22) := by kernel_rfl
theorem tf25_1 : tfield Try.prog 25 1 = some (1, 23) := by kernel_rfl
theorem tz25 : tzero Try.prog 25 = some (.agg #[.slice none 0 0, .slice none 0 0]) := by kernel_rfl
theorem ts29 : tsz Try.prog 29 = 1 := by kernel_rfl
theorem tb29 : tby Try.prog 29 = 24 := by kernel_rfl
theorem ta29 : tagg Try.prog 29 = some false := by kernel_rfl
theorem tc29 : Try.prog.cellsOf 29 = 1 := by kernel_rfl
theorem tB29 : Try.prog.bytesOf 29 = 24 := by kernel_rfl
theorem ti29 : (Try.prog.info? 29).isSome = true := by kernel_rfl
theorem te29 : telem Try.prog 29 = some 61 := by kernel_rfl
theorem tz29 : tzero Try.prog 29 = some (.slice none 0 0) := by kernel_rfl
theorem ts30 : tsz Try.prog 30 = 2 := by kernel_rfl
theorem tb30 : tby Try.prog 30 = 48 := by kernel_rfl
theorem ta30 : tagg Try.prog 30 = some true := by kernel_rfl
theorem tc30 : Try.prog.cellsOf 30 = 2 := by kernel_rfl
theorem tB30 : Try.prog.bytesOf 30 = 48 := by kernel_rfl
theorem ti30 : (Try.prog.info? 30).isSome = true := by kernel_rfl
theorem tf30_0 : tfield Try.prog 30 0 = some (0, 22) := by kernel_rfl
theorem tf30_1 : tfield Try.prog 30 1 = some (1, 29) := by kernel_rfl
theorem tz30 : tzero Try.prog 30 = some (.agg #[.slice none 0 0, .slice none 0 0]) := by kernel_rfl
theorem ts31 : tsz Try.prog 31 = 2 := by kernel_rfl
theorem tb31 : tby Try.prog 31 = 48 := by kernel_rfl
theorem ta31 : tagg Try.prog 31 = some true := by kernel_rfl
theorem tc31 : Try.prog.cellsOf 31 = 2 := by kernel_rfl
theorem tB31 : Try.prog.bytesOf 31 = 48 := by kernel_rfl
theorem ti31 : (Try.prog.info? 31).isSome = true := by kernel_rfl
theorem tf31_0 : tfield Try.prog 31 0 = some (0, 22) := by kernel_rfl
theorem tf31_1 : tfield Try.prog 31 1 = some (1, 29) := by kernel_rfl
theorem tz31 : tzero Try.prog 31 = some (.agg #[.slice none 0 0, .slice none 0 0]) := by kernel_rfl
theorem ts41 : tsz Try.prog 41 = 1 := by kernel_rfl
theorem tb41 : tby Try.prog 41 = 24 := by kernel_rfl
theorem ta41 : tagg Try.prog 41 = some false := by kernel_rfl
theorem tc41 : Try.prog.cellsOf 41 = 1 := by kernel_rfl
theorem tB41 : Try.prog.bytesOf 41 = 24 := by kernel_rfl
theorem ti41 : (Try.prog.info? 41).isSome = true := by kernel_rfl
theorem te41 : telem Try.prog 41 = some 4 := by kernel_rfl
theorem tz41 : tzero Try.prog 41 = some (.slice none 0 0) := by kernel_rfl
theorem ts53 : tsz Try.prog 53 = 1 := by kernel_rfl
theorem tb53 : tby Try.prog 53 = 24 := by kernel_rfl
theorem ta53 : tagg Try.prog 53 = some false := by kernel_rfl
theorem tc53 : Try.prog.cellsOf 53 = 1 := by kernel_rfl
theorem tB53 : Try.prog.bytesOf 53 = 24 := by kernel_rfl
theorem ti53 : (Try.prog.info? 53).isSome = true := by kernel_rfl
theorem te53 : telem Try.prog 53 = some 5 := by kernel_rfl
theorem tz53 : tzero Try.prog 53 = some (.slice none 0 0) := by kernel_rfl
theorem ts60 : tsz Try.prog 60 = 2 := by kernel_rfl
theorem tb60 : tby Try.prog 60 = 24 := by kernel_rfl
theorem ta60 : tagg Try.prog 60 = some true := by kernel_rfl
theorem tc60 : Try.prog.cellsOf 60 = 2 := by kernel_rfl
theorem tB60 : Try.prog.bytesOf 60 = 24 := by kernel_rfl
theorem ti60 : (Try.prog.info? 60).isSome = true := by kernel_rfl
theorem tf60_0 : tfield Try.prog 60 0 = some (0, 3) := by kernel_rfl
theorem tf60_1 : tfield Try.prog 60 1 = some (1, 9) := by kernel_rfl
theorem tz60 : tzero Try.prog 60 = some (.agg #[.int .i64 0, .string ByteArray.empty]) := by kernel_rfl
theorem ts61 : tsz Try.prog 61 = 2 := by kernel_rfl
theorem tb61 : tby Try.prog 61 = 24 := by kernel_rfl
theorem ta61 : tagg Try.prog 61 = some true := by kernel_rfl
theorem tc61 : Try.prog.cellsOf 61 = 2 := by kernel_rfl
theorem tB61 : Try.prog.bytesOf 61 = 24 := by kernel_rfl
theorem ti61 : (Try.prog.info? 61).isSome = true := by kernel_rfl
theorem tf61_0 : tfield Try.prog 61 0 = some (0, 3) := by kernel_rfl
theorem tf61_1 : tfield Try.prog 61 1 = some (1, 9) := by kernel_rfl
theorem tz61 : tzero Try.prog 61 = some (.agg #[.int .i64 0, .string ByteArray.empty]) := by kernel_rfl
theorem ts85 : tsz Try.prog 85 = 1 := by kernel_rfl
theorem tb85 : tby Try.prog 85 = 8 := by kernel_rfl
theorem ta85 : tagg Try.prog 85 = some false := by kernel_rfl
theorem tc85 : Try.prog.cellsOf 85 = 1 := by kernel_rfl
theorem tB85 : Try.prog.bytesOf 85 = 8 := by kernel_rfl
theorem ti85 : (Try.prog.info? 85).isSome = true := by kernel_rfl
theorem tz85 : tzero Try.prog 85 = some (.pointer none) := by kernel_rfl
theorem ts86 : tsz Try.prog 86 = 1 := by kernel_rfl
theorem tb86 : tby Try.prog 86 = 8 := by kernel_rfl
theorem ta86 : tagg Try.prog 86 = some false := by kernel_rfl
theorem tc86 : Try.prog.cellsOf 86 = 1 := by kernel_rfl
theorem tB86 : Try.prog.bytesOf 86 = 8 := by kernel_rfl
theorem ti86 : (Try.prog.info? 86).isSome = true := by kernel_rfl
theorem tz86 : tzero Try.prog 86 = some (.int .u64 0) := by kernel_rfl
theorem ts87 : tsz Try.prog 87 = 3 := by kernel_rfl
theorem tb87 : tby Try.prog 87 = 40 := by kernel_rfl
theorem ta87 : tagg Try.prog 87 = some true := by kernel_rfl
theorem tc87 : Try.prog.cellsOf 87 = 3 := by kernel_rfl
theorem tB87 : Try.prog.bytesOf 87 = 40 := by kernel_rfl
theorem ti87 : (Try.prog.info? 87).isSome = true := by kernel_rfl
theorem tf87_0 : tfield Try.prog 87 0 = some (0, 53) := by kernel_rfl
theorem tf87_1 : tfield Try.prog 87 1 = some (1, 3) := by kernel_rfl
theorem tf87_2 : tfield Try.prog 87 2 = some (2, 86) := by kernel_rfl
theorem tz87 : tzero Try.prog 87 = some (.agg #[.slice none 0 0, .int .i64 0, .int .u64 0]) := by kernel_rfl
theorem ts88 : tsz Try.prog 88 = 3 := by kernel_rfl
theorem tb88 : tby Try.prog 88 = 40 := by kernel_rfl
theorem ta88 : tagg Try.prog 88 = some true := by kernel_rfl
theorem tc88 : Try.prog.cellsOf 88 = 3 := by kernel_rfl
theorem tB88 : Try.prog.bytesOf 88 = 40 := by kernel_rfl
theorem ti88 : (Try.prog.info? 88).isSome = true := by kernel_rfl
theorem tf88_0 : tfield Try.prog 88 0 = some (0, 53) := by kernel_rfl
theorem tf88_1 : tfield Try.prog 88 1 = some (1, 3) := by kernel_rfl
theorem tf88_2 : tfield Try.prog 88 2 = some (2, 86) := by kernel_rfl
theorem tz88 : tzero Try.prog 88 = some (.agg #[.slice none 0 0, .int .i64 0, .int .u64 0]) := by kernel_rfl
theorem ts101 : tsz Try.prog 101 = 2 := by kernel_rfl
theorem tb101 : tby Try.prog 101 = 24 := by kernel_rfl
theorem ta101 : tagg Try.prog 101 = some true := by kernel_rfl
theorem tc101 : Try.prog.cellsOf 101 = 2 := by kernel_rfl
theorem tB101 : Try.prog.bytesOf 101 = 24 := by kernel_rfl
theorem ti101 : (Try.prog.info? 101).isSome = true := by kernel_rfl
theorem tf101_0 : tfield Try.prog 101 0 = some (0, 3) := by kernel_rfl
theorem tf101_1 : tfield Try.prog 101 1 = some (1, 9) := by kernel_rfl
theorem tz101 : tzero Try.prog 101 = some (.agg #[.int .i64 0, .string ByteArray.empty]) := by kernel_rfl
theorem ts113 : tsz Try.prog 113 = 1 := by kernel_rfl
theorem tb113 : tby Try.prog 113 = 24 := by kernel_rfl
theorem ta113 : tagg Try.prog 113 = some false := by kernel_rfl
theorem tc113 : Try.prog.cellsOf 113 = 1 := by kernel_rfl
theorem tB113 : Try.prog.bytesOf 113 = 24 := by kernel_rfl
theorem ti113 : (Try.prog.info? 113).isSome = true := by kernel_rfl
theorem te113 : telem Try.prog 113 = some 3 := by kernel_rfl
theorem tz113 : tzero Try.prog 113 = some (.slice none 0 0) := by kernel_rfl
theorem ts115 : tsz Try.prog 115 = 1 := by kernel_rfl
theorem tb115 : tby Try.prog 115 = 8 := by kernel_rfl
theorem ta115 : tagg Try.prog 115 = some false := by kernel_rfl
theorem tc115 : Try.prog.cellsOf 115 = 1 := by kernel_rfl
theorem tB115 : Try.prog.bytesOf 115 = 8 := by kernel_rfl
theorem ti115 : (Try.prog.info? 115).isSome = true := by kernel_rfl
theorem tz115 : tzero Try.prog 115 = some (.int .u64 0) := by kernel_rfl
theorem ts119 : tsz Try.prog 119 = 1 := by kernel_rfl
theorem tb119 : tby Try.prog 119 = 8 := by kernel_rfl
theorem ta119 : tagg Try.prog 119 = some false := by kernel_rfl
theorem tc119 : Try.prog.cellsOf 119 = 1 := by kernel_rfl
theorem tB119 : Try.prog.bytesOf 119 = 8 := by kernel_rfl
theorem ti119 : (Try.prog.info? 119).isSome = true := by kernel_rfl
theorem tz119 : tzero Try.prog 119 = some (.pointer none) := by kernel_rfl
theorem ts120 : tsz Try.prog 120 = 2 := by kernel_rfl
theorem tb120 : tby Try.prog 120 = 32 := by kernel_rfl
theorem ta120 : tagg Try.prog 120 = some true := by kernel_rfl
theorem tc120 : Try.prog.cellsOf 120 = 2 := by kernel_rfl
theorem tB120 : Try.prog.bytesOf 120 = 32 := by kernel_rfl
theorem ti120 : (Try.prog.info? 120).isSome = true := by kernel_rfl
theorem tf120_0 : tfield Try.prog 120 0 = some (0, 119) := by kernel_rfl
theorem tf120_1 : tfield Try.prog 120 1 = some (1, 53) := by kernel_rfl
theorem tz120 : tzero Try.prog 120 = some (.agg #[.pointer none, .slice none 0 0]) := by kernel_rfl
theorem ts121 : tsz Try.prog 121 = 2 := by kernel_rfl
theorem tb121 : tby Try.prog 121 = 32 := by kernel_rfl
theorem ta121 : tagg Try.prog 121 = some true := by kernel_rfl
theorem tc121 : Try.prog.cellsOf 121 = 2 := by kernel_rfl
theorem tB121 : Try.prog.bytesOf 121 = 32 := by kernel_rfl
theorem ti121 : (Try.prog.info? 121).isSome = true := by kernel_rfl
theorem tf121_0 : tfield Try.prog 121 0 = some (0, 119) := by kernel_rfl
theorem tf121_1 : tfield Try.prog 121 1 = some (1, 53) := by kernel_rfl
theorem tz121 : tzero Try.prog 121 = some (.agg #[.pointer none, .slice none 0 0]) := by kernel_rfl
theorem ts127 : tsz Try.prog 127 = 1 := by kernel_rfl
theorem tb127 : tby Try.prog 127 = 4 := by kernel_rfl
theorem ta127 : tagg Try.prog 127 = some false := by kernel_rfl
theorem tc127 : Try.prog.cellsOf 127 = 1 := by kernel_rfl
theorem tB127 : Try.prog.bytesOf 127 = 4 := by kernel_rfl
theorem ti127 : (Try.prog.info? 127).isSome = true := by kernel_rfl
theorem tz127 : tzero Try.prog 127 = some (.int .u32 0) := by kernel_rfl
theorem ts132 : tsz Try.prog 132 = 1 := by kernel_rfl
theorem tb132 : tby Try.prog 132 = 8 := by kernel_rfl
theorem ta132 : tagg Try.prog 132 = some false := by kernel_rfl
theorem tc132 : Try.prog.cellsOf 132 = 1 := by kernel_rfl
theorem tB132 : Try.prog.bytesOf 132 = 8 := by kernel_rfl
theorem ti132 : (Try.prog.info? 132).isSome = true := by kernel_rfl
theorem tz132 : tzero Try.prog 132 = some (.pointer none) := by kernel_rfl
theorem ts136 : tsz Try.prog 136 = 4 := by kernel_rfl
theorem tb136 : tby Try.prog 136 = 40 := by kernel_rfl
theorem ta136 : tagg Try.prog 136 = some true := by kernel_rfl
theorem tc136 : Try.prog.cellsOf 136 = 4 := by kernel_rfl
theorem tB136 : Try.prog.bytesOf 136 = 40 := by kernel_rfl
theorem ti136 : (Try.prog.info? 136).isSome = true := by kernel_rfl
theorem tf136_0 : tfield Try.prog 136 0 = some (0, 17) := by kernel_rfl
theorem tf136_1 : tfield Try.prog 136 1 = some (1, 17) := by kernel_rfl
theorem tf136_2 : tfield Try.prog 136 2 = some (2, 17) := by kernel_rfl
theorem tf136_3 : tfield Try.prog 136 3 = some (3, 9) := by kernel_rfl
theorem tz136 : tzero Try.prog 136 = some (.agg #[.pointer none, .pointer none, .pointer none, .string ByteArray.empty]) := by kernel_rfl
theorem ts137 : tsz Try.prog 137 = 4 := by kernel_rfl
theorem tb137 : tby Try.prog 137 = 40 := by kernel_rfl
theorem ta137 : tagg Try.prog 137 = some true := by kernel_rfl
theorem tc137 : Try.prog.cellsOf 137 = 4 := by kernel_rfl
theorem tB137 : Try.prog.bytesOf 137 = 40 := by kernel_rfl
theorem ti137 : (Try.prog.info? 137).isSome = true := by kernel_rfl
theorem tf137_0 : tfield Try.prog 137 0 = some (0, 17) := by kernel_rfl
theorem tf137_1 : tfield Try.prog 137 1 = some (1, 17) := by kernel_rfl
theorem tf137_2 : tfield Try.prog 137 2 = some (2, 17) := by kernel_rfl
theorem tf137_3 : tfield Try.prog 137 3 = some (3, 9) := by kernel_rfl
theorem tz137 : tzero Try.prog 137 = some (.agg #[.pointer none, .pointer none, .pointer none, .string ByteArray.empty]) := by kernel_rfl
theorem ts139 : tsz Try.prog 139 = 0 := by kernel_rfl
theorem tb139 : tby Try.prog 139 = 0 := by kernel_rfl
theorem ta139 : tagg Try.prog 139 = some true := by kernel_rfl
theorem tc139 : Try.prog.cellsOf 139 = 0 := by kernel_rfl
theorem tB139 : Try.prog.bytesOf 139 = 0 := by kernel_rfl
theorem ti139 : (Try.prog.info? 139).isSome = true := by kernel_rfl
theorem tf139_0 : tfield Try.prog 139 0 = some (0, 138) := by kernel_rfl
theorem ts140 : tsz Try.prog 140 = 0 := by kernel_rfl
theorem tb140 : tby Try.prog 140 = 0 := by kernel_rfl
theorem ta140 : tagg Try.prog 140 = some true := by kernel_rfl
theorem tc140 : Try.prog.cellsOf 140 = 0 := by kernel_rfl
theorem tB140 : Try.prog.bytesOf 140 = 0 := by kernel_rfl
theorem ti140 : (Try.prog.info? 140).isSome = true := by kernel_rfl
theorem tf140_0 : tfield Try.prog 140 0 = some (0, 138) := by kernel_rfl
theorem ts141 : tsz Try.prog 141 = 1 := by kernel_rfl
theorem tb141 : tby Try.prog 141 = 1 := by kernel_rfl
theorem ta141 : tagg Try.prog 141 = some false := by kernel_rfl
theorem tc141 : Try.prog.cellsOf 141 = 1 := by kernel_rfl
theorem tB141 : Try.prog.bytesOf 141 = 1 := by kernel_rfl
theorem ti141 : (Try.prog.info? 141).isSome = true := by kernel_rfl
theorem tz141 : tzero Try.prog 141 = some (.int .u8 0) := by kernel_rfl
theorem ts142 : tsz Try.prog 142 = 1 := by kernel_rfl
theorem tb142 : tby Try.prog 142 = 1 := by kernel_rfl
theorem ta142 : tagg Try.prog 142 = some false := by kernel_rfl
theorem tc142 : Try.prog.cellsOf 142 = 1 := by kernel_rfl
theorem tB142 : Try.prog.bytesOf 142 = 1 := by kernel_rfl
theorem ti142 : (Try.prog.info? 142).isSome = true := by kernel_rfl
theorem tz142 : tzero Try.prog 142 = some (.int .u8 0) := by kernel_rfl
theorem ts144 : tsz Try.prog 144 = 1 := by kernel_rfl
theorem tb144 : tby Try.prog 144 = 4 := by kernel_rfl
theorem ta144 : tagg Try.prog 144 = some false := by kernel_rfl
theorem tc144 : Try.prog.cellsOf 144 = 1 := by kernel_rfl
theorem tB144 : Try.prog.bytesOf 144 = 4 := by kernel_rfl
theorem ti144 : (Try.prog.info? 144).isSome = true := by kernel_rfl
theorem tz144 : tzero Try.prog 144 = some (.int .i32 0) := by kernel_rfl
theorem ts145 : tsz Try.prog 145 = 1 := by kernel_rfl
theorem tb145 : tby Try.prog 145 = 4 := by kernel_rfl
theorem ta145 : tagg Try.prog 145 = some false := by kernel_rfl
theorem tc145 : Try.prog.cellsOf 145 = 1 := by kernel_rfl
theorem tB145 : Try.prog.bytesOf 145 = 4 := by kernel_rfl
theorem ti145 : (Try.prog.info? 145).isSome = true := by kernel_rfl
theorem tz145 : tzero Try.prog 145 = some (.int .i32 0) := by kernel_rfl
theorem ts146 : tsz Try.prog 146 = 11 := by kernel_rfl
theorem tb146 : tby Try.prog 146 = 48 := by kernel_rfl
theorem ta146 : tagg Try.prog 146 = some true := by kernel_rfl
theorem tc146 : Try.prog.cellsOf 146 = 11 := by kernel_rfl
theorem tB146 : Try.prog.bytesOf 146 = 48 := by kernel_rfl
theorem ti146 : (Try.prog.info? 146).isSome = true := by kernel_rfl
theorem tf146_0 : tfield Try.prog 146 0 = some (0, 12) := by kernel_rfl
theorem tf146_1 : tfield Try.prog 146 1 = some (1, 12) := by kernel_rfl
theorem tf146_2 : tfield Try.prog 146 2 = some (2, 127) := by kernel_rfl
theorem tf146_3 : tfield Try.prog 146 3 = some (3, 141) := by kernel_rfl
theorem tf146_4 : tfield Try.prog 146 4 = some (4, 5) := by kernel_rfl
theorem tf146_5 : tfield Try.prog 146 5 = some (5, 5) := by kernel_rfl
theorem tf146_6 : tfield Try.prog 146 6 = some (6, 142) := by kernel_rfl
theorem tf146_7 : tfield Try.prog 146 7 = some (7, 143) := by kernel_rfl
theorem tf146_8 : tfield Try.prog 146 8 = some (8, 132) := by kernel_rfl
theorem tf146_9 : tfield Try.prog 146 9 = some (9, 144) := by kernel_rfl
theorem tf146_10 : tfield Try.prog 146 10 = some (10, 145) := by kernel_rfl
theorem ts147 : tsz Try.prog 147 = 11 := by kernel_rfl
theorem tb147 : tby Try.prog 147 = 48 := by kernel_rfl
theorem ta147 : tagg Try.prog 147 = some true := by kernel_rfl
theorem tc147 : Try.prog.cellsOf 147 = 11 := by kernel_rfl
theorem tB147 : Try.prog.bytesOf 147 = 48 := by kernel_rfl
theorem ti147 : (Try.prog.info? 147).isSome = true := by kernel_rfl
theorem tf147_0 : tfield Try.prog 147 0 = some (0, 12) := by kernel_rfl
theorem tf147_1 : tfield Try.prog 147 1 = some (1, 12) := by kernel_rfl
theorem tf147_2 : tfield Try.prog 147 2 = some (2, 127) := by kernel_rfl
theorem tf147_3 : tfield Try.prog 147 3 = some (3, 141) := by kernel_rfl
theorem tf147_4 : tfield Try.prog 147 4 = some (4, 5) := by kernel_rfl
theorem tf147_5 : tfield Try.prog 147 5 = some (5, 5) := by kernel_rfl
theorem tf147_6 : tfield Try.prog 147 6 = some (6, 142) := by kernel_rfl
theorem tf147_7 : tfield Try.prog 147 7 = some (7, 143) := by kernel_rfl
theorem tf147_8 : tfield Try.prog 147 8 = some (8, 132) := by kernel_rfl
theorem tf147_9 : tfield Try.prog 147 9 = some (9, 144) := by kernel_rfl
theorem tf147_10 : tfield Try.prog 147 10 = some (10, 145) := by kernel_rfl
attribute [simp] ts2 tb2 ta2 tc2 tB2 ti2 tz2 ts3 tb3 ta3 tc3 tB3 ti3 tz3 ts4 tb4 ta4 tc4 tB4 ti4 tz4 ts5 tb5 ta5 tc5 tB5 ti5 tz5 ts6 tb6 ta6 tc6 tB6 ti6 tz6 ts7 tb7 ta7 tc7 tB7 ti7 tf7_0 tf7_1 tf7_2 tf7_3 tz7 ts8 tb8 ta8 tc8 tB8 ti8 tf8_0 tf8_1 tf8_2 tf8_3 tz8 ts9 tb9 ta9 tc9 tB9 ti9 tz9 ts10 tb10 ta10 tc10 tB10 ti10 tz10 ts11 tb11 ta11 tc11 tB11 ti11 tz11 ts12 tb12 ta12 tc12 tB12 ti12 tz12 ts13 tb13 ta13 tc13 tB13 ti13 tf13_0 tf13_1 tz13 ts14 tb14 ta14 tc14 tB14 ti14 tf14_0 tf14_1 tz14 ts15 tb15 ta15 tc15 tB15 ti15 tz15 ts16 tb16 ta16 tc16 tB16 ti16 tz16 ts17 tb17 ta17 tc17 tB17 ti17 tz17 ts18 tb18 ta18 tc18 tB18 ti18 tf18_0 tz18 ts19 tb19 ta19 tc19 tB19 ti19 tf19_0 tz19 ts21 tb21 ta21 tc21 tB21 ti21 tz21 ts22 tb22 ta22 tc22 tB22 ti22 te22 tz22 ts23 tb23 ta23 tc23 tB23 ti23 te23 tz23 ts24 tb24 ta24 tc24 tB24 ti24 tf24_0 tf24_1 tz24 ts25 tb25 ta25 tc25 tB25 ti25 tf25_0 tf25_1 tz25 ts29 tb29 ta29 tc29 tB29 ti29 te29 tz29 ts30 tb30 ta30 tc30 tB30 ti30 tf30_0 tf30_1 tz30 ts31 tb31 ta31 tc31 tB31 ti31 tf31_0 tf31_1 tz31 ts41 tb41 ta41 tc41 tB41 ti41 te41 tz41 ts53 tb53 ta53 tc53 tB53 ti53 te53 tz53 ts60 tb60 ta60 tc60 tB60 ti60 tf60_0 tf60_1 tz60 ts61 tb61 ta61 tc61 tB61 ti61 tf61_0 tf61_1 tz61 ts85 tb85 ta85 tc85 tB85 ti85 tz85 ts86 tb86 ta86 tc86 tB86 ti86 tz86 ts87 tb87 ta87 tc87 tB87 ti87 tf87_0 tf87_1 tf87_2 tz87 ts88 tb88 ta88 tc88 tB88 ti88 tf88_0 tf88_1 tf88_2 tz88 ts101 tb101 ta101 tc101 tB101 ti101 tf101_0 tf101_1 tz101 ts113 tb113 ta113 tc113 tB113 ti113 te113 tz113 ts115 tb115 ta115 tc115 tB115 ti115 tz115 ts119 tb119 ta119 tc119 tB119 ti119 tz119 ts120 tb120 ta120 tc120 tB120 ti120 tf120_0 tf120_1 tz120 ts121 tb121 ta121 tc121 tB121 ti121 tf121_0 tf121_1 tz121 ts127 tb127 ta127 tc127 tB127 ti127 tz127 ts132 tb132 ta132 tc132 tB132 ti132 tz132 ts136 tb136 ta136 tc136 tB136 ti136 tf136_0 tf136_1 tf136_2 tf136_3 tz136 ts137 tb137 ta137 tc137 tB137 ti137 tf137_0 tf137_1 tf137_2 tf137_3 tz137 ts139 tb139 ta139 tc139 tB139 ti139 tf139_0 ts140 tb140 ta140 tc140 tB140 ti140 tf140_0 ts141 tb141 ta141 tc141 tB141 ti141 tz141 ts142 tb142 ta142 tc142 tB142 ti142 tz142 ts144 tb144 ta144 tc144 tB144 ti144 tz144 ts145 tb145 ta145 tc145 tB145 ti145 tz145 ts146 tb146 ta146 tc146 tB146 ti146 tf146_0 tf146_1 tf146_2 tf146_3 tf146_4 tf146_5 tf146_6 tf146_7 tf146_8 tf146_9 tf146_10 ts147 tb147 ta147 tc147 tB147 ti147 tf147_0 tf147_1 tf147_2 tf147_3 tf147_4 tf147_5 tf147_6 tf147_7 tf147_8 tf147_9 tf147_10
end Go.V
