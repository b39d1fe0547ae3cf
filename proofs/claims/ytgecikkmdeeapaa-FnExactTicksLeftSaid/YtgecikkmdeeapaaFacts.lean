/- Facts on the types of the seat's program, each by reckoning. No conditions. -/
import Derived.Test.YtgecikkmdeeapaaVe
import Derived.Test.YtgecikkmdeeapaaProg
set_option linter.all false
namespace Go.V
open Go.Proofs
set_option maxRecDepth 10000
theorem h0 : tsz Try.prog nilE = 0 := by kernel_rfl
theorem hm : Try.prog.follows .mixedOrders = true := by kernel_rfl
theorem ts2 : tsz Try.prog 2 = 1 := by kernel_rfl
theorem tb2 : tby Try.prog 2 = 8 := by kernel_rfl
theorem ta2 : tagg Try.prog 2 = some false := by kernel_rfl
theorem tc2 : Try.prog.cellsOf 2 = 1 := by kernel_rfl
theorem tB2 : Try.prog.bytesOf 2 = 8 := by kernel_rfl
theorem ti2 : (Try.prog.info? 2).isSome = true := by kernel_rfl
theorem tz2 : tzero Try.prog 2 = some (.int .i64 0) := by kernel_rfl
theorem ts3 : tsz Try.prog 3 = 1 := by kernel_rfl
theorem tb3 : tby Try.prog 3 = 8 := by kernel_rfl
theorem ta3 : tagg Try.prog 3 = some false := by kernel_rfl
theorem tc3 : Try.prog.cellsOf 3 = 1 := by kernel_rfl
theorem tB3 : Try.prog.bytesOf 3 = 8 := by kernel_rfl
theorem ti3 : (Try.prog.info? 3).isSome = true := by kernel_rfl
theorem tz3 : tzero Try.prog 3 = some (.int .i64 0) := by kernel_rfl
theorem ts4 : tsz Try.prog 4 = 1 := by kernel_rfl
theorem tb4 : tby Try.prog 4 = 1 := by kernel_rfl
theorem ta4 : tagg Try.prog 4 = some false := by kernel_rfl
theorem tc4 : Try.prog.cellsOf 4 = 1 := by kernel_rfl
theorem tB4 : Try.prog.bytesOf 4 = 1 := by kernel_rfl
theorem ti4 : (Try.prog.info? 4).isSome = true := by kernel_rfl
theorem tz4 : tzero Try.prog 4 = some (.bool false) := by kernel_rfl
theorem ts5 : tsz Try.prog 5 = 1 := by kernel_rfl
theorem tb5 : tby Try.prog 5 = 1 := by kernel_rfl
theorem ta5 : tagg Try.prog 5 = some false := by kernel_rfl
theorem tc5 : Try.prog.cellsOf 5 = 1 := by kernel_rfl
theorem tB5 : Try.prog.bytesOf 5 = 1 := by kernel_rfl
theorem ti5 : (Try.prog.info? 5).isSome = true := by kernel_rfl
theorem tz5 : tzero Try.prog 5 = some (.int .u8 0) := by kernel_rfl
theorem ts6 : tsz Try.prog 6 = 1 := by kernel_rfl
theorem tb6 : tby Try.prog 6 = 1 := by kernel_rfl
theorem ta6 : tagg Try.prog 6 = some false := by kernel_rfl
theorem tc6 : Try.prog.cellsOf 6 = 1 := by kernel_rfl
theorem tB6 : Try.prog.bytesOf 6 = 1 := by kernel_rfl
theorem ti6 : (Try.prog.info? 6).isSome = true := by kernel_rfl
theorem tz6 : tzero Try.prog 6 = some (.int .u8 0) := by kernel_rfl
theorem ts7 : tsz Try.prog 7 = 4 := by kernel_rfl
theorem tb7 : tby Try.prog 7 = 24 := by kernel_rfl
theorem ta7 : tagg Try.prog 7 = some true := by kernel_rfl
theorem tc7 : Try.prog.cellsOf 7 = 4 := by kernel_rfl
theorem tB7 : Try.prog.bytesOf 7 = 24 := by kernel_rfl
theorem ti7 : (Try.prog.info? 7).isSome = true := by kernel_rfl
theorem tf7_0 : tfield Try.prog 7 0 = some (0, 2) := by kernel_rfl
theorem tf7_1 : tfield Try.prog 7 1 = some (1, 3) := by kernel_rfl
theorem tf7_2 : tfield Try.prog 7 2 = some (2, 4) := by kernel_rfl
theorem tf7_3 : tfield Try.prog 7 3 = some (3, 6) := by kernel_rfl
theorem tz7 : tzero Try.prog 7 = some (.agg #[.int .i64 0, .int .i64 0, .bool false, .int .u8 0]) := by kernel_rfl
theorem ts8 : tsz Try.prog 8 = 4 := by kernel_rfl
theorem tb8 : tby Try.prog 8 = 24 := by kernel_rfl
theorem ta8 : tagg Try.prog 8 = some true := by kernel_rfl
theorem tc8 : Try.prog.cellsOf 8 = 4 := by kernel_rfl
theorem tB8 : Try.prog.bytesOf 8 = 24 := by kernel_rfl
theorem ti8 : (Try.prog.info? 8).isSome = true := by kernel_rfl
theorem tf8_0 : tfield Try.prog 8 0 = some (0, 2) := by kernel_rfl
theorem tf8_1 : tfield Try.prog 8 1 = some (1, 3) := by kernel_rfl
theorem tf8_2 : tfield Try.prog 8 2 = some (2, 4) := by kernel_rfl
theorem tf8_3 : tfield Try.prog 8 3 = some (3, 6) := by kernel_rfl
theorem tz8 : tzero Try.prog 8 = some (.agg #[.int .i64 0, .int .i64 0, .bool false, .int .u8 0]) := by kernel_rfl
theorem ts9 : tsz Try.prog 9 = 1 := by kernel_rfl
theorem tb9 : tby Try.prog 9 = 16 := by kernel_rfl
theorem ta9 : tagg Try.prog 9 = some false := by kernel_rfl
theorem tc9 : Try.prog.cellsOf 9 = 1 := by kernel_rfl
theorem tB9 : Try.prog.bytesOf 9 = 16 := by kernel_rfl
theorem ti9 : (Try.prog.info? 9).isSome = true := by kernel_rfl
theorem tz9 : tzero Try.prog 9 = some (.string ByteArray.empty) := by kernel_rfl
theorem ts10 : tsz Try.prog 10 = 1 := by kernel_rfl
theorem tb10 : tby Try.prog 10 = 16 := by kernel_rfl
theorem ta10 : tagg Try.prog 10 = some false := by kernel_rfl
theorem tc10 : Try.prog.cellsOf 10 = 1 := by kernel_rfl
theorem tB10 : Try.prog.bytesOf 10 = 16 := by kernel_rfl
theorem ti10 : (Try.prog.info? 10).isSome = true := by kernel_rfl
theorem tz10 : tzero Try.prog 10 = some (.string ByteArray.empty) := by kernel_rfl
theorem ts11 : tsz Try.prog 11 = 1 := by kernel_rfl
theorem tb11 : tby Try.prog 11 = 16 := by kernel_rfl
theorem ta11 : tagg Try.prog 11 = some false := by kernel_rfl
theorem tc11 : Try.prog.cellsOf 11 = 1 := by kernel_rfl
theorem tB11 : Try.prog.bytesOf 11 = 16 := by kernel_rfl
theorem ti11 : (Try.prog.info? 11).isSome = true := by kernel_rfl
theorem tz11 : tzero Try.prog 11 = some (.string ByteArray.empty) := by kernel_rfl
theorem ts12 : tsz Try.prog 12 = 1 := by kernel_rfl
theorem tb12 : tby Try.prog 12 = 8 := by kernel_rfl
theorem ta12 : tagg Try.prog 12 = some false := by kernel_rfl
theorem tc12 : Try.prog.cellsOf 12 = 1 := by kernel_rfl
theorem tB12 : Try.prog.bytesOf 12 = 8 := by kernel_rfl
theorem ti12 : (Try.prog.info? 12).isSome = true := by kernel_rfl
theorem tz12 : tzero Try.prog 12 = some (.int .u64 0) := by kernel_rfl
theorem ts13 : tsz Try.prog 13 = 2 := by kernel_rfl
theorem tb13 : tby Try.prog 13 = 24 := by kernel_rfl
theorem ta13 : tagg Try.prog 13 = some true := by kernel_rfl
theorem tc13 : Try.prog.cellsOf 13 = 2 := by kernel_rfl
theorem tB13 : Try.prog.bytesOf 13 = 24 := by kernel_rfl
theorem ti13 : (Try.prog.info? 13).isSome = true := by kernel_rfl
theorem tf13_0 : tfield Try.prog 13 0 = some (0, 9) := by kernel_rfl
theorem tf13_1 : tfield Try.prog 13 1 = some (1, 12) := by kernel_rfl
theorem tz13 : tzero Try.prog 13 = some (.agg #[.string ByteArray.empty, .int .u64 0]) := by kernel_rfl
theorem ts14 : tsz Try.prog 14 = 2 := by kernel_rfl
theorem tb14 : tby Try.prog 14 = 24 := by kernel_rfl
theorem ta14 : tagg Try.prog 14 = some true := by kernel_rfl
theorem tc14 : Try.prog.cellsOf 14 = 2 := by kernel_rfl
theorem tB14 : Try.prog.bytesOf 14 = 24 := by kernel_rfl
theorem ti14 : (Try.prog.info? 14).isSome = true := by kernel_rfl
theorem tf14_0 : tfield Try.prog 14 0 = some (0, 9) := by kernel_rfl
theorem tf14_1 : tfield Try.prog 14 1 = some (1, 12) := by kernel_rfl
theorem tz14 : tzero Try.prog 14 = some (.agg #[.string ByteArray.empty, .int .u64 0]) := by kernel_rfl
theorem ts15 : tsz Try.prog 15 = 1 := by kernel_rfl
theorem tb15 : tby Try.prog 15 = 8 := by kernel_rfl
theorem ta15 : tagg Try.prog 15 = some false := by kernel_rfl
theorem tc15 : Try.prog.cellsOf 15 = 1 := by kernel_rfl
theorem tB15 : Try.prog.bytesOf 15 = 8 := by kernel_rfl
theorem ti15 : (Try.prog.info? 15).isSome = true := by kernel_rfl
theorem tz15 : tzero Try.prog 15 = some (.pointer none) := by kernel_rfl
theorem ts16 : tsz Try.prog 16 = 1 := by kernel_rfl
theorem tb16 : tby Try.prog 16 = 8 := by kernel_rfl
theorem ta16 : tagg Try.prog 16 = some false := by kernel_rfl
theorem tc16 : Try.prog.cellsOf 16 = 1 := by kernel_rfl
theorem tB16 : Try.prog.bytesOf 16 = 8 := by kernel_rfl
theorem ti16 : (Try.prog.info? 16).isSome = true := by kernel_rfl
theorem tz16 : tzero Try.prog 16 = some (.pointer none) := by kernel_rfl
theorem ts17 : tsz Try.prog 17 = 1 := by kernel_rfl
theorem tb17 : tby Try.prog 17 = 8 := by kernel_rfl
theorem ta17 : tagg Try.prog 17 = some false := by kernel_rfl
theorem tc17 : Try.prog.cellsOf 17 = 1 := by kernel_rfl
theorem tB17 : Try.prog.bytesOf 17 = 8 := by kernel_rfl
theorem ti17 : (Try.prog.info? 17).isSome = true := by kernel_rfl
theorem tz17 : tzero Try.prog 17 = some (.pointer none) := by kernel_rfl
theorem ts18 : tsz Try.prog 18 = 1 := by kernel_rfl
theorem tb18 : tby Try.prog 18 = 8 := by kernel_rfl
theorem ta18 : tagg Try.prog 18 = some true := by kernel_rfl
theorem tc18 : Try.prog.cellsOf 18 = 1 := by kernel_rfl
theorem tB18 : Try.prog.bytesOf 18 = 8 := by kernel_rfl
theorem ti18 : (Try.prog.info? 18).isSome = true := by kernel_rfl
theorem tf18_0 : tfield Try.prog 18 0 = some (0, 17) := by kernel_rfl
theorem tz18 : tzero Try.prog 18 = some (.agg #[.pointer none]) := by kernel_rfl
theorem ts19 : tsz Try.prog 19 = 1 := by kernel_rfl
theorem tb19 : tby Try.prog 19 = 8 := by kernel_rfl
theorem ta19 : tagg Try.prog 19 = some true := by kernel_rfl
theorem tc19 : Try.prog.cellsOf 19 = 1 := by kernel_rfl
theorem tB19 : Try.prog.bytesOf 19 = 8 := by kernel_rfl
theorem ti19 : (Try.prog.info? 19).isSome = true := by kernel_rfl
theorem tf19_0 : tfield Try.prog 19 0 = some (0, 17) := by kernel_rfl
theorem tz19 : tzero Try.prog 19 = some (.agg #[.pointer none]) := by kernel_rfl
theorem ts21 : tsz Try.prog 21 = 1 := by kernel_rfl
theorem tb21 : tby Try.prog 21 = 4 := by kernel_rfl
theorem ta21 : tagg Try.prog 21 = some false := by kernel_rfl
theorem tc21 : Try.prog.cellsOf 21 = 1 := by kernel_rfl
theorem tB21 : Try.prog.bytesOf 21 = 4 := by kernel_rfl
theorem ti21 : (Try.prog.info? 21).isSome = true := by kernel_rfl
theorem tz21 : tzero Try.prog 21 = some (.int .i32 0) := by kernel_rfl
theorem ts22 : tsz Try.prog 22 = 1 := by kernel_rfl
theorem tb22 : tby Try.prog 22 = 24 := by kernel_rfl
theorem ta22 : tagg Try.prog 22 = some false := by kernel_rfl
theorem tc22 : Try.prog.cellsOf 22 = 1 := by kernel_rfl
theorem tB22 : Try.prog.bytesOf 22 = 24 := by kernel_rfl
theorem ti22 : (Try.prog.info? 22).isSome = true := by kernel_rfl
theorem te22 : telem Try.prog 22 = some 88 := by kernel_rfl
theorem tz22 : tzero Try.prog 22 = some (.slice none 0 0) := by kernel_rfl
theorem ts23 : tsz Try.prog 23 = 1 := by kernel_rfl
theorem tb23 : tby Try.prog 23 = 24 := by kernel_rfl
theorem ta23 : tagg Try.prog 23 = some false := by kernel_rfl
theorem tc23 : Try.prog.cellsOf 23 = 1 := by kernel_rfl
theorem tB23 : Try.prog.bytesOf 23 = 24 := by kernel_rfl
theorem ti23 : (Try.prog.info? 23).isSome = true := by kernel_rfl
theorem te23 : telem Try.prog 23 = some 22 := by kernel_rfl
theorem tz23 : tzero Try.prog 23 = some (.slice none 0 0) := by kernel_rfl
theorem ts24 : tsz Try.prog 24 = 4 := by kernel_rfl
theorem tb24 : tby Try.prog 24 = 80 := by kernel_rfl
theorem ta24 : tagg Try.prog 24 = some true := by kernel_rfl
theorem tc24 : Try.prog.cellsOf 24 = 4 := by kernel_rfl
theorem tB24 : Try.prog.bytesOf 24 = 80 := by kernel_rfl
theorem ti24 : (Try.prog.info? 24).isSome = true := by kernel_rfl
theorem tf24_0 : tfield Try.prog 24 0 = some (0, 22) := by kernel_rfl
theorem tf24_1 : tfield Try.prog 24 1 = some (1, 22) := by kernel_rfl
theorem tf24_2 : tfield Try.prog 24 2 = some (2, 23) := by kernel_rfl
theorem tf24_3 : tfield Try.prog 24 3 = some (3, 3) := by kernel_rfl
theorem tz24 : tzero Try.prog 24 = some (.agg #[.slice none 0 0, .slice none 0 0, .slice none 0 0, .int .i64 0]) := by kernel_rfl
theorem ts25 : tsz Try.prog 25 = 4 := by kernel_rfl
theorem tb25 : tby Try.prog 25 = 80 := by kernel_rfl
theorem ta25 : tagg Try.prog 25 = some true := by kernel_rfl
theorem tc25 : Try.prog.cellsOf 25 = 4 := by kernel_rfl
theorem tB25 : Try.prog.bytesOf 25 = 80 := by kernel_rfl
theorem ti25 : (Try.prog.info? 25).isSome = true := by kernel_rfl
theorem tf25_0 : tfield Try.prog 25 0 = some (0, 22) := by kernel_rfl
theorem tf25_1 : tfield Try.prog 25 1 = some (1, 22) := by kernel_rfl
theorem tf25_2 : tfield Try.prog 25 2 = some (2, 23) := by kernel_rfl
theorem tf25_3 : tfield Try.prog 25 3 = some (3, 3) := by kernel_rfl
theorem tz25 : tzero Try.prog 25 = some (.agg #[.slice none 0 0, .slice none 0 0, .slice none 0 0, .int .i64 0]) := by kernel_rfl
theorem ts30 : tsz Try.prog 30 = 1 := by kernel_rfl
theorem tb30 : tby Try.prog 30 = 24 := by kernel_rfl
theorem ta30 : tagg Try.prog 30 = some false := by kernel_rfl
theorem tc30 : Try.prog.cellsOf 30 = 1 := by kernel_rfl
theorem tB30 : Try.prog.bytesOf 30 = 24 := by kernel_rfl
theorem ti30 : (Try.prog.info? 30).isSome = true := by kernel_rfl
theorem te30 : telem Try.prog 30 = some 104 := by kernel_rfl
theorem tz30 : tzero Try.prog 30 = some (.slice none 0 0) := by kernel_rfl
theorem ts31 : tsz Try.prog 31 = 1 := by kernel_rfl
theorem tb31 : tby Try.prog 31 = 24 := by kernel_rfl
theorem ta31 : tagg Try.prog 31 = some false := by kernel_rfl
theorem tc31 : Try.prog.cellsOf 31 = 1 := by kernel_rfl
theorem tB31 : Try.prog.bytesOf 31 = 24 := by kernel_rfl
theorem ti31 : (Try.prog.info? 31).isSome = true := by kernel_rfl
theorem te31 : telem Try.prog 31 = some 30 := by kernel_rfl
theorem tz31 : tzero Try.prog 31 = some (.slice none 0 0) := by kernel_rfl
theorem ts32 : tsz Try.prog 32 = 4 := by kernel_rfl
theorem tb32 : tby Try.prog 32 = 80 := by kernel_rfl
theorem ta32 : tagg Try.prog 32 = some true := by kernel_rfl
theorem tc32 : Try.prog.cellsOf 32 = 4 := by kernel_rfl
theorem tB32 : Try.prog.bytesOf 32 = 80 := by kernel_rfl
theorem ti32 : (Try.prog.info? 32).isSome = true := by kernel_rfl
theorem tf32_0 : tfield Try.prog 32 0 = some (0, 30) := by kernel_rfl
theorem tf32_1 : tfield Try.prog 32 1 = some (1, 30) := by kernel_rfl
theorem tf32_2 : tfield Try.prog 32 2 = some (2, 31) := by kernel_rfl
theorem tf32_3 : tfield Try.prog 32 3 = some (3, 3) := by kernel_rfl
theorem tz32 : tzero Try.prog 32 = some (.agg #[.slice none 0 0, .slice none 0 0, .slice none 0 0, .int .i64 0]) := by kernel_rfl
theorem ts33 : tsz Try.prog 33 = 4 := by kernel_rfl
theorem tb33 : tby Try.prog 33 = 80 := by kernel_rfl
theorem ta33 : tagg Try.prog 33 = some true := by kernel_rfl
theorem tc33 : Try.prog.cellsOf 33 = 4 := by kernel_rfl
theorem tB33 : Try.prog.bytesOf 33 = 80 := by kernel_rfl
theorem ti33 : (Try.prog.info? 33).isSome = true := by kernel_rfl
theorem tf33_0 : tfield Try.prog 33 0 = some (0, 30) := by kernel_rfl
theorem tf33_1 : tfield Try.prog 33 1 = some (1, 30) := by kernel_rfl
theorem tf33_2 : tfield Try.prog 33 2 = some (2, 31) := by kernel_rfl
theorem tf33_3 : tfield Try.prog 33 3 = some (3, 3) := by kernel_rfl
theorem tz33 : tzero Try.prog 33 = some (.agg #[.slice none 0 0, .slice none 0 0, .slice none 0 0, .int .i64 0]) := by kernel_rfl
theorem ts44 : tsz Try.prog 44 = 1 := by kernel_rfl
theorem tb44 : tby Try.prog 44 = 24 := by kernel_rfl
theorem ta44 : tagg Try.prog 44 = some false := by kernel_rfl
theorem tc44 : Try.prog.cellsOf 44 = 1 := by kernel_rfl
theorem tB44 : Try.prog.bytesOf 44 = 24 := by kernel_rfl
theorem ti44 : (Try.prog.info? 44).isSome = true := by kernel_rfl
theorem te44 : telem Try.prog 44 = some 94 := by kernel_rfl
theorem tz44 : tzero Try.prog 44 = some (.slice none 0 0) := by kernel_rfl
theorem ts49 : tsz Try.prog 49 = 1 := by kernel_rfl
theorem tb49 : tby Try.prog 49 = 24 := by kernel_rfl
theorem ta49 : tagg Try.prog 49 = some false := by kernel_rfl
theorem tc49 : Try.prog.cellsOf 49 = 1 := by kernel_rfl
theorem tB49 : Try.prog.bytesOf 49 = 24 := by kernel_rfl
theorem ti49 : (Try.prog.info? 49).isSome = true := by kernel_rfl
theorem te49 : telem Try.prog 49 = some 5 := by kernel_rfl
theorem tz49 : tzero Try.prog 49 = some (.slice none 0 0) := by kernel_rfl
theorem ts50 : tsz Try.prog 50 = 1 := by kernel_rfl
theorem tb50 : tby Try.prog 50 = 24 := by kernel_rfl
theorem ta50 : tagg Try.prog 50 = some false := by kernel_rfl
theorem tc50 : Try.prog.cellsOf 50 = 1 := by kernel_rfl
theorem tB50 : Try.prog.bytesOf 50 = 24 := by kernel_rfl
theorem ti50 : (Try.prog.info? 50).isSome = true := by kernel_rfl
theorem te50 : telem Try.prog 50 = some 60 := by kernel_rfl
theorem tz50 : tzero Try.prog 50 = some (.slice none 0 0) := by kernel_rfl
theorem ts52 : tsz Try.prog 52 = 1 := by kernel_rfl
theorem tb52 : tby Try.prog 52 = 24 := by kernel_rfl
theorem ta52 : tagg Try.prog 52 = some false := by kernel_rfl
theorem tc52 : Try.prog.cellsOf 52 = 1 := by kernel_rfl
theorem tB52 : Try.prog.bytesOf 52 = 24 := by kernel_rfl
theorem ti52 : (Try.prog.info? 52).isSome = true := by kernel_rfl
theorem te52 : telem Try.prog 52 = some 4 := by kernel_rfl
theorem tz52 : tzero Try.prog 52 = some (.slice none 0 0) := by kernel_rfl
theorem ts58 : tsz Try.prog 58 = 1 := by kernel_rfl
theorem tb58 : tby Try.prog 58 = 24 := by kernel_rfl
theorem ta58 : tagg Try.prog 58 = some false := by kernel_rfl
theorem tc58 : Try.prog.cellsOf 58 = 1 := by kernel_rfl
theorem tB58 : Try.prog.bytesOf 58 = 24 := by kernel_rfl
theorem ti58 : (Try.prog.info? 58).isSome = true := by kernel_rfl
theorem te58 : telem Try.prog 58 = some 9 := by kernel_rfl
theorem tz58 : tzero Try.prog 58 = some (.slice none 0 0) := by kernel_rfl
theorem ts59 : tsz Try.prog 59 = 4 := by kernel_rfl
theorem tb59 : tby Try.prog 59 = 56 := by kernel_rfl
theorem ta59 : tagg Try.prog 59 = some true := by kernel_rfl
theorem tc59 : Try.prog.cellsOf 59 = 4 := by kernel_rfl
theorem tB59 : Try.prog.bytesOf 59 = 56 := by kernel_rfl
theorem ti59 : (Try.prog.info? 59).isSome = true := by kernel_rfl
theorem tf59_0 : tfield Try.prog 59 0 = some (0, 3) := by kernel_rfl
theorem tf59_1 : tfield Try.prog 59 1 = some (1, 58) := by kernel_rfl
theorem tf59_2 : tfield Try.prog 59 2 = some (2, 9) := by kernel_rfl
theorem tf59_3 : tfield Try.prog 59 3 = some (3, 3) := by kernel_rfl
theorem tz59 : tzero Try.prog 59 = some (.agg #[.int .i64 0, .slice none 0 0, .string ByteArray.empty, .int .i64 0]) := by kernel_rfl
theorem ts60 : tsz Try.prog 60 = 4 := by kernel_rfl
theorem tb60 : tby Try.prog 60 = 56 := by kernel_rfl
theorem ta60 : tagg Try.prog 60 = some true := by kernel_rfl
theorem tc60 : Try.prog.cellsOf 60 = 4 := by kernel_rfl
theorem tB60 : Try.prog.bytesOf 60 = 56 := by kernel_rfl
theorem ti60 : (Try.prog.info? 60).isSome = true := by kernel_rfl
theorem tf60_0 : tfield Try.prog 60 0 = some (0, 3) := by kernel_rfl
theorem tf60_1 : tfield Try.prog 60 1 = some (1, 58) := by kernel_rfl
theorem tf60_2 : tfield Try.prog 60 2 = some (2, 9) := by kernel_rfl
theorem tf60_3 : tfield Try.prog 60 3 = some (3, 3) := by kernel_rfl
theorem tz60 : tzero Try.prog 60 = some (.agg #[.int .i64 0, .slice none 0 0, .string ByteArray.empty, .int .i64 0]) := by kernel_rfl
theorem ts62 : tsz Try.prog 62 = 1 := by kernel_rfl
theorem tb62 : tby Try.prog 62 = 24 := by kernel_rfl
theorem ta62 : tagg Try.prog 62 = some false := by kernel_rfl
theorem tc62 : Try.prog.cellsOf 62 = 1 := by kernel_rfl
theorem tB62 : Try.prog.bytesOf 62 = 24 := by kernel_rfl
theorem ti62 : (Try.prog.info? 62).isSome = true := by kernel_rfl
theorem te62 : telem Try.prog 62 = some 69 := by kernel_rfl
theorem tz62 : tzero Try.prog 62 = some (.slice none 0 0) := by kernel_rfl
theorem ts69 : tsz Try.prog 69 = 4 := by kernel_rfl
theorem tb69 : tby Try.prog 69 = 56 := by kernel_rfl
theorem ta69 : tagg Try.prog 69 = some true := by kernel_rfl
theorem tc69 : Try.prog.cellsOf 69 = 4 := by kernel_rfl
theorem tB69 : Try.prog.bytesOf 69 = 56 := by kernel_rfl
theorem ti69 : (Try.prog.info? 69).isSome = true := by kernel_rfl
theorem tf69_0 : tfield Try.prog 69 0 = some (0, 3) := by kernel_rfl
theorem tf69_1 : tfield Try.prog 69 1 = some (1, 58) := by kernel_rfl
theorem tf69_2 : tfield Try.prog 69 2 = some (2, 9) := by kernel_rfl
theorem tf69_3 : tfield Try.prog 69 3 = some (3, 3) := by kernel_rfl
theorem tz69 : tzero Try.prog 69 = some (.agg #[.int .i64 0, .slice none 0 0, .string ByteArray.empty, .int .i64 0]) := by kernel_rfl
theorem ts87 : tsz Try.prog 87 = 2 := by kernel_rfl
theorem tb87 : tby Try.prog 87 = 40 := by kernel_rfl
theorem ta87 : tagg Try.prog 87 = some true := by kernel_rfl
theorem tc87 : Try.prog.cellsOf 87 = 2 := by kernel_rfl
theorem tB87 : Try.prog.bytesOf 87 = 40 := by kernel_rfl
theorem ti87 : (Try.prog.info? 87).isSome = true := by kernel_rfl
theorem tf87_0 : tfield Try.prog 87 0 = some (0, 58) := by kernel_rfl
theorem tf87_1 : tfield Try.prog 87 1 = some (1, 9) := by kernel_rfl
theorem tz87 : tzero Try.prog 87 = some (.agg #[.slice none 0 0, .string ByteArray.empty]) := by kernel_rfl
theorem ts88 : tsz Try.prog 88 = 2 := by kernel_rfl
theorem tb88 : tby Try.prog 88 = 40 := by kernel_rfl
theorem ta88 : tagg Try.prog 88 = some true := by kernel_rfl
theorem tc88 : Try.prog.cellsOf 88 = 2 := by kernel_rfl
theorem tB88 : Try.prog.bytesOf 88 = 40 := by kernel_rfl
theorem ti88 : (Try.prog.info? 88).isSome = true := by kernel_rfl
theorem tf88_0 : tfield Try.prog 88 0 = some (0, 58) := by kernel_rfl
theorem tf88_1 : tfield Try.prog 88 1 = some (1, 9) := by kernel_rfl
theorem tz88 : tzero Try.prog 88 = some (.agg #[.slice none 0 0, .string ByteArray.empty]) := by kernel_rfl
theorem ts93 : tsz Try.prog 93 = 3 := by kernel_rfl
theorem tb93 : tby Try.prog 93 = 48 := by kernel_rfl
theorem ta93 : tagg Try.prog 93 = some true := by kernel_rfl
theorem tc93 : Try.prog.cellsOf 93 = 3 := by kernel_rfl
theorem tB93 : Try.prog.bytesOf 93 = 48 := by kernel_rfl
theorem ti93 : (Try.prog.info? 93).isSome = true := by kernel_rfl
theorem tf93_0 : tfield Try.prog 93 0 = some (0, 4) := by kernel_rfl
theorem tf93_1 : tfield Try.prog 93 1 = some (1, 58) := by kernel_rfl
theorem tf93_2 : tfield Try.prog 93 2 = some (2, 9) := by kernel_rfl
theorem tz93 : tzero Try.prog 93 = some (.agg #[.bool false, .slice none 0 0, .string ByteArray.empty]) := by kernel_rfl
theorem ts94 : tsz Try.prog 94 = 3 := by kernel_rfl
theorem tb94 : tby Try.prog 94 = 48 := by kernel_rfl
theorem ta94 : tagg Try.prog 94 = some true := by kernel_rfl
theorem tc94 : Try.prog.cellsOf 94 = 3 := by kernel_rfl
theorem tB94 : Try.prog.bytesOf 94 = 48 := by kernel_rfl
theorem ti94 : (Try.prog.info? 94).isSome = true := by kernel_rfl
theorem tf94_0 : tfield Try.prog 94 0 = some (0, 4) := by kernel_rfl
theorem tf94_1 : tfield Try.prog 94 1 = some (1, 58) := by kernel_rfl
theorem tf94_2 : tfield Try.prog 94 2 = some (2, 9) := by kernel_rfl
theorem tz94 : tzero Try.prog 94 = some (.agg #[.bool false, .slice none 0 0, .string ByteArray.empty]) := by kernel_rfl
theorem ts95 : tsz Try.prog 95 = 1 := by kernel_rfl
theorem tb95 : tby Try.prog 95 = 8 := by kernel_rfl
theorem ta95 : tagg Try.prog 95 = some false := by kernel_rfl
theorem tc95 : Try.prog.cellsOf 95 = 1 := by kernel_rfl
theorem tB95 : Try.prog.bytesOf 95 = 8 := by kernel_rfl
theorem ti95 : (Try.prog.info? 95).isSome = true := by kernel_rfl
theorem tz95 : tzero Try.prog 95 = some (.pointer none) := by kernel_rfl
theorem ts96 : tsz Try.prog 96 = 1 := by kernel_rfl
theorem tb96 : tby Try.prog 96 = 8 := by kernel_rfl
theorem ta96 : tagg Try.prog 96 = some false := by kernel_rfl
theorem tc96 : Try.prog.cellsOf 96 = 1 := by kernel_rfl
theorem tB96 : Try.prog.bytesOf 96 = 8 := by kernel_rfl
theorem ti96 : (Try.prog.info? 96).isSome = true := by kernel_rfl
theorem tz96 : tzero Try.prog 96 = some (.int .u64 0) := by kernel_rfl
theorem ts97 : tsz Try.prog 97 = 3 := by kernel_rfl
theorem tb97 : tby Try.prog 97 = 40 := by kernel_rfl
theorem ta97 : tagg Try.prog 97 = some true := by kernel_rfl
theorem tc97 : Try.prog.cellsOf 97 = 3 := by kernel_rfl
theorem tB97 : Try.prog.bytesOf 97 = 40 := by kernel_rfl
theorem ti97 : (Try.prog.info? 97).isSome = true := by kernel_rfl
theorem tf97_0 : tfield Try.prog 97 0 = some (0, 49) := by kernel_rfl
theorem tf97_1 : tfield Try.prog 97 1 = some (1, 3) := by kernel_rfl
theorem tf97_2 : tfield Try.prog 97 2 = some (2, 96) := by kernel_rfl
theorem tz97 : tzero Try.prog 97 = some (.agg #[.slice none 0 0, .int .i64 0, .int .u64 0]) := by kernel_rfl
theorem ts98 : tsz Try.prog 98 = 3 := by kernel_rfl
theorem tb98 : tby Try.prog 98 = 40 := by kernel_rfl
theorem ta98 : tagg Try.prog 98 = some true := by kernel_rfl
theorem tc98 : Try.prog.cellsOf 98 = 3 := by kernel_rfl
theorem tB98 : Try.prog.bytesOf 98 = 40 := by kernel_rfl
theorem ti98 : (Try.prog.info? 98).isSome = true := by kernel_rfl
theorem tf98_0 : tfield Try.prog 98 0 = some (0, 49) := by kernel_rfl
theorem tf98_1 : tfield Try.prog 98 1 = some (1, 3) := by kernel_rfl
theorem tf98_2 : tfield Try.prog 98 2 = some (2, 96) := by kernel_rfl
theorem tz98 : tzero Try.prog 98 = some (.agg #[.slice none 0 0, .int .i64 0, .int .u64 0]) := by kernel_rfl
theorem ts104 : tsz Try.prog 104 = 2 := by kernel_rfl
theorem tb104 : tby Try.prog 104 = 40 := by kernel_rfl
theorem ta104 : tagg Try.prog 104 = some true := by kernel_rfl
theorem tc104 : Try.prog.cellsOf 104 = 2 := by kernel_rfl
theorem tB104 : Try.prog.bytesOf 104 = 40 := by kernel_rfl
theorem ti104 : (Try.prog.info? 104).isSome = true := by kernel_rfl
theorem tf104_0 : tfield Try.prog 104 0 = some (0, 58) := by kernel_rfl
theorem tf104_1 : tfield Try.prog 104 1 = some (1, 9) := by kernel_rfl
theorem tz104 : tzero Try.prog 104 = some (.agg #[.slice none 0 0, .string ByteArray.empty]) := by kernel_rfl
theorem ts127 : tsz Try.prog 127 = 1 := by kernel_rfl
theorem tb127 : tby Try.prog 127 = 24 := by kernel_rfl
theorem ta127 : tagg Try.prog 127 = some false := by kernel_rfl
theorem tc127 : Try.prog.cellsOf 127 = 1 := by kernel_rfl
theorem tB127 : Try.prog.bytesOf 127 = 24 := by kernel_rfl
theorem ti127 : (Try.prog.info? 127).isSome = true := by kernel_rfl
theorem te127 : telem Try.prog 127 = some 3 := by kernel_rfl
theorem tz127 : tzero Try.prog 127 = some (.slice none 0 0) := by kernel_rfl
theorem ts132 : tsz Try.prog 132 = 1 := by kernel_rfl
theorem tb132 : tby Try.prog 132 = 8 := by kernel_rfl
theorem ta132 : tagg Try.prog 132 = some false := by kernel_rfl
theorem tc132 : Try.prog.cellsOf 132 = 1 := by kernel_rfl
theorem tB132 : Try.prog.bytesOf 132 = 8 := by kernel_rfl
theorem ti132 : (Try.prog.info? 132).isSome = true := by kernel_rfl
theorem tz132 : tzero Try.prog 132 = some (.pointer none) := by kernel_rfl
theorem ts136 : tsz Try.prog 136 = 1 := by kernel_rfl
theorem tb136 : tby Try.prog 136 = 8 := by kernel_rfl
theorem ta136 : tagg Try.prog 136 = some false := by kernel_rfl
theorem tc136 : Try.prog.cellsOf 136 = 1 := by kernel_rfl
theorem tB136 : Try.prog.bytesOf 136 = 8 := by kernel_rfl
theorem ti136 : (Try.prog.info? 136).isSome = true := by kernel_rfl
theorem tz136 : tzero Try.prog 136 = some (.int .u64 0) := by kernel_rfl
theorem ts144 : tsz Try.prog 144 = 4 := by kernel_rfl
theorem tb144 : tby Try.prog 144 = 40 := by kernel_rfl
theorem ta144 : tagg Try.prog 144 = some true := by kernel_rfl
theorem tc144 : Try.prog.cellsOf 144 = 4 := by kernel_rfl
theorem tB144 : Try.prog.bytesOf 144 = 40 := by kernel_rfl
theorem ti144 : (Try.prog.info? 144).isSome = true := by kernel_rfl
theorem tf144_0 : tfield Try.prog 144 0 = some (0, 17) := by kernel_rfl
theorem tf144_1 : tfield Try.prog 144 1 = some (1, 17) := by kernel_rfl
theorem tf144_2 : tfield Try.prog 144 2 = some (2, 17) := by kernel_rfl
theorem tf144_3 : tfield Try.prog 144 3 = some (3, 9) := by kernel_rfl
theorem tz144 : tzero Try.prog 144 = some (.agg #[.pointer none, .pointer none, .pointer none, .string ByteArray.empty]) := by kernel_rfl
theorem ts145 : tsz Try.prog 145 = 4 := by kernel_rfl
theorem tb145 : tby Try.prog 145 = 40 := by kernel_rfl
theorem ta145 : tagg Try.prog 145 = some true := by kernel_rfl
theorem tc145 : Try.prog.cellsOf 145 = 4 := by kernel_rfl
theorem tB145 : Try.prog.bytesOf 145 = 40 := by kernel_rfl
theorem ti145 : (Try.prog.info? 145).isSome = true := by kernel_rfl
theorem tf145_0 : tfield Try.prog 145 0 = some (0, 17) := by kernel_rfl
theorem tf145_1 : tfield Try.prog 145 1 = some (1, 17) := by kernel_rfl
theorem tf145_2 : tfield Try.prog 145 2 = some (2, 17) := by kernel_rfl
theorem tf145_3 : tfield Try.prog 145 3 = some (3, 9) := by kernel_rfl
theorem tz145 : tzero Try.prog 145 = some (.agg #[.pointer none, .pointer none, .pointer none, .string ByteArray.empty]) := by kernel_rfl
theorem ts147 : tsz Try.prog 147 = 0 := by kernel_rfl
theorem tb147 : tby Try.prog 147 = 0 := by kernel_rfl
theorem ta147 : tagg Try.prog 147 = some true := by kernel_rfl
theorem tc147 : Try.prog.cellsOf 147 = 0 := by kernel_rfl
theorem tB147 : Try.prog.bytesOf 147 = 0 := by kernel_rfl
theorem ti147 : (Try.prog.info? 147).isSome = true := by kernel_rfl
theorem tf147_0 : tfield Try.prog 147 0 = some (0, 146) := by kernel_rfl
theorem ts148 : tsz Try.prog 148 = 0 := by kernel_rfl
theorem tb148 : tby Try.prog 148 = 0 := by kernel_rfl
theorem ta148 : tagg Try.prog 148 = some true := by kernel_rfl
theorem tc148 : Try.prog.cellsOf 148 = 0 := by kernel_rfl
theorem tB148 : Try.prog.bytesOf 148 = 0 := by kernel_rfl
theorem ti148 : (Try.prog.info? 148).isSome = true := by kernel_rfl
theorem tf148_0 : tfield Try.prog 148 0 = some (0, 146) := by kernel_rfl
theorem ts149 : tsz Try.prog 149 = 1 := by kernel_rfl
theorem tb149 : tby Try.prog 149 = 4 := by kernel_rfl
theorem ta149 : tagg Try.prog 149 = some false := by kernel_rfl
theorem tc149 : Try.prog.cellsOf 149 = 1 := by kernel_rfl
theorem tB149 : Try.prog.bytesOf 149 = 4 := by kernel_rfl
theorem ti149 : (Try.prog.info? 149).isSome = true := by kernel_rfl
theorem tz149 : tzero Try.prog 149 = some (.int .u32 0) := by kernel_rfl
theorem ts150 : tsz Try.prog 150 = 1 := by kernel_rfl
theorem tb150 : tby Try.prog 150 = 1 := by kernel_rfl
theorem ta150 : tagg Try.prog 150 = some false := by kernel_rfl
theorem tc150 : Try.prog.cellsOf 150 = 1 := by kernel_rfl
theorem tB150 : Try.prog.bytesOf 150 = 1 := by kernel_rfl
theorem ti150 : (Try.prog.info? 150).isSome = true := by kernel_rfl
theorem tz150 : tzero Try.prog 150 = some (.int .u8 0) := by kernel_rfl
theorem ts151 : tsz Try.prog 151 = 1 := by kernel_rfl
theorem tb151 : tby Try.prog 151 = 1 := by kernel_rfl
theorem ta151 : tagg Try.prog 151 = some false := by kernel_rfl
theorem tc151 : Try.prog.cellsOf 151 = 1 := by kernel_rfl
theorem tB151 : Try.prog.bytesOf 151 = 1 := by kernel_rfl
theorem ti151 : (Try.prog.info? 151).isSome = true := by kernel_rfl
theorem tz151 : tzero Try.prog 151 = some (.int .u8 0) := by kernel_rfl
theorem ts153 : tsz Try.prog 153 = 1 := by kernel_rfl
theorem tb153 : tby Try.prog 153 = 8 := by kernel_rfl
theorem ta153 : tagg Try.prog 153 = some false := by kernel_rfl
theorem tc153 : Try.prog.cellsOf 153 = 1 := by kernel_rfl
theorem tB153 : Try.prog.bytesOf 153 = 8 := by kernel_rfl
theorem ti153 : (Try.prog.info? 153).isSome = true := by kernel_rfl
theorem tz153 : tzero Try.prog 153 = some (.pointer none) := by kernel_rfl
theorem ts154 : tsz Try.prog 154 = 1 := by kernel_rfl
theorem tb154 : tby Try.prog 154 = 4 := by kernel_rfl
theorem ta154 : tagg Try.prog 154 = some false := by kernel_rfl
theorem tc154 : Try.prog.cellsOf 154 = 1 := by kernel_rfl
theorem tB154 : Try.prog.bytesOf 154 = 4 := by kernel_rfl
theorem ti154 : (Try.prog.info? 154).isSome = true := by kernel_rfl
theorem tz154 : tzero Try.prog 154 = some (.int .i32 0) := by kernel_rfl
theorem ts155 : tsz Try.prog 155 = 1 := by kernel_rfl
theorem tb155 : tby Try.prog 155 = 4 := by kernel_rfl
theorem ta155 : tagg Try.prog 155 = some false := by kernel_rfl
theorem tc155 : Try.prog.cellsOf 155 = 1 := by kernel_rfl
theorem tB155 : Try.prog.bytesOf 155 = 4 := by kernel_rfl
theorem ti155 : (Try.prog.info? 155).isSome = true := by kernel_rfl
theorem tz155 : tzero Try.prog 155 = some (.int .i32 0) := by kernel_rfl
theorem ts156 : tsz Try.prog 156 = 11 := by kernel_rfl
theorem tb156 : tby Try.prog 156 = 48 := by kernel_rfl
theorem ta156 : tagg Try.prog 156 = some true := by kernel_rfl
theorem tc156 : Try.prog.cellsOf 156 = 11 := by kernel_rfl
theorem tB156 : Try.prog.bytesOf 156 = 48 := by kernel_rfl
theorem ti156 : (Try.prog.info? 156).isSome = true := by kernel_rfl
theorem tf156_0 : tfield Try.prog 156 0 = some (0, 12) := by kernel_rfl
theorem tf156_1 : tfield Try.prog 156 1 = some (1, 12) := by kernel_rfl
theorem tf156_2 : tfield Try.prog 156 2 = some (2, 149) := by kernel_rfl
theorem tf156_3 : tfield Try.prog 156 3 = some (3, 150) := by kernel_rfl
theorem tf156_4 : tfield Try.prog 156 4 = some (4, 5) := by kernel_rfl
theorem tf156_5 : tfield Try.prog 156 5 = some (5, 5) := by kernel_rfl
theorem tf156_6 : tfield Try.prog 156 6 = some (6, 151) := by kernel_rfl
theorem tf156_7 : tfield Try.prog 156 7 = some (7, 152) := by kernel_rfl
theorem tf156_8 : tfield Try.prog 156 8 = some (8, 153) := by kernel_rfl
theorem tf156_9 : tfield Try.prog 156 9 = some (9, 154) := by kernel_rfl
theorem tf156_10 : tfield Try.prog 156 10 = some (10, 155) := by kernel_rfl
theorem ts157 : tsz Try.prog 157 = 11 := by kernel_rfl
theorem tb157 : tby Try.prog 157 = 48 := by kernel_rfl
theorem ta157 : tagg Try.prog 157 = some true := by kernel_rfl
theorem tc157 : Try.prog.cellsOf 157 = 11 := by kernel_rfl
theorem tB157 : Try.prog.bytesOf 157 = 48 := by kernel_rfl
theorem ti157 : (Try.prog.info? 157).isSome = true := by kernel_rfl
theorem tf157_0 : tfield Try.prog 157 0 = some (0, 12) := by kernel_rfl
theorem tf157_1 : tfield Try.prog 157 1 = some (1, 12) := by kernel_rfl
theorem tf157_2 : tfield Try.prog 157 2 = some (2, 149) := by kernel_rfl
theorem tf157_3 : tfield Try.prog 157 3 = some (3, 150) := by kernel_rfl
theorem tf157_4 : tfield Try.prog 157 4 = some (4, 5) := by kernel_rfl
theorem tf157_5 : tfield Try.prog 157 5 = some (5, 5) := by kernel_rfl
theorem tf157_6 : tfield Try.prog 157 6 = some (6, 151) := by kernel_rfl
theorem tf157_7 : tfield Try.prog 157 7 = some (7, 152) := by kernel_rfl
theorem tf157_8 : tfield Try.prog 157 8 = some (8, 153) := by kernel_rfl
theorem tf157_9 : tfield Try.prog 157 9 = some (9, 154) := by kernel_rfl
theorem tf157_10 : tfield Try.prog 157 10 = some (10, 155) := by kernel_rfl
attribute [simp] ts2 tb2 ta2 tc2 tB2 ti2 tz2 ts3 tb3 ta3 tc3 tB3 ti3 tz3 ts4 tb4 ta4 tc4 tB4 ti4 tz4 ts5 tb5 ta5 tc5 tB5 ti5 tz5 ts6 tb6 ta6 tc6 tB6 ti6 tz6 ts7 tb7 ta7 tc7 tB7 ti7 tf7_0 tf7_1 tf7_2 tf7_3 tz7 ts8 tb8 ta8 tc8 tB8 ti8 tf8_0 tf8_1 tf8_2 tf8_3 tz8 ts9 tb9 ta9 tc9 tB9 ti9 tz9 ts10 tb10 ta10 tc10 tB10 ti10 tz10 ts11 tb11 ta11 tc11 tB11 ti11 tz11 ts12 tb12 ta12 tc12 tB12 ti12 tz12 ts13 tb13 ta13 tc13 tB13 ti13 tf13_0 tf13_1 tz13 ts14 tb14 ta14 tc14 tB14 ti14 tf14_0 tf14_1 tz14 ts15 tb15 ta15 tc15 tB15 ti15 tz15 ts16 tb16 ta16 tc16 tB16 ti16 tz16 ts17 tb17 ta17 tc17 tB17 ti17 tz17 ts18 tb18 ta18 tc18 tB18 ti18 tf18_0 tz18 ts19 tb19 ta19 tc19 tB19 ti19 tf19_0 tz19 ts21 tb21 ta21 tc21 tB21 ti21 tz21 ts22 tb22 ta22 tc22 tB22 ti22 te22 tz22 ts23 tb23 ta23 tc23 tB23 ti23 te23 tz23 ts24 tb24 ta24 tc24 tB24 ti24 tf24_0 tf24_1 tf24_2 tf24_3 tz24 ts25 tb25 ta25 tc25 tB25 ti25 tf25_0 tf25_1 tf25_2 tf25_3 tz25 ts30 tb30 ta30 tc30 tB30 ti30 te30 tz30 ts31 tb31 ta31 tc31 tB31 ti31 te31 tz31 ts32 tb32 ta32 tc32 tB32 ti32 tf32_0 tf32_1 tf32_2 tf32_3 tz32 ts33 tb33 ta33 tc33 tB33 ti33 tf33_0 tf33_1 tf33_2 tf33_3 tz33 ts44 tb44 ta44 tc44 tB44 ti44 te44 tz44 ts49 tb49 ta49 tc49 tB49 ti49 te49 tz49 ts50 tb50 ta50 tc50 tB50 ti50 te50 tz50 ts52 tb52 ta52 tc52 tB52 ti52 te52 tz52 ts58 tb58 ta58 tc58 tB58 ti58 te58 tz58 ts59 tb59 ta59 tc59 tB59 ti59 tf59_0 tf59_1 tf59_2 tf59_3 tz59 ts60 tb60 ta60 tc60 tB60 ti60 tf60_0 tf60_1 tf60_2 tf60_3 tz60 ts62 tb62 ta62 tc62 tB62 ti62 te62 tz62 ts69 tb69 ta69 tc69 tB69 ti69 tf69_0 tf69_1 tf69_2 tf69_3 tz69 ts87 tb87 ta87 tc87 tB87 ti87 tf87_0 tf87_1 tz87 ts88 tb88 ta88 tc88 tB88 ti88 tf88_0 tf88_1 tz88 ts93 tb93 ta93 tc93 tB93 ti93 tf93_0 tf93_1 tf93_2 tz93 ts94 tb94 ta94 tc94 tB94 ti94 tf94_0 tf94_1 tf94_2 tz94 ts95 tb95 ta95 tc95 tB95 ti95 tz95 ts96 tb96 ta96 tc96 tB96 ti96 tz96 ts97 tb97 ta97 tc97 tB97 ti97 tf97_0 tf97_1 tf97_2 tz97 ts98 tb98 ta98 tc98 tB98 ti98 tf98_0 tf98_1 tf98_2 tz98 ts104 tb104 ta104 tc104 tB104 ti104 tf104_0 tf104_1 tz104 ts127 tb127 ta127 tc127 tB127 ti127 te127 tz127 ts132 tb132 ta132 tc132 tB132 ti132 tz132 ts136 tb136 ta136 tc136 tB136 ti136 tz136 ts144 tb144 ta144 tc144 tB144 ti144 tf144_0 tf144_1 tf144_2 tf144_3 tz144 ts145 tb145 ta145 tc145 tB145 ti145 tf145_0 tf145_1 tf145_2 tf145_3 tz145 ts147 tb147 ta147 tc147 tB147 ti147 tf147_0 ts148 tb148 ta148 tc148 tB148 ti148 tf148_0 ts149 tb149 ta149 tc149 tB149 ti149 tz149 ts150 tb150 ta150 tc150 tB150 ti150 tz150 ts151 tb151 ta151 tc151 tB151 ti151 tz151 ts153 tb153 ta153 tc153 tB153 ti153 tz153 ts154 tb154 ta154 tc154 tB154 ti154 tz154 ts155 tb155 ta155 tc155 tB155 ti155 tz155 ts156 tb156 ta156 tc156 tB156 ti156 tf156_0 tf156_1 tf156_2 tf156_3 tf156_4 tf156_5 tf156_6 tf156_7 tf156_8 tf156_9 tf156_10 ts157 tb157 ta157 tc157 tB157 ti157 tf157_0 tf157_1 tf157_2 tf157_3 tf157_4 tf157_5 tf157_6 tf157_7 tf157_8 tf157_9 tf157_10
end Go.V
