/- Facts on the types of the seat's program, each by reckoning. No conditions. -/
import Derived.Test.YtcdlflmppicdjaaVf
import Derived.Test.YtcdlflmppicdjaaProg
set_option linter.all false
namespace Go.V
open Go.Proofs
set_option maxRecDepth 10000
theorem h0 : tsz Try.prog nilE = 0 := by kernel_rfl
theorem hm : Try.prog.follows .mixedOrders = true := by kernel_rfl
theorem ts2 : tsz Try.prog 2 = 1 := by kernel_rfl
theorem tb2 : tby Try.prog 2 = 8 := by kernel_rfl
theorem ta2 : tagg Try.prog 2 = some false := by kernel_rfl
theorem tc2 : Try.prog.cellsOf 2 = 1 := by kernel_rfl
theorem tB2 : Try.prog.bytesOf 2 = 8 := by kernel_rfl
theorem ti2 : (Try.prog.info? 2).isSome = true := by kernel_rfl
theorem tz2 : tzero Try.prog 2 = some (.int .i64 0) := by kernel_rfl
theorem ts3 : tsz Try.prog 3 = 1 := by kernel_rfl
theorem tb3 : tby Try.prog 3 = 8 := by kernel_rfl
theorem ta3 : tagg Try.prog 3 = some false := by kernel_rfl
theorem tc3 : Try.prog.cellsOf 3 = 1 := by kernel_rfl
theorem tB3 : Try.prog.bytesOf 3 = 8 := by kernel_rfl
theorem ti3 : (Try.prog.info? 3).isSome = true := by kernel_rfl
theorem tz3 : tzero Try.prog 3 = some (.int .i64 0) := by kernel_rfl
theorem ts4 : tsz Try.prog 4 = 1 := by kernel_rfl
theorem tb4 : tby Try.prog 4 = 1 := by kernel_rfl
theorem ta4 : tagg Try.prog 4 = some false := by kernel_rfl
theorem tc4 : Try.prog.cellsOf 4 = 1 := by kernel_rfl
theorem tB4 : Try.prog.bytesOf 4 = 1 := by kernel_rfl
theorem ti4 : (Try.prog.info? 4).isSome = true := by kernel_rfl
theorem tz4 : tzero Try.prog 4 = some (.bool false) := by kernel_rfl
theorem ts5 : tsz Try.prog 5 = 1 := by kernel_rfl
theorem tb5 : tby Try.prog 5 = 1 := by kernel_rfl
theorem ta5 : tagg Try.prog 5 = some false := by kernel_rfl
theorem tc5 : Try.prog.cellsOf 5 = 1 := by kernel_rfl
theorem tB5 : Try.prog.bytesOf 5 = 1 := by kernel_rfl
theorem ti5 : (Try.prog.info? 5).isSome = true := by kernel_rfl
theorem tz5 : tzero Try.prog 5 = some (.int .u8 0) := by kernel_rfl
theorem ts6 : tsz Try.prog 6 = 1 := by kernel_rfl
theorem tb6 : tby Try.prog 6 = 1 := by kernel_rfl
theorem ta6 : tagg Try.prog 6 = some false := by kernel_rfl
theorem tc6 : Try.prog.cellsOf 6 = 1 := by kernel_rfl
theorem tB6 : Try.prog.bytesOf 6 = 1 := by kernel_rfl
theorem ti6 : (Try.prog.info? 6).isSome = true := by kernel_rfl
theorem tz6 : tzero Try.prog 6 = some (.int .u8 0) := by kernel_rfl
theorem ts7 : tsz Try.prog 7 = 4 := by kernel_rfl
theorem tb7 : tby Try.prog 7 = 24 := by kernel_rfl
theorem ta7 : tagg Try.prog 7 = some true := by kernel_rfl
theorem tc7 : Try.prog.cellsOf 7 = 4 := by kernel_rfl
theorem tB7 : Try.prog.bytesOf 7 = 24 := by kernel_rfl
theorem ti7 : (Try.prog.info? 7).isSome = true := by kernel_rfl
theorem tf7_0 : tfield Try.prog 7 0 = some (0, 2) := by kernel_rfl
theorem tf7_1 : tfield Try.prog 7 1 = some (1, 3) := by kernel_rfl
theorem tf7_2 : tfield Try.prog 7 2 = some (2, 4) := by kernel_rfl
theorem tf7_3 : tfield Try.prog 7 3 = some (3, 6) := by kernel_rfl
theorem tz7 : tzero Try.prog 7 = some (.agg #[.int .i64 0, .int .i64 0, .bool false, .int .u8 0]) := by kernel_rfl
theorem ts8 : tsz Try.prog 8 = 4 := by kernel_rfl
theorem tb8 : tby Try.prog 8 = 24 := by kernel_rfl
theorem ta8 : tagg Try.prog 8 = some true := by kernel_rfl
theorem tc8 : Try.prog.cellsOf 8 = 4 := by kernel_rfl
theorem tB8 : Try.prog.bytesOf 8 = 24 := by kernel_rfl
theorem ti8 : (Try.prog.info? 8).isSome = true := by kernel_rfl
theorem tf8_0 : tfield Try.prog 8 0 = some (0, 2) := by kernel_rfl
theorem tf8_1 : tfield Try.prog 8 1 = some (1, 3) := by kernel_rfl
theorem tf8_2 : tfield Try.prog 8 2 = some (2, 4) := by kernel_rfl
theorem tf8_3 : tfield Try.prog 8 3 = some (3, 6) := by kernel_rfl
theorem tz8 : tzero Try.prog 8 = some (.agg #[.int .i64 0, .int .i64 0, .bool false, .int .u8 0]) := by kernel_rfl
theorem ts9 : tsz Try.prog 9 = 1 := by kernel_rfl
theorem tb9 : tby Try.prog 9 = 16 := by kernel_rfl
theorem ta9 : tagg Try.prog 9 = some false := by kernel_rfl
theorem tc9 : Try.prog.cellsOf 9 = 1 := by kernel_rfl
theorem tB9 : Try.prog.bytesOf 9 = 16 := by kernel_rfl
theorem ti9 : (Try.prog.info? 9).isSome = true := by kernel_rfl
theorem tz9 : tzero Try.prog 9 = some (.string ByteArray.empty) := by kernel_rfl
theorem ts10 : tsz Try.prog 10 = 1 := by kernel_rfl
theorem tb10 : tby Try.prog 10 = 16 := by kernel_rfl
theorem ta10 : tagg Try.prog 10 = some false := by kernel_rfl
theorem tc10 : Try.prog.cellsOf 10 = 1 := by kernel_rfl
theorem tB10 : Try.prog.bytesOf 10 = 16 := by kernel_rfl
theorem ti10 : (Try.prog.info? 10).isSome = true := by kernel_rfl
theorem tz10 : tzero Try.prog 10 = some (.string ByteArray.empty) := by kernel_rfl
theorem ts11 : tsz Try.prog 11 = 1 := by kernel_rfl
theorem tb11 : tby Try.prog 11 = 16 := by kernel_rfl
theorem ta11 : tagg Try.prog 11 = some false := by kernel_rfl
theorem tc11 : Try.prog.cellsOf 11 = 1 := by kernel_rfl
theorem tB11 : Try.prog.bytesOf 11 = 16 := by kernel_rfl
theorem ti11 : (Try.prog.info? 11).isSome = true := by kernel_rfl
theorem tz11 : tzero Try.prog 11 = some (.string ByteArray.empty) := by kernel_rfl
theorem ts12 : tsz Try.prog 12 = 1 := by kernel_rfl
theorem tb12 : tby Try.prog 12 = 8 := by kernel_rfl
theorem ta12 : tagg Try.prog 12 = some false := by kernel_rfl
theorem tc12 : Try.prog.cellsOf 12 = 1 := by kernel_rfl
theorem tB12 : Try.prog.bytesOf 12 = 8 := by kernel_rfl
theorem ti12 : (Try.prog.info? 12).isSome = true := by kernel_rfl
theorem tz12 : tzero Try.prog 12 = some (.int .u64 0) := by kernel_rfl
theorem ts13 : tsz Try.prog 13 = 2 := by kernel_rfl
theorem tb13 : tby Try.prog 13 = 24 := by kernel_rfl
theorem ta13 : tagg Try.prog 13 = some true := by kernel_rfl
theorem tc13 : Try.prog.cellsOf 13 = 2 := by kernel_rfl
theorem tB13 : Try.prog.bytesOf 13 = 24 := by kernel_rfl
theorem ti13 : (Try.prog.info? 13).isSome = true := by kernel_rfl
theorem tf13_0 : tfield Try.prog 13 0 = some (0, 9) := by kernel_rfl
theorem tf13_1 : tfield Try.prog 13 1 = some (1, 12) := by kernel_rfl
theorem tz13 : tzero Try.prog 13 = some (.agg #[.string ByteArray.empty, .int .u64 0]) := by kernel_rfl
theorem ts14 : tsz Try.prog 14 = 2 := by kernel_rfl
theorem tb14 : tby Try.prog 14 = 24 := by kernel_rfl
theorem ta14 : tagg Try.prog 14 = some true := by kernel_rfl
theorem tc14 : Try.prog.cellsOf 14 = 2 := by kernel_rfl
theorem tB14 : Try.prog.bytesOf 14 = 24 := by kernel_rfl
theorem ti14 : (Try.prog.info? 14).isSome = true := by kernel_rfl
theorem tf14_0 : tfield Try.prog 14 0 = some (0, 9) := by kernel_rfl
theorem tf14_1 : tfield Try.prog 14 1 = some (1, 12) := by kernel_rfl
theorem tz14 : tzero Try.prog 14 = some (.agg #[.string ByteArray.empty, .int .u64 0]) := by kernel_rfl
theorem ts15 : tsz Try.prog 15 = 1 := by kernel_rfl
theorem tb15 : tby Try.prog 15 = 8 := by kernel_rfl
theorem ta15 : tagg Try.prog 15 = some false := by kernel_rfl
theorem tc15 : Try.prog.cellsOf 15 = 1 := by kernel_rfl
theorem tB15 : Try.prog.bytesOf 15 = 8 := by kernel_rfl
theorem ti15 : (Try.prog.info? 15).isSome = true := by kernel_rfl
theorem tz15 : tzero Try.prog 15 = some (.pointer none) := by kernel_rfl
theorem ts16 : tsz Try.prog 16 = 1 := by kernel_rfl
theorem tb16 : tby Try.prog 16 = 8 := by kernel_rfl
theorem ta16 : tagg Try.prog 16 = some false := by kernel_rfl
theorem tc16 : Try.prog.cellsOf 16 = 1 := by kernel_rfl
theorem tB16 : Try.prog.bytesOf 16 = 8 := by kernel_rfl
theorem ti16 : (Try.prog.info? 16).isSome = true := by kernel_rfl
theorem tz16 : tzero Try.prog 16 = some (.pointer none) := by kernel_rfl
theorem ts17 : tsz Try.prog 17 = 1 := by kernel_rfl
theorem tb17 : tby Try.prog 17 = 8 := by kernel_rfl
theorem ta17 : tagg Try.prog 17 = some false := by kernel_rfl
theorem tc17 : Try.prog.cellsOf 17 = 1 := by kernel_rfl
theorem tB17 : Try.prog.bytesOf 17 = 8 := by kernel_rfl
theorem ti17 : (Try.prog.info? 17).isSome = true := by kernel_rfl
theorem tz17 : tzero Try.prog 17 = some (.pointer none) := by kernel_rfl
theorem ts18 : tsz Try.prog 18 = 1 := by kernel_rfl
theorem tb18 : tby Try.prog 18 = 8 := by kernel_rfl
theorem ta18 : tagg Try.prog 18 = some true := by kernel_rfl
theorem tc18 : Try.prog.cellsOf 18 = 1 := by kernel_rfl
theorem tB18 : Try.prog.bytesOf 18 = 8 := by kernel_rfl
theorem ti18 : (Try.prog.info? 18).isSome = true := by kernel_rfl
theorem tf18_0 : tfield Try.prog 18 0 = some (0, 17) := by kernel_rfl
theorem tz18 : tzero Try.prog 18 = some (.agg #[.pointer none]) := by kernel_rfl
theorem ts19 : tsz Try.prog 19 = 1 := by kernel_rfl
theorem tb19 : tby Try.prog 19 = 8 := by kernel_rfl
theorem ta19 : tagg Try.prog 19 = some true := by kernel_rfl
theorem tc19 : Try.prog.cellsOf 19 = 1 := by kernel_rfl
theorem tB19 : Try.prog.bytesOf 19 = 8 := by kernel_rfl
theorem ti19 : (Try.prog.info? 19).isSome = true := by kernel_rfl
theorem tf19_0 : tfield Try.prog 19 0 = some (0, 17) := by kernel_rfl
theorem tz19 : tzero Try.prog 19 = some (.agg #[.pointer none]) := by kernel_rfl
theorem ts21 : tsz Try.prog 21 = 1 := by kernel_rfl
theorem tb21 : tby Try.prog 21 = 4 := by kernel_rfl
theorem ta21 : tagg Try.prog 21 = some false := by kernel_rfl
theorem tc21 : Try.prog.cellsOf 21 = 1 := by kernel_rfl
theorem tB21 : Try.prog.bytesOf 21 = 4 := by kernel_rfl
theorem ti21 : (Try.prog.info? 21).isSome = true := by kernel_rfl
theorem tz21 : tzero Try.prog 21 = some (.int .i32 0) := by kernel_rfl
theorem ts22 : tsz Try.prog 22 = 1 := by kernel_rfl
theorem tb22 : tby Try.prog 22 = 24 := by kernel_rfl
theorem ta22 : tagg Try.prog 22 = some false := by kernel_rfl
theorem tc22 : Try.prog.cellsOf 22 = 1 := by kernel_rfl
theorem tB22 : Try.prog.bytesOf 22 = 24 := by kernel_rfl
theorem ti22 : (Try.prog.info? 22).isSome = true := by kernel_rfl
theorem te22 : telem Try.prog 22 = some 89 := by kernel_rfl
theorem tz22 : tzero Try.prog 22 = some (.slice none 0 0) := by kernel_rfl
theorem ts23 : tsz Try.prog 23 = 2 := by kernel_rfl
theorem tb23 : tby Try.prog 23 = 32 := by kernel_rfl
theorem ta23 : tagg Try.prog 23 = some true := by kernel_rfl
theorem tc23 : Try.prog.cellsOf 23 = 2 := by kernel_rfl
theorem tB23 : Try.prog.bytesOf 23 = 32 := by kernel_rfl
theorem ti23 : (Try.prog.info? 23).isSome = true := by kernel_rfl
theorem tf23_0 : tfield Try.prog 23 0 = some (0, 3) := by kernel_rfl
theorem tf23_1 : tfield Try.prog 23 1 = some (1, 22) := by kernel_rfl
theorem tz23 : tzero Try.prog 23 = some (.agg #[.int .i64 0, .slice none 0 0]) := by kernel_rfl
theorem ts24 : tsz Try.prog 24 = 2 := by kernel_rfl
theorem tb24 : tby Try.prog 24 = 32 := by kernel_rfl
theorem ta24 : tagg Try.prog 24 = some true := by kernel_rfl
theorem tc24 : Try.prog.cellsOf 24 = 2 := by kernel_rfl
theorem tB24 : Try.prog.bytesOf 24 = 32 := by kernel_rfl
theorem ti24 : (Try.prog.info? 24).isSome = true := by kernel_rfl
theorem tf24_0 : tfield Try.prog 24 0 = some (0, 3) := by kernel_rfl
theorem tf24_1 : tfield Try.prog 24 1 = some (1, 22) := by kernel_rfl
theorem tz24 : tzero Try.prog 24 = some (.agg #[.int .i64 0, .slice none 0 0]) := by kernel_rfl
theorem ts30 : tsz Try.prog 30 = 1 := by kernel_rfl
theorem tb30 : tby Try.prog 30 = 24 := by kernel_rfl
theorem ta30 : tagg Try.prog 30 = some false := by kernel_rfl
theorem tc30 : Try.prog.cellsOf 30 = 1 := by kernel_rfl
theorem tB30 : Try.prog.bytesOf 30 = 24 := by kernel_rfl
theorem ti30 : (Try.prog.info? 30).isSome = true := by kernel_rfl
theorem te30 : telem Try.prog 30 = some 76 := by kernel_rfl
theorem tz30 : tzero Try.prog 30 = some (.slice none 0 0) := by kernel_rfl
theorem ts33 : tsz Try.prog 33 = 1 := by kernel_rfl
theorem tb33 : tby Try.prog 33 = 24 := by kernel_rfl
theorem ta33 : tagg Try.prog 33 = some false := by kernel_rfl
theorem tc33 : Try.prog.cellsOf 33 = 1 := by kernel_rfl
theorem tB33 : Try.prog.bytesOf 33 = 24 := by kernel_rfl
theorem ti33 : (Try.prog.info? 33).isSome = true := by kernel_rfl
theorem te33 : telem Try.prog 33 = some 80 := by kernel_rfl
theorem tz33 : tzero Try.prog 33 = some (.slice none 0 0) := by kernel_rfl
theorem ts40 : tsz Try.prog 40 = 1 := by kernel_rfl
theorem tb40 : tby Try.prog 40 = 24 := by kernel_rfl
theorem ta40 : tagg Try.prog 40 = some false := by kernel_rfl
theorem tc40 : Try.prog.cellsOf 40 = 1 := by kernel_rfl
theorem tB40 : Try.prog.bytesOf 40 = 24 := by kernel_rfl
theorem ti40 : (Try.prog.info? 40).isSome = true := by kernel_rfl
theorem te40 : telem Try.prog 40 = some 141 := by kernel_rfl
theorem tz40 : tzero Try.prog 40 = some (.slice none 0 0) := by kernel_rfl
theorem ts41 : tsz Try.prog 41 = 2 := by kernel_rfl
theorem tb41 : tby Try.prog 41 = 32 := by kernel_rfl
theorem ta41 : tagg Try.prog 41 = some true := by kernel_rfl
theorem tc41 : Try.prog.cellsOf 41 = 2 := by kernel_rfl
theorem tB41 : Try.prog.bytesOf 41 = 32 := by kernel_rfl
theorem ti41 : (Try.prog.info? 41).isSome = true := by kernel_rfl
theorem tf41_0 : tfield Try.prog 41 0 = some (0, 3) := by kernel_rfl
theorem tf41_1 : tfield Try.prog 41 1 = some (1, 40) := by kernel_rfl
theorem tz41 : tzero Try.prog 41 = some (.agg #[.int .i64 0, .slice none 0 0]) := by kernel_rfl
theorem ts42 : tsz Try.prog 42 = 2 := by kernel_rfl
theorem tb42 : tby Try.prog 42 = 32 := by kernel_rfl
theorem ta42 : tagg Try.prog 42 = some true := by kernel_rfl
theorem tc42 : Try.prog.cellsOf 42 = 2 := by kernel_rfl
theorem tB42 : Try.prog.bytesOf 42 = 32 := by kernel_rfl
theorem ti42 : (Try.prog.info? 42).isSome = true := by kernel_rfl
theorem tf42_0 : tfield Try.prog 42 0 = some (0, 3) := by kernel_rfl
theorem tf42_1 : tfield Try.prog 42 1 = some (1, 40) := by kernel_rfl
theorem tz42 : tzero Try.prog 42 = some (.agg #[.int .i64 0, .slice none 0 0]) := by kernel_rfl
theorem ts47 : tsz Try.prog 47 = 1 := by kernel_rfl
theorem tb47 : tby Try.prog 47 = 24 := by kernel_rfl
theorem ta47 : tagg Try.prog 47 = some false := by kernel_rfl
theorem tc47 : Try.prog.cellsOf 47 = 1 := by kernel_rfl
theorem tB47 : Try.prog.bytesOf 47 = 24 := by kernel_rfl
theorem ti47 : (Try.prog.info? 47).isSome = true := by kernel_rfl
theorem te47 : telem Try.prog 47 = some 72 := by kernel_rfl
theorem tz47 : tzero Try.prog 47 = some (.slice none 0 0) := by kernel_rfl
theorem ts56 : tsz Try.prog 56 = 1 := by kernel_rfl
theorem tb56 : tby Try.prog 56 = 24 := by kernel_rfl
theorem ta56 : tagg Try.prog 56 = some false := by kernel_rfl
theorem tc56 : Try.prog.cellsOf 56 = 1 := by kernel_rfl
theorem tB56 : Try.prog.bytesOf 56 = 24 := by kernel_rfl
theorem ti56 : (Try.prog.info? 56).isSome = true := by kernel_rfl
theorem te56 : telem Try.prog 56 = some 110 := by kernel_rfl
theorem tz56 : tzero Try.prog 56 = some (.slice none 0 0) := by kernel_rfl
theorem ts61 : tsz Try.prog 61 = 1 := by kernel_rfl
theorem tb61 : tby Try.prog 61 = 24 := by kernel_rfl
theorem ta61 : tagg Try.prog 61 = some false := by kernel_rfl
theorem tc61 : Try.prog.cellsOf 61 = 1 := by kernel_rfl
theorem tB61 : Try.prog.bytesOf 61 = 24 := by kernel_rfl
theorem ti61 : (Try.prog.info? 61).isSome = true := by kernel_rfl
theorem te61 : telem Try.prog 61 = some 120 := by kernel_rfl
theorem tz61 : tzero Try.prog 61 = some (.slice none 0 0) := by kernel_rfl
theorem ts70 : tsz Try.prog 70 = 2 := by kernel_rfl
theorem tb70 : tby Try.prog 70 = 16 := by kernel_rfl
theorem ta70 : tagg Try.prog 70 = some true := by kernel_rfl
theorem tc70 : Try.prog.cellsOf 70 = 2 := by kernel_rfl
theorem tB70 : Try.prog.bytesOf 70 = 16 := by kernel_rfl
theorem ti70 : (Try.prog.info? 70).isSome = true := by kernel_rfl
theorem tq70 : isPairT Try.prog 70 = true := by kernel_rfl
theorem tf70_0 : tfield Try.prog 70 0 = some (0, 3) := by kernel_rfl
theorem tf70_1 : tfield Try.prog 70 1 = some (1, 3) := by kernel_rfl
theorem tz70 : tzero Try.prog 70 = some (.agg #[.int .i64 0, .int .i64 0]) := by kernel_rfl
theorem ts71 : tsz Try.prog 71 = 2 := by kernel_rfl
theorem tb71 : tby Try.prog 71 = 16 := by kernel_rfl
theorem ta71 : tagg Try.prog 71 = some true := by kernel_rfl
theorem tc71 : Try.prog.cellsOf 71 = 2 := by kernel_rfl
theorem tB71 : Try.prog.bytesOf 71 = 16 := by kernel_rfl
theorem ti71 : (Try.prog.info? 71).isSome = true := by kernel_rfl
theorem tq71 : isPairT Try.prog 71 = true := by kernel_rfl
theorem tf71_0 : tfield Try.prog 71 0 = some (0, 3) := by kernel_rfl
theorem tf71_1 : tfield Try.prog 71 1 = some (1, 3) := by kernel_rfl
theorem tz71 : tzero Try.prog 71 = some (.agg #[.int .i64 0, .int .i64 0]) := by kernel_rfl
theorem ts72 : tsz Try.prog 72 = 1 := by kernel_rfl
theorem tb72 : tby Try.prog 72 = 24 := by kernel_rfl
theorem ta72 : tagg Try.prog 72 = some false := by kernel_rfl
theorem tc72 : Try.prog.cellsOf 72 = 1 := by kernel_rfl
theorem tB72 : Try.prog.bytesOf 72 = 24 := by kernel_rfl
theorem ti72 : (Try.prog.info? 72).isSome = true := by kernel_rfl
theorem te72 : telem Try.prog 72 = some 3 := by kernel_rfl
theorem tz72 : tzero Try.prog 72 = some (.slice none 0 0) := by kernel_rfl
theorem ts73 : tsz Try.prog 73 = 6 := by kernel_rfl
theorem tb73 : tby Try.prog 73 = 80 := by kernel_rfl
theorem ta73 : tagg Try.prog 73 = some true := by kernel_rfl
theorem tc73 : Try.prog.cellsOf 73 = 6 := by kernel_rfl
theorem tB73 : Try.prog.bytesOf 73 = 80 := by kernel_rfl
theorem ti73 : (Try.prog.info? 73).isSome = true := by kernel_rfl
theorem tf73_0 : tfield Try.prog 73 0 = some (0, 3) := by kernel_rfl
theorem tf73_1 : tfield Try.prog 73 1 = some (1, 72) := by kernel_rfl
theorem tf73_2 : tfield Try.prog 73 2 = some (2, 3) := by kernel_rfl
theorem tf73_3 : tfield Try.prog 73 3 = some (3, 3) := by kernel_rfl
theorem tf73_4 : tfield Try.prog 73 4 = some (4, 3) := by kernel_rfl
theorem tf73_5 : tfield Try.prog 73 5 = some (5, 72) := by kernel_rfl
theorem tz73 : tzero Try.prog 73 = some (.agg #[.int .i64 0, .slice none 0 0, .int .i64 0, .int .i64 0, .int .i64 0, .slice none 0 0]) := by kernel_rfl
theorem ts74 : tsz Try.prog 74 = 6 := by kernel_rfl
theorem tb74 : tby Try.prog 74 = 80 := by kernel_rfl
theorem ta74 : tagg Try.prog 74 = some true := by kernel_rfl
theorem tc74 : Try.prog.cellsOf 74 = 6 := by kernel_rfl
theorem tB74 : Try.prog.bytesOf 74 = 80 := by kernel_rfl
theorem ti74 : (Try.prog.info? 74).isSome = true := by kernel_rfl
theorem tf74_0 : tfield Try.prog 74 0 = some (0, 3) := by kernel_rfl
theorem tf74_1 : tfield Try.prog 74 1 = some (1, 72) := by kernel_rfl
theorem tf74_2 : tfield Try.prog 74 2 = some (2, 3) := by kernel_rfl
theorem tf74_3 : tfield Try.prog 74 3 = some (3, 3) := by kernel_rfl
theorem tf74_4 : tfield Try.prog 74 4 = some (4, 3) := by kernel_rfl
theorem tf74_5 : tfield Try.prog 74 5 = some (5, 72) := by kernel_rfl
theorem tz74 : tzero Try.prog 74 = some (.agg #[.int .i64 0, .slice none 0 0, .int .i64 0, .int .i64 0, .int .i64 0, .slice none 0 0]) := by kernel_rfl
theorem ts75 : tsz Try.prog 75 = 8 := by kernel_rfl
theorem tb75 : tby Try.prog 75 = 96 := by kernel_rfl
theorem ta75 : tagg Try.prog 75 = some true := by kernel_rfl
theorem tc75 : Try.prog.cellsOf 75 = 8 := by kernel_rfl
theorem tB75 : Try.prog.bytesOf 75 = 96 := by kernel_rfl
theorem ti75 : (Try.prog.info? 75).isSome = true := by kernel_rfl
theorem tf75_0 : tfield Try.prog 75 0 = some (0, 71) := by kernel_rfl
theorem tf75_1 : tfield Try.prog 75 1 = some (2, 74) := by kernel_rfl
theorem tz75 : tzero Try.prog 75 = some (.agg #[.int .i64 0, .int .i64 0, .int .i64 0, .slice none 0 0, .int .i64 0, .int .i64 0, .int .i64 0, .slice none 0 0]) := by kernel_rfl
theorem ts76 : tsz Try.prog 76 = 8 := by kernel_rfl
theorem tb76 : tby Try.prog 76 = 96 := by kernel_rfl
theorem ta76 : tagg Try.prog 76 = some true := by kernel_rfl
theorem tc76 : Try.prog.cellsOf 76 = 8 := by kernel_rfl
theorem tB76 : Try.prog.bytesOf 76 = 96 := by kernel_rfl
theorem ti76 : (Try.prog.info? 76).isSome = true := by kernel_rfl
theorem tf76_0 : tfield Try.prog 76 0 = some (0, 71) := by kernel_rfl
theorem tf76_1 : tfield Try.prog 76 1 = some (2, 74) := by kernel_rfl
theorem tz76 : tzero Try.prog 76 = some (.agg #[.int .i64 0, .int .i64 0, .int .i64 0, .slice none 0 0, .int .i64 0, .int .i64 0, .int .i64 0, .slice none 0 0]) := by kernel_rfl
theorem ts77 : tsz Try.prog 77 = 2 := by kernel_rfl
theorem tb77 : tby Try.prog 77 = 16 := by kernel_rfl
theorem ta77 : tagg Try.prog 77 = some true := by kernel_rfl
theorem tc77 : Try.prog.cellsOf 77 = 2 := by kernel_rfl
theorem tB77 : Try.prog.bytesOf 77 = 16 := by kernel_rfl
theorem ti77 : (Try.prog.info? 77).isSome = true := by kernel_rfl
theorem tq77 : isPairT Try.prog 77 = true := by kernel_rfl
theorem tf77_0 : tfield Try.prog 77 0 = some (0, 3) := by kernel_rfl
theorem tf77_1 : tfield Try.prog 77 1 = some (1, 3) := by kernel_rfl
theorem tz77 : tzero Try.prog 77 = some (.agg #[.int .i64 0, .int .i64 0]) := by kernel_rfl
theorem ts78 : tsz Try.prog 78 = 6 := by kernel_rfl
theorem tb78 : tby Try.prog 78 = 80 := by kernel_rfl
theorem ta78 : tagg Try.prog 78 = some true := by kernel_rfl
theorem tc78 : Try.prog.cellsOf 78 = 6 := by kernel_rfl
theorem tB78 : Try.prog.bytesOf 78 = 80 := by kernel_rfl
theorem ti78 : (Try.prog.info? 78).isSome = true := by kernel_rfl
theorem tf78_0 : tfield Try.prog 78 0 = some (0, 3) := by kernel_rfl
theorem tf78_1 : tfield Try.prog 78 1 = some (1, 72) := by kernel_rfl
theorem tf78_2 : tfield Try.prog 78 2 = some (2, 3) := by kernel_rfl
theorem tf78_3 : tfield Try.prog 78 3 = some (3, 3) := by kernel_rfl
theorem tf78_4 : tfield Try.prog 78 4 = some (4, 3) := by kernel_rfl
theorem tf78_5 : tfield Try.prog 78 5 = some (5, 72) := by kernel_rfl
theorem tz78 : tzero Try.prog 78 = some (.agg #[.int .i64 0, .slice none 0 0, .int .i64 0, .int .i64 0, .int .i64 0, .slice none 0 0]) := by kernel_rfl
theorem ts79 : tsz Try.prog 79 = 8 := by kernel_rfl
theorem tb79 : tby Try.prog 79 = 96 := by kernel_rfl
theorem ta79 : tagg Try.prog 79 = some true := by kernel_rfl
theorem tc79 : Try.prog.cellsOf 79 = 8 := by kernel_rfl
theorem tB79 : Try.prog.bytesOf 79 = 96 := by kernel_rfl
theorem ti79 : (Try.prog.info? 79).isSome = true := by kernel_rfl
theorem tf79_0 : tfield Try.prog 79 0 = some (0, 77) := by kernel_rfl
theorem tf79_1 : tfield Try.prog 79 1 = some (2, 78) := by kernel_rfl
theorem tz79 : tzero Try.prog 79 = some (.agg #[.int .i64 0, .int .i64 0, .int .i64 0, .slice none 0 0, .int .i64 0, .int .i64 0, .int .i64 0, .slice none 0 0]) := by kernel_rfl
theorem ts80 : tsz Try.prog 80 = 8 := by kernel_rfl
theorem tb80 : tby Try.prog 80 = 96 := by kernel_rfl
theorem ta80 : tagg Try.prog 80 = some true := by kernel_rfl
theorem tc80 : Try.prog.cellsOf 80 = 8 := by kernel_rfl
theorem tB80 : Try.prog.bytesOf 80 = 96 := by kernel_rfl
theorem ti80 : (Try.prog.info? 80).isSome = true := by kernel_rfl
theorem tf80_0 : tfield Try.prog 80 0 = some (0, 77) := by kernel_rfl
theorem tf80_1 : tfield Try.prog 80 1 = some (2, 78) := by kernel_rfl
theorem tz80 : tzero Try.prog 80 = some (.agg #[.int .i64 0, .int .i64 0, .int .i64 0, .slice none 0 0, .int .i64 0, .int .i64 0, .int .i64 0, .slice none 0 0]) := by kernel_rfl
theorem ts87 : tsz Try.prog 87 = 1 := by kernel_rfl
theorem tb87 : tby Try.prog 87 = 24 := by kernel_rfl
theorem ta87 : tagg Try.prog 87 = some false := by kernel_rfl
theorem tc87 : Try.prog.cellsOf 87 = 1 := by kernel_rfl
theorem tB87 : Try.prog.bytesOf 87 = 24 := by kernel_rfl
theorem ti87 : (Try.prog.info? 87).isSome = true := by kernel_rfl
theorem te87 : telem Try.prog 87 = some 97 := by kernel_rfl
theorem tz87 : tzero Try.prog 87 = some (.slice none 0 0) := by kernel_rfl
theorem ts88 : tsz Try.prog 88 = 3 := by kernel_rfl
theorem tb88 : tby Try.prog 88 = 40 := by kernel_rfl
theorem ta88 : tagg Try.prog 88 = some true := by kernel_rfl
theorem tc88 : Try.prog.cellsOf 88 = 3 := by kernel_rfl
theorem tB88 : Try.prog.bytesOf 88 = 40 := by kernel_rfl
theorem ti88 : (Try.prog.info? 88).isSome = true := by kernel_rfl
theorem tf88_0 : tfield Try.prog 88 0 = some (0, 77) := by kernel_rfl
theorem tf88_1 : tfield Try.prog 88 1 = some (2, 87) := by kernel_rfl
theorem tz88 : tzero Try.prog 88 = some (.agg #[.int .i64 0, .int .i64 0, .slice none 0 0]) := by kernel_rfl
theorem ts89 : tsz Try.prog 89 = 3 := by kernel_rfl
theorem tb89 : tby Try.prog 89 = 40 := by kernel_rfl
theorem ta89 : tagg Try.prog 89 = some true := by kernel_rfl
theorem tc89 : Try.prog.cellsOf 89 = 3 := by kernel_rfl
theorem tB89 : Try.prog.bytesOf 89 = 40 := by kernel_rfl
theorem ti89 : (Try.prog.info? 89).isSome = true := by kernel_rfl
theorem tf89_0 : tfield Try.prog 89 0 = some (0, 77) := by kernel_rfl
theorem tf89_1 : tfield Try.prog 89 1 = some (2, 87) := by kernel_rfl
theorem tz89 : tzero Try.prog 89 = some (.agg #[.int .i64 0, .int .i64 0, .slice none 0 0]) := by kernel_rfl
theorem ts96 : tsz Try.prog 96 = 7 := by kernel_rfl
theorem tb96 : tby Try.prog 96 = 88 := by kernel_rfl
theorem ta96 : tagg Try.prog 96 = some true := by kernel_rfl
theorem tc96 : Try.prog.cellsOf 96 = 7 := by kernel_rfl
theorem tB96 : Try.prog.bytesOf 96 = 88 := by kernel_rfl
theorem ti96 : (Try.prog.info? 96).isSome = true := by kernel_rfl
theorem tf96_0 : tfield Try.prog 96 0 = some (0, 3) := by kernel_rfl
theorem tf96_1 : tfield Try.prog 96 1 = some (1, 78) := by kernel_rfl
theorem tz96 : tzero Try.prog 96 = some (.agg #[.int .i64 0, .int .i64 0, .slice none 0 0, .int .i64 0, .int .i64 0, .int .i64 0, .slice none 0 0]) := by kernel_rfl
theorem ts97 : tsz Try.prog 97 = 7 := by kernel_rfl
theorem tb97 : tby Try.prog 97 = 88 := by kernel_rfl
theorem ta97 : tagg Try.prog 97 = some true := by kernel_rfl
theorem tc97 : Try.prog.cellsOf 97 = 7 := by kernel_rfl
theorem tB97 : Try.prog.bytesOf 97 = 88 := by kernel_rfl
theorem ti97 : (Try.prog.info? 97).isSome = true := by kernel_rfl
theorem tf97_0 : tfield Try.prog 97 0 = some (0, 3) := by kernel_rfl
theorem tf97_1 : tfield Try.prog 97 1 = some (1, 78) := by kernel_rfl
theorem tz97 : tzero Try.prog 97 = some (.agg #[.int .i64 0, .int .i64 0, .slice none 0 0, .int .i64 0, .int .i64 0, .int .i64 0, .slice none 0 0]) := by kernel_rfl
theorem ts102 : tsz Try.prog 102 = 1 := by kernel_rfl
theorem tb102 : tby Try.prog 102 = 24 := by kernel_rfl
theorem ta102 : tagg Try.prog 102 = some false := by kernel_rfl
theorem tc102 : Try.prog.cellsOf 102 = 1 := by kernel_rfl
theorem tB102 : Try.prog.bytesOf 102 = 24 := by kernel_rfl
theorem ti102 : (Try.prog.info? 102).isSome = true := by kernel_rfl
theorem te102 : telem Try.prog 102 = some 77 := by kernel_rfl
theorem tz102 : tzero Try.prog 102 = some (.slice none 0 0) := by kernel_rfl
theorem ts109 : tsz Try.prog 109 = 8 := by kernel_rfl
theorem tb109 : tby Try.prog 109 = 128 := by kernel_rfl
theorem ta109 : tagg Try.prog 109 = some true := by kernel_rfl
theorem tc109 : Try.prog.cellsOf 109 = 8 := by kernel_rfl
theorem tB109 : Try.prog.bytesOf 109 = 128 := by kernel_rfl
theorem ti109 : (Try.prog.info? 109).isSome = true := by kernel_rfl
theorem tf109_0 : tfield Try.prog 109 0 = some (0, 102) := by kernel_rfl
theorem tf109_1 : tfield Try.prog 109 1 = some (1, 78) := by kernel_rfl
theorem tf109_2 : tfield Try.prog 109 2 = some (7, 102) := by kernel_rfl
theorem tz109 : tzero Try.prog 109 = some (.agg #[.slice none 0 0, .int .i64 0, .slice none 0 0, .int .i64 0, .int .i64 0, .int .i64 0, .slice none 0 0, .slice none 0 0]) := by kernel_rfl
theorem ts110 : tsz Try.prog 110 = 8 := by kernel_rfl
theorem tb110 : tby Try.prog 110 = 128 := by kernel_rfl
theorem ta110 : tagg Try.prog 110 = some true := by kernel_rfl
theorem tc110 : Try.prog.cellsOf 110 = 8 := by kernel_rfl
theorem tB110 : Try.prog.bytesOf 110 = 128 := by kernel_rfl
theorem ti110 : (Try.prog.info? 110).isSome = true := by kernel_rfl
theorem tf110_0 : tfield Try.prog 110 0 = some (0, 102) := by kernel_rfl
theorem tf110_1 : tfield Try.prog 110 1 = some (1, 78) := by kernel_rfl
theorem tf110_2 : tfield Try.prog 110 2 = some (7, 102) := by kernel_rfl
theorem tz110 : tzero Try.prog 110 = some (.agg #[.slice none 0 0, .int .i64 0, .slice none 0 0, .int .i64 0, .int .i64 0, .int .i64 0, .slice none 0 0, .slice none 0 0]) := by kernel_rfl
theorem ts118 : tsz Try.prog 118 = 1 := by kernel_rfl
theorem tb118 : tby Try.prog 118 = 24 := by kernel_rfl
theorem ta118 : tagg Try.prog 118 = some false := by kernel_rfl
theorem tc118 : Try.prog.cellsOf 118 = 1 := by kernel_rfl
theorem tB118 : Try.prog.bytesOf 118 = 24 := by kernel_rfl
theorem ti118 : (Try.prog.info? 118).isSome = true := by kernel_rfl
theorem te118 : telem Try.prog 118 = some 71 := by kernel_rfl
theorem tz118 : tzero Try.prog 118 = some (.slice none 0 0) := by kernel_rfl
theorem ts119 : tsz Try.prog 119 = 8 := by kernel_rfl
theorem tb119 : tby Try.prog 119 = 128 := by kernel_rfl
theorem ta119 : tagg Try.prog 119 = some true := by kernel_rfl
theorem tc119 : Try.prog.cellsOf 119 = 8 := by kernel_rfl
theorem tB119 : Try.prog.bytesOf 119 = 128 := by kernel_rfl
theorem ti119 : (Try.prog.info? 119).isSome = true := by kernel_rfl
theorem tf119_0 : tfield Try.prog 119 0 = some (0, 118) := by kernel_rfl
theorem tf119_1 : tfield Try.prog 119 1 = some (1, 74) := by kernel_rfl
theorem tf119_2 : tfield Try.prog 119 2 = some (7, 118) := by kernel_rfl
theorem tz119 : tzero Try.prog 119 = some (.agg #[.slice none 0 0, .int .i64 0, .slice none 0 0, .int .i64 0, .int .i64 0, .int .i64 0, .slice none 0 0, .slice none 0 0]) := by kernel_rfl
theorem ts120 : tsz Try.prog 120 = 8 := by kernel_rfl
theorem tb120 : tby Try.prog 120 = 128 := by kernel_rfl
theorem ta120 : tagg Try.prog 120 = some true := by kernel_rfl
theorem tc120 : Try.prog.cellsOf 120 = 8 := by kernel_rfl
theorem tB120 : Try.prog.bytesOf 120 = 128 := by kernel_rfl
theorem ti120 : (Try.prog.info? 120).isSome = true := by kernel_rfl
theorem tf120_0 : tfield Try.prog 120 0 = some (0, 118) := by kernel_rfl
theorem tf120_1 : tfield Try.prog 120 1 = some (1, 74) := by kernel_rfl
theorem tf120_2 : tfield Try.prog 120 2 = some (7, 118) := by kernel_rfl
theorem tz120 : tzero Try.prog 120 = some (.agg #[.slice none 0 0, .int .i64 0, .slice none 0 0, .int .i64 0, .int .i64 0, .int .i64 0, .slice none 0 0, .slice none 0 0]) := by kernel_rfl
theorem ts139 : tsz Try.prog 139 = 1 := by kernel_rfl
theorem tb139 : tby Try.prog 139 = 24 := by kernel_rfl
theorem ta139 : tagg Try.prog 139 = some false := by kernel_rfl
theorem tc139 : Try.prog.cellsOf 139 = 1 := by kernel_rfl
theorem tB139 : Try.prog.bytesOf 139 = 24 := by kernel_rfl
theorem ti139 : (Try.prog.info? 139).isSome = true := by kernel_rfl
theorem te139 : telem Try.prog 139 = some 175 := by kernel_rfl
theorem tz139 : tzero Try.prog 139 = some (.slice none 0 0) := by kernel_rfl
theorem ts140 : tsz Try.prog 140 = 3 := by kernel_rfl
theorem tb140 : tby Try.prog 140 = 40 := by kernel_rfl
theorem ta140 : tagg Try.prog 140 = some true := by kernel_rfl
theorem tc140 : Try.prog.cellsOf 140 = 3 := by kernel_rfl
theorem tB140 : Try.prog.bytesOf 140 = 40 := by kernel_rfl
theorem ti140 : (Try.prog.info? 140).isSome = true := by kernel_rfl
theorem tf140_0 : tfield Try.prog 140 0 = some (0, 71) := by kernel_rfl
theorem tf140_1 : tfield Try.prog 140 1 = some (2, 139) := by kernel_rfl
theorem tz140 : tzero Try.prog 140 = some (.agg #[.int .i64 0, .int .i64 0, .slice none 0 0]) := by kernel_rfl
theorem ts141 : tsz Try.prog 141 = 3 := by kernel_rfl
theorem tb141 : tby Try.prog 141 = 40 := by kernel_rfl
theorem ta141 : tagg Try.prog 141 = some true := by kernel_rfl
theorem tc141 : Try.prog.cellsOf 141 = 3 := by kernel_rfl
theorem tB141 : Try.prog.bytesOf 141 = 40 := by kernel_rfl
theorem ti141 : (Try.prog.info? 141).isSome = true := by kernel_rfl
theorem tf141_0 : tfield Try.prog 141 0 = some (0, 71) := by kernel_rfl
theorem tf141_1 : tfield Try.prog 141 1 = some (2, 139) := by kernel_rfl
theorem tz141 : tzero Try.prog 141 = some (.agg #[.int .i64 0, .int .i64 0, .slice none 0 0]) := by kernel_rfl
theorem ts167 : tsz Try.prog 167 = 1 := by kernel_rfl
theorem tb167 : tby Try.prog 167 = 8 := by kernel_rfl
theorem ta167 : tagg Try.prog 167 = some false := by kernel_rfl
theorem tc167 : Try.prog.cellsOf 167 = 1 := by kernel_rfl
theorem tB167 : Try.prog.bytesOf 167 = 8 := by kernel_rfl
theorem ti167 : (Try.prog.info? 167).isSome = true := by kernel_rfl
theorem tz167 : tzero Try.prog 167 = some (.int .u64 0) := by kernel_rfl
theorem ts174 : tsz Try.prog 174 = 7 := by kernel_rfl
theorem tb174 : tby Try.prog 174 = 88 := by kernel_rfl
theorem ta174 : tagg Try.prog 174 = some true := by kernel_rfl
theorem tc174 : Try.prog.cellsOf 174 = 7 := by kernel_rfl
theorem tB174 : Try.prog.bytesOf 174 = 88 := by kernel_rfl
theorem ti174 : (Try.prog.info? 174).isSome = true := by kernel_rfl
theorem tf174_0 : tfield Try.prog 174 0 = some (0, 3) := by kernel_rfl
theorem tf174_1 : tfield Try.prog 174 1 = some (1, 74) := by kernel_rfl
theorem tz174 : tzero Try.prog 174 = some (.agg #[.int .i64 0, .int .i64 0, .slice none 0 0, .int .i64 0, .int .i64 0, .int .i64 0, .slice none 0 0]) := by kernel_rfl
theorem ts175 : tsz Try.prog 175 = 7 := by kernel_rfl
theorem tb175 : tby Try.prog 175 = 88 := by kernel_rfl
theorem ta175 : tagg Try.prog 175 = some true := by kernel_rfl
theorem tc175 : Try.prog.cellsOf 175 = 7 := by kernel_rfl
theorem tB175 : Try.prog.bytesOf 175 = 88 := by kernel_rfl
theorem ti175 : (Try.prog.info? 175).isSome = true := by kernel_rfl
theorem tf175_0 : tfield Try.prog 175 0 = some (0, 3) := by kernel_rfl
theorem tf175_1 : tfield Try.prog 175 1 = some (1, 74) := by kernel_rfl
theorem tz175 : tzero Try.prog 175 = some (.agg #[.int .i64 0, .int .i64 0, .slice none 0 0, .int .i64 0, .int .i64 0, .int .i64 0, .slice none 0 0]) := by kernel_rfl
theorem ts180 : tsz Try.prog 180 = 4 := by kernel_rfl
theorem tb180 : tby Try.prog 180 = 40 := by kernel_rfl
theorem ta180 : tagg Try.prog 180 = some true := by kernel_rfl
theorem tc180 : Try.prog.cellsOf 180 = 4 := by kernel_rfl
theorem tB180 : Try.prog.bytesOf 180 = 40 := by kernel_rfl
theorem ti180 : (Try.prog.info? 180).isSome = true := by kernel_rfl
theorem tf180_0 : tfield Try.prog 180 0 = some (0, 17) := by kernel_rfl
theorem tf180_1 : tfield Try.prog 180 1 = some (1, 17) := by kernel_rfl
theorem tf180_2 : tfield Try.prog 180 2 = some (2, 17) := by kernel_rfl
theorem tf180_3 : tfield Try.prog 180 3 = some (3, 9) := by kernel_rfl
theorem tz180 : tzero Try.prog 180 = some (.agg #[.pointer none, .pointer none, .pointer none, .string ByteArray.empty]) := by kernel_rfl
theorem ts181 : tsz Try.prog 181 = 4 := by kernel_rfl
theorem tb181 : tby Try.prog 181 = 40 := by kernel_rfl
theorem ta181 : tagg Try.prog 181 = some true := by kernel_rfl
theorem tc181 : Try.prog.cellsOf 181 = 4 := by kernel_rfl
theorem tB181 : Try.prog.bytesOf 181 = 40 := by kernel_rfl
theorem ti181 : (Try.prog.info? 181).isSome = true := by kernel_rfl
theorem tf181_0 : tfield Try.prog 181 0 = some (0, 17) := by kernel_rfl
theorem tf181_1 : tfield Try.prog 181 1 = some (1, 17) := by kernel_rfl
theorem tf181_2 : tfield Try.prog 181 2 = some (2, 17) := by kernel_rfl
theorem tf181_3 : tfield Try.prog 181 3 = some (3, 9) := by kernel_rfl
theorem tz181 : tzero Try.prog 181 = some (.agg #[.pointer none, .pointer none, .pointer none, .string ByteArray.empty]) := by kernel_rfl
theorem ts183 : tsz Try.prog 183 = 0 := by kernel_rfl
theorem tb183 : tby Try.prog 183 = 0 := by kernel_rfl
theorem ta183 : tagg Try.prog 183 = some true := by kernel_rfl
theorem tc183 : Try.prog.cellsOf 183 = 0 := by kernel_rfl
theorem tB183 : Try.prog.bytesOf 183 = 0 := by kernel_rfl
theorem ti183 : (Try.prog.info? 183).isSome = true := by kernel_rfl
theorem tf183_0 : tfield Try.prog 183 0 = some (0, 182) := by kernel_rfl
theorem ts184 : tsz Try.prog 184 = 0 := by kernel_rfl
theorem tb184 : tby Try.prog 184 = 0 := by kernel_rfl
theorem ta184 : tagg Try.prog 184 = some true := by kernel_rfl
theorem tc184 : Try.prog.cellsOf 184 = 0 := by kernel_rfl
theorem tB184 : Try.prog.bytesOf 184 = 0 := by kernel_rfl
theorem ti184 : (Try.prog.info? 184).isSome = true := by kernel_rfl
theorem tf184_0 : tfield Try.prog 184 0 = some (0, 182) := by kernel_rfl
theorem ts186 : tsz Try.prog 186 = 1 := by kernel_rfl
theorem tb186 : tby Try.prog 186 = 4 := by kernel_rfl
theorem ta186 : tagg Try.prog 186 = some false := by kernel_rfl
theorem tc186 : Try.prog.cellsOf 186 = 1 := by kernel_rfl
theorem tB186 : Try.prog.bytesOf 186 = 4 := by kernel_rfl
theorem ti186 : (Try.prog.info? 186).isSome = true := by kernel_rfl
theorem tz186 : tzero Try.prog 186 = some (.int .u32 0) := by kernel_rfl
theorem ts187 : tsz Try.prog 187 = 1 := by kernel_rfl
theorem tb187 : tby Try.prog 187 = 1 := by kernel_rfl
theorem ta187 : tagg Try.prog 187 = some false := by kernel_rfl
theorem tc187 : Try.prog.cellsOf 187 = 1 := by kernel_rfl
theorem tB187 : Try.prog.bytesOf 187 = 1 := by kernel_rfl
theorem ti187 : (Try.prog.info? 187).isSome = true := by kernel_rfl
theorem tz187 : tzero Try.prog 187 = some (.int .u8 0) := by kernel_rfl
theorem ts188 : tsz Try.prog 188 = 1 := by kernel_rfl
theorem tb188 : tby Try.prog 188 = 1 := by kernel_rfl
theorem ta188 : tagg Try.prog 188 = some false := by kernel_rfl
theorem tc188 : Try.prog.cellsOf 188 = 1 := by kernel_rfl
theorem tB188 : Try.prog.bytesOf 188 = 1 := by kernel_rfl
theorem ti188 : (Try.prog.info? 188).isSome = true := by kernel_rfl
theorem tz188 : tzero Try.prog 188 = some (.int .u8 0) := by kernel_rfl
theorem ts190 : tsz Try.prog 190 = 1 := by kernel_rfl
theorem tb190 : tby Try.prog 190 = 8 := by kernel_rfl
theorem ta190 : tagg Try.prog 190 = some false := by kernel_rfl
theorem tc190 : Try.prog.cellsOf 190 = 1 := by kernel_rfl
theorem tB190 : Try.prog.bytesOf 190 = 8 := by kernel_rfl
theorem ti190 : (Try.prog.info? 190).isSome = true := by kernel_rfl
theorem tz190 : tzero Try.prog 190 = some (.pointer none) := by kernel_rfl
theorem ts191 : tsz Try.prog 191 = 1 := by kernel_rfl
theorem tb191 : tby Try.prog 191 = 4 := by kernel_rfl
theorem ta191 : tagg Try.prog 191 = some false := by kernel_rfl
theorem tc191 : Try.prog.cellsOf 191 = 1 := by kernel_rfl
theorem tB191 : Try.prog.bytesOf 191 = 4 := by kernel_rfl
theorem ti191 : (Try.prog.info? 191).isSome = true := by kernel_rfl
theorem tz191 : tzero Try.prog 191 = some (.int .i32 0) := by kernel_rfl
theorem ts192 : tsz Try.prog 192 = 1 := by kernel_rfl
theorem tb192 : tby Try.prog 192 = 4 := by kernel_rfl
theorem ta192 : tagg Try.prog 192 = some false := by kernel_rfl
theorem tc192 : Try.prog.cellsOf 192 = 1 := by kernel_rfl
theorem tB192 : Try.prog.bytesOf 192 = 4 := by kernel_rfl
theorem ti192 : (Try.prog.info? 192).isSome = true := by kernel_rfl
theorem tz192 : tzero Try.prog 192 = some (.int .i32 0) := by kernel_rfl
theorem ts193 : tsz Try.prog 193 = 11 := by kernel_rfl
theorem tb193 : tby Try.prog 193 = 48 := by kernel_rfl
theorem ta193 : tagg Try.prog 193 = some true := by kernel_rfl
theorem tc193 : Try.prog.cellsOf 193 = 11 := by kernel_rfl
theorem tB193 : Try.prog.bytesOf 193 = 48 := by kernel_rfl
theorem ti193 : (Try.prog.info? 193).isSome = true := by kernel_rfl
theorem tf193_0 : tfield Try.prog 193 0 = some (0, 12) := by kernel_rfl
theorem tf193_1 : tfield Try.prog 193 1 = some (1, 12) := by kernel_rfl
theorem tf193_2 : tfield Try.prog 193 2 = some (2, 186) := by kernel_rfl
theorem tf193_3 : tfield Try.prog 193 3 = some (3, 187) := by kernel_rfl
theorem tf193_4 : tfield Try.prog 193 4 = some (4, 5) := by kernel_rfl
theorem tf193_5 : tfield Try.prog 193 5 = some (5, 5) := by kernel_rfl
theorem tf193_6 : tfield Try.prog 193 6 = some (6, 188) := by kernel_rfl
theorem tf193_7 : tfield Try.prog 193 7 = some (7, 189) := by kernel_rfl
theorem tf193_8 : tfield Try.prog 193 8 = some (8, 190) := by kernel_rfl
theorem tf193_9 : tfield Try.prog 193 9 = some (9, 191) := by kernel_rfl
theorem tf193_10 : tfield Try.prog 193 10 = some (10, 192) := by kernel_rfl
theorem ts194 : tsz Try.prog 194 = 11 := by kernel_rfl
theorem tb194 : tby Try.prog 194 = 48 := by kernel_rfl
theorem ta194 : tagg Try.prog 194 = some true := by kernel_rfl
theorem tc194 : Try.prog.cellsOf 194 = 11 := by kernel_rfl
theorem tB194 : Try.prog.bytesOf 194 = 48 := by kernel_rfl
theorem ti194 : (Try.prog.info? 194).isSome = true := by kernel_rfl
theorem tf194_0 : tfield Try.prog 194 0 = some (0, 12) := by kernel_rfl
theorem tf194_1 : tfield Try.prog 194 1 = some (1, 12) := by kernel_rfl
theorem tf194_2 : tfield Try.prog 194 2 = some (2, 186) := by kernel_rfl
theorem tf194_3 : tfield Try.prog 194 3 = some (3, 187) := by kernel_rfl
theorem tf194_4 : tfield Try.prog 194 4 = some (4, 5) := by kernel_rfl
theorem tf194_5 : tfield Try.prog 194 5 = some (5, 5) := by kernel_rfl
theorem tf194_6 : tfield Try.prog 194 6 = some (6, 188) := by kernel_rfl
theorem tf194_7 : tfield Try.prog 194 7 = some (7, 189) := by kernel_rfl
theorem tf194_8 : tfield Try.prog 194 8 = some (8, 190) := by kernel_rfl
theorem tf194_9 : tfield Try.prog 194 9 = some (9, 191) := by kernel_rfl
theorem tf194_10 : tfield Try.prog 194 10 = some (10, 192) := by kernel_rfl
attribute [simp] ts2 tb2 ta2 tc2 tB2 ti2 tz2 ts3 tb3 ta3 tc3 tB3 ti3 tz3 ts4 tb4 ta4 tc4 tB4 ti4 tz4 ts5 tb5 ta5 tc5 tB5 ti5 tz5 ts6 tb6 ta6 tc6 tB6 ti6 tz6 ts7 tb7 ta7 tc7 tB7 ti7 tf7_0 tf7_1 tf7_2 tf7_3 tz7 ts8 tb8 ta8 tc8 tB8 ti8 tf8_0 tf8_1 tf8_2 tf8_3 tz8 ts9 tb9 ta9 tc9 tB9 ti9 tz9 ts10 tb10 ta10 tc10 tB10 ti10 tz10 ts11 tb11 ta11 tc11 tB11 ti11 tz11 ts12 tb12 ta12 tc12 tB12 ti12 tz12 ts13 tb13 ta13 tc13 tB13 ti13 tf13_0 tf13_1 tz13 ts14 tb14 ta14 tc14 tB14 ti14 tf14_0 tf14_1 tz14 ts15 tb15 ta15 tc15 tB15 ti15 tz15 ts16 tb16 ta16 tc16 tB16 ti16 tz16 ts17 tb17 ta17 tc17 tB17 ti17 tz17 ts18 tb18 ta18 tc18 tB18 ti18 tf18_0 tz18 ts19 tb19 ta19 tc19 tB19 ti19 tf19_0 tz19 ts21 tb21 ta21 tc21 tB21 ti21 tz21 ts22 tb22 ta22 tc22 tB22 ti22 te22 tz22 ts23 tb23 ta23 tc23 tB23 ti23 tf23_0 tf23_1 tz23 ts24 tb24 ta24 tc24 tB24 ti24 tf24_0 tf24_1 tz24 ts30 tb30 ta30 tc30 tB30 ti30 te30 tz30 ts33 tb33 ta33 tc33 tB33 ti33 te33 tz33 ts40 tb40 ta40 tc40 tB40 ti40 te40 tz40 ts41 tb41 ta41 tc41 tB41 ti41 tf41_0 tf41_1 tz41 ts42 tb42 ta42 tc42 tB42 ti42 tf42_0 tf42_1 tz42 ts47 tb47 ta47 tc47 tB47 ti47 te47 tz47 ts56 tb56 ta56 tc56 tB56 ti56 te56 tz56 ts61 tb61 ta61 tc61 tB61 ti61 te61 tz61 ts70 tb70 ta70 tc70 tB70 ti70 tq70 tf70_0 tf70_1 tz70 ts71 tb71 ta71 tc71 tB71 ti71 tq71 tf71_0 tf71_1 tz71 ts72 tb72 ta72 tc72 tB72 ti72 te72 tz72 ts73 tb73 ta73 tc73 tB73 ti73 tf73_0 tf73_1 tf73_2 tf73_3 tf73_4 tf73_5 tz73 ts74 tb74 ta74 tc74 tB74 ti74 tf74_0 tf74_1 tf74_2 tf74_3 tf74_4 tf74_5 tz74 ts75 tb75 ta75 tc75 tB75 ti75 tf75_0 tf75_1 tz75 ts76 tb76 ta76 tc76 tB76 ti76 tf76_0 tf76_1 tz76 ts77 tb77 ta77 tc77 tB77 ti77 tq77 tf77_0 tf77_1 tz77 ts78 tb78 ta78 tc78 tB78 ti78 tf78_0 tf78_1 tf78_2 tf78_3 tf78_4 tf78_5 tz78 ts79 tb79 ta79 tc79 tB79 ti79 tf79_0 tf79_1 tz79 ts80 tb80 ta80 tc80 tB80 ti80 tf80_0 tf80_1 tz80 ts87 tb87 ta87 tc87 tB87 ti87 te87 tz87 ts88 tb88 ta88 tc88 tB88 ti88 tf88_0 tf88_1 tz88 ts89 tb89 ta89 tc89 tB89 ti89 tf89_0 tf89_1 tz89 ts96 tb96 ta96 tc96 tB96 ti96 tf96_0 tf96_1 tz96 ts97 tb97 ta97 tc97 tB97 ti97 tf97_0 tf97_1 tz97 ts102 tb102 ta102 tc102 tB102 ti102 te102 tz102 ts109 tb109 ta109 tc109 tB109 ti109 tf109_0 tf109_1 tf109_2 tz109 ts110 tb110 ta110 tc110 tB110 ti110 tf110_0 tf110_1 tf110_2 tz110 ts118 tb118 ta118 tc118 tB118 ti118 te118 tz118 ts119 tb119 ta119 tc119 tB119 ti119 tf119_0 tf119_1 tf119_2 tz119 ts120 tb120 ta120 tc120 tB120 ti120 tf120_0 tf120_1 tf120_2 tz120 ts139 tb139 ta139 tc139 tB139 ti139 te139 tz139 ts140 tb140 ta140 tc140 tB140 ti140 tf140_0 tf140_1 tz140 ts141 tb141 ta141 tc141 tB141 ti141 tf141_0 tf141_1 tz141 ts167 tb167 ta167 tc167 tB167 ti167 tz167 ts174 tb174 ta174 tc174 tB174 ti174 tf174_0 tf174_1 tz174 ts175 tb175 ta175 tc175 tB175 ti175 tf175_0 tf175_1 tz175 ts180 tb180 ta180 tc180 tB180 ti180 tf180_0 tf180_1 tf180_2 tf180_3 tz180 ts181 tb181 ta181 tc181 tB181 ti181 tf181_0 tf181_1 tf181_2 tf181_3 tz181 ts183 tb183 ta183 tc183 tB183 ti183 tf183_0 ts184 tb184 ta184 tc184 tB184 ti184 tf184_0 ts186 tb186 ta186 tc186 tB186 ti186 tz186 ts187 tb187 ta187 tc187 tB187 ti187 tz187 ts188 tb188 ta188 tc188 tB188 ti188 tz188 ts190 tb190 ta190 tc190 tB190 ti190 tz190 ts191 tb191 ta191 tc191 tB191 ti191 tz191 ts192 tb192 ta192 tc192 tB192 ti192 tz192 ts193 tb193 ta193 tc193 tB193 ti193 tf193_0 tf193_1 tf193_2 tf193_3 tf193_4 tf193_5 tf193_6 tf193_7 tf193_8 tf193_9 tf193_10 ts194 tb194 ta194 tc194 tB194 ti194 tf194_0 tf194_1 tf194_2 tf194_3 tf194_4 tf194_5 tf194_6 tf194_7 tf194_8 tf194_9 tf194_10
end Go.V
