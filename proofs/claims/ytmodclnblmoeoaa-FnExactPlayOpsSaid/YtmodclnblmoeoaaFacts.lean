/- Facts on the types of the seat's program, each by reckoning. No conditions. -/
import Derived.Test.YtmodclnblmoeoaaVf
import Derived.Test.YtmodclnblmoeoaaProg
set_option linter.all false
namespace Go.V
open Go.Proofs
set_option maxRecDepth 10000
theorem h0 : tsz Try.prog nilE = 0 := by kernel_rfl
theorem hm : Try.prog.follows .mixedOrders = true := by kernel_rfl
theorem ts2 : tsz Try.prog 2 = 1 := by kernel_rfl
theorem tb2 : tby Try.prog 2 = 8 := by kernel_rfl
theorem ta2 : tagg Try.prog 2 = some false := by kernel_rfl
theorem tc2 : Try.prog.cellsOf 2 = 1 := by kernel_rfl
theorem tB2 : Try.prog.bytesOf 2 = 8 := by kernel_rfl
theorem ti2 : (Try.prog.info? 2).isSome = true := by kernel_rfl
theorem tz2 : tzero Try.prog 2 = some (.int .i64 0) := by kernel_rfl
theorem ts3 : tsz Try.prog 3 = 1 := by kernel_rfl
theorem tb3 : tby Try.prog 3 = 8 := by kernel_rfl
theorem ta3 : tagg Try.prog 3 = some false := by kernel_rfl
theorem tc3 : Try.prog.cellsOf 3 = 1 := by kernel_rfl
theorem tB3 : Try.prog.bytesOf 3 = 8 := by kernel_rfl
theorem ti3 : (Try.prog.info? 3).isSome = true := by kernel_rfl
theorem tz3 : tzero Try.prog 3 = some (.int .i64 0) := by kernel_rfl
theorem ts4 : tsz Try.prog 4 = 1 := by kernel_rfl
theorem tb4 : tby Try.prog 4 = 1 := by kernel_rfl
theorem ta4 : tagg Try.prog 4 = some false := by kernel_rfl
theorem tc4 : Try.prog.cellsOf 4 = 1 := by kernel_rfl
theorem tB4 : Try.prog.bytesOf 4 = 1 := by kernel_rfl
theorem ti4 : (Try.prog.info? 4).isSome = true := by kernel_rfl
theorem tz4 : tzero Try.prog 4 = some (.bool false) := by kernel_rfl
theorem ts5 : tsz Try.prog 5 = 1 := by kernel_rfl
theorem tb5 : tby Try.prog 5 = 1 := by kernel_rfl
theorem ta5 : tagg Try.prog 5 = some false := by kernel_rfl
theorem tc5 : Try.prog.cellsOf 5 = 1 := by kernel_rfl
theorem tB5 : Try.prog.bytesOf 5 = 1 := by kernel_rfl
theorem ti5 : (Try.prog.info? 5).isSome = true := by kernel_rfl
theorem tz5 : tzero Try.prog 5 = some (.int .u8 0) := by kernel_rfl
theorem ts6 : tsz Try.prog 6 = 1 := by kernel_rfl
theorem tb6 : tby Try.prog 6 = 1 := by kernel_rfl
theorem ta6 : tagg Try.prog 6 = some false := by kernel_rfl
theorem tc6 : Try.prog.cellsOf 6 = 1 := by kernel_rfl
theorem tB6 : Try.prog.bytesOf 6 = 1 := by kernel_rfl
theorem ti6 : (Try.prog.info? 6).isSome = true := by kernel_rfl
theorem tz6 : tzero Try.prog 6 = some (.int .u8 0) := by kernel_rfl
theorem ts7 : tsz Try.prog 7 = 4 := by kernel_rfl
theorem tb7 : tby Try.prog 7 = 24 := by kernel_rfl
theorem ta7 : tagg Try.prog 7 = some true := by kernel_rfl
theorem tc7 : Try.prog.cellsOf 7 = 4 := by kernel_rfl
theorem tB7 : Try.prog.bytesOf 7 = 24 := by kernel_rfl
theorem ti7 : (Try.prog.info? 7).isSome = true := by kernel_rfl
theorem tf7_0 : tfield Try.prog 7 0 = some (0, 2) := by kernel_rfl
theorem tf7_1 : tfield Try.prog 7 1 = some (1, 3) := by kernel_rfl
theorem tf7_2 : tfield Try.prog 7 2 = some (2, 4) := by kernel_rfl
theorem tf7_3 : tfield Try.prog 7 3 = some (3, 6) := by kernel_rfl
theorem tz7 : tzero Try.prog 7 = some (.agg #[.int .i64 0, .int .i64 0, .bool false, .int .u8 0]) := by kernel_rfl
theorem ts8 : tsz Try.prog 8 = 4 := by kernel_rfl
theorem tb8 : tby Try.prog 8 = 24 := by kernel_rfl
theorem ta8 : tagg Try.prog 8 = some true := by kernel_rfl
theorem tc8 : Try.prog.cellsOf 8 = 4 := by kernel_rfl
theorem tB8 : Try.prog.bytesOf 8 = 24 := by kernel_rfl
theorem ti8 : (Try.prog.info? 8).isSome = true := by kernel_rfl
theorem tf8_0 : tfield Try.prog 8 0 = some (0, 2) := by kernel_rfl
theorem tf8_1 : tfield Try.prog 8 1 = some (1, 3) := by kernel_rfl
theorem tf8_2 : tfield Try.prog 8 2 = some (2, 4) := by kernel_rfl
theorem tf8_3 : tfield Try.prog 8 3 = some (3, 6) := by kernel_rfl
theorem tz8 : tzero Try.prog 8 = some (.agg #[.int .i64 0, .int .i64 0, .bool false, .int .u8 0]) := by kernel_rfl
theorem ts9 : tsz Try.prog 9 = 1 := by kernel_rfl
theorem tb9 : tby Try.prog 9 = 16 := by kernel_rfl
theorem ta9 : tagg Try.prog 9 = some false := by kernel_rfl
theorem tc9 : Try.prog.cellsOf 9 = 1 := by kernel_rfl
theorem tB9 : Try.prog.bytesOf 9 = 16 := by kernel_rfl
theorem ti9 : (Try.prog.info? 9).isSome = true := by kernel_rfl
theorem tz9 : tzero Try.prog 9 = some (.string ByteArray.empty) := by kernel_rfl
theorem ts10 : tsz Try.prog 10 = 1 := by kernel_rfl
theorem tb10 : tby Try.prog 10 = 16 := by kernel_rfl
theorem ta10 : tagg Try.prog 10 = some false := by kernel_rfl
theorem tc10 : Try.prog.cellsOf 10 = 1 := by kernel_rfl
theorem tB10 : Try.prog.bytesOf 10 = 16 := by kernel_rfl
theorem ti10 : (Try.prog.info? 10).isSome = true := by kernel_rfl
theorem tz10 : tzero Try.prog 10 = some (.string ByteArray.empty) := by kernel_rfl
theorem ts11 : tsz Try.prog 11 = 1 := by kernel_rfl
theorem tb11 : tby Try.prog 11 = 16 := by kernel_rfl
theorem ta11 : tagg Try.prog 11 = some false := by kernel_rfl
theorem tc11 : Try.prog.cellsOf 11 = 1 := by kernel_rfl
theorem tB11 : Try.prog.bytesOf 11 = 16 := by kernel_rfl
theorem ti11 : (Try.prog.info? 11).isSome = true := by kernel_rfl
theorem tz11 : tzero Try.prog 11 = some (.string ByteArray.empty) := by kernel_rfl
theorem ts12 : tsz Try.prog 12 = 1 := by kernel_rfl
theorem tb12 : tby Try.prog 12 = 8 := by kernel_rfl
theorem ta12 : tagg Try.prog 12 = some false := by kernel_rfl
theorem tc12 : Try.prog.cellsOf 12 = 1 := by kernel_rfl
theorem tB12 : Try.prog.bytesOf 12 = 8 := by kernel_rfl
theorem ti12 : (Try.prog.info? 12).isSome = true := by kernel_rfl
theorem tz12 : tzero Try.prog 12 = some (.int .u64 0) := by kernel_rfl
theorem ts13 : tsz Try.prog 13 = 2 := by kernel_rfl
theorem tb13 : tby Try.prog 13 = 24 := by kernel_rfl
theorem ta13 : tagg Try.prog 13 = some true := by kernel_rfl
theorem tc13 : Try.prog.cellsOf 13 = 2 := by kernel_rfl
theorem tB13 : Try.prog.bytesOf 13 = 24 := by kernel_rfl
theorem ti13 : (Try.prog.info? 13).isSome = true := by kernel_rfl
theorem tf13_0 : tfield Try.prog 13 0 = some (0, 9) := by kernel_rfl
theorem tf13_1 : tfield Try.prog 13 1 = some (1, 12) := by kernel_rfl
theorem tz13 : tzero Try.prog 13 = some (.agg #[.string ByteArray.empty, .int .u64 0]) := by kernel_rfl
theorem ts14 : tsz Try.prog 14 = 2 := by kernel_rfl
theorem tb14 : tby Try.prog 14 = 24 := by kernel_rfl
theorem ta14 : tagg Try.prog 14 = some true := by kernel_rfl
theorem tc14 : Try.prog.cellsOf 14 = 2 := by kernel_rfl
theorem tB14 : Try.prog.bytesOf 14 = 24 := by kernel_rfl
theorem ti14 : (Try.prog.info? 14).isSome = true := by kernel_rfl
theorem tf14_0 : tfield Try.prog 14 0 = some (0, 9) := by kernel_rfl
theorem tf14_1 : tfield Try.prog 14 1 = some (1, 12) := by kernel_rfl
theorem tz14 : tzero Try.prog 14 = some (.agg #[.string ByteArray.empty, .int .u64 0]) := by kernel_rfl
theorem ts15 : tsz Try.prog 15 = 1 := by kernel_rfl
theorem tb15 : tby Try.prog 15 = 8 := by kernel_rfl
theorem ta15 : tagg Try.prog 15 = some false := by kernel_rfl
theorem tc15 : Try.prog.cellsOf 15 = 1 := by kernel_rfl
theorem tB15 : Try.prog.bytesOf 15 = 8 := by kernel_rfl
theorem ti15 : (Try.prog.info? 15).isSome = true := by kernel_rfl
theorem tz15 : tzero Try.prog 15 = some (.pointer none) := by kernel_rfl
theorem ts16 : tsz Try.prog 16 = 1 := by kernel_rfl
theorem tb16 : tby Try.prog 16 = 8 := by kernel_rfl
theorem ta16 : tagg Try.prog 16 = some false := by kernel_rfl
theorem tc16 : Try.prog.cellsOf 16 = 1 := by kernel_rfl
theorem tB16 : Try.prog.bytesOf 16 = 8 := by kernel_rfl
theorem ti16 : (Try.prog.info? 16).isSome = true := by kernel_rfl
theorem tz16 : tzero Try.prog 16 = some (.pointer none) := by kernel_rfl
theorem ts17 : tsz Try.prog 17 = 1 := by kernel_rfl
theorem tb17 : tby Try.prog 17 = 8 := by kernel_rfl
theorem ta17 : tagg Try.prog 17 = some false := by kernel_rfl
theorem tc17 : Try.prog.cellsOf 17 = 1 := by kernel_rfl
theorem tB17 : Try.prog.bytesOf 17 = 8 := by kernel_rfl
theorem ti17 : (Try.prog.info? 17).isSome = true := by kernel_rfl
theorem tz17 : tzero Try.prog 17 = some (.pointer none) := by kernel_rfl
theorem ts18 : tsz Try.prog 18 = 1 := by kernel_rfl
theorem tb18 : tby Try.prog 18 = 8 := by kernel_rfl
theorem ta18 : tagg Try.prog 18 = some true := by kernel_rfl
theorem tc18 : Try.prog.cellsOf 18 = 1 := by kernel_rfl
theorem tB18 : Try.prog.bytesOf 18 = 8 := by kernel_rfl
theorem ti18 : (Try.prog.info? 18).isSome = true := by kernel_rfl
theorem tf18_0 : tfield Try.prog 18 0 = some (0, 17) := by kernel_rfl
theorem tz18 : tzero Try.prog 18 = some (.agg #[.pointer none]) := by kernel_rfl
theorem ts19 : tsz Try.prog 19 = 1 := by kernel_rfl
theorem tb19 : tby Try.prog 19 = 8 := by kernel_rfl
theorem ta19 : tagg Try.prog 19 = some true := by kernel_rfl
theorem tc19 : Try.prog.cellsOf 19 = 1 := by kernel_rfl
theorem tB19 : Try.prog.bytesOf 19 = 8 := by kernel_rfl
theorem ti19 : (Try.prog.info? 19).isSome = true := by kernel_rfl
theorem tf19_0 : tfield Try.prog 19 0 = some (0, 17) := by kernel_rfl
theorem tz19 : tzero Try.prog 19 = some (.agg #[.pointer none]) := by kernel_rfl
theorem ts21 : tsz Try.prog 21 = 1 := by kernel_rfl
theorem tb21 : tby Try.prog 21 = 4 := by kernel_rfl
theorem ta21 : tagg Try.prog 21 = some false := by kernel_rfl
theorem tc21 : Try.prog.cellsOf 21 = 1 := by kernel_rfl
theorem tB21 : Try.prog.bytesOf 21 = 4 := by kernel_rfl
theorem ti21 : (Try.prog.info? 21).isSome = true := by kernel_rfl
theorem tz21 : tzero Try.prog 21 = some (.int .i32 0) := by kernel_rfl
theorem ts22 : tsz Try.prog 22 = 1 := by kernel_rfl
theorem tb22 : tby Try.prog 22 = 24 := by kernel_rfl
theorem ta22 : tagg Try.prog 22 = some false := by kernel_rfl
theorem tc22 : Try.prog.cellsOf 22 = 1 := by kernel_rfl
theorem tB22 : Try.prog.bytesOf 22 = 24 := by kernel_rfl
theorem ti22 : (Try.prog.info? 22).isSome = true := by kernel_rfl
theorem te22 : telem Try.prog 22 = some 9 := by kernel_rfl
theorem tz22 : tzero Try.prog 22 = some (.slice none 0 0) := by kernel_rfl
theorem ts23 : tsz Try.prog 23 = 3 := by kernel_rfl
theorem tb23 : tby Try.prog 23 = 48 := by kernel_rfl
theorem ta23 : tagg Try.prog 23 = some true := by kernel_rfl
theorem tc23 : Try.prog.cellsOf 23 = 3 := by kernel_rfl
theorem tB23 : Try.prog.bytesOf 23 = 48 := by kernel_rfl
theorem ti23 : (Try.prog.info? 23).isSome = true := by kernel_rfl
theorem tf23_0 : tfield Try.prog 23 0 = some (0, 4) := by kernel_rfl
theorem tf23_1 : tfield Try.prog 23 1 = some (1, 22) := by kernel_rfl
theorem tf23_2 : tfield Try.prog 23 2 = some (2, 9) := by kernel_rfl
theorem tz23 : tzero Try.prog 23 = some (.agg #[.bool false, .slice none 0 0, .string ByteArray.empty]) := by kernel_rfl
theorem ts24 : tsz Try.prog 24 = 3 := by kernel_rfl
theorem tb24 : tby Try.prog 24 = 48 := by kernel_rfl
theorem ta24 : tagg Try.prog 24 = some true := by kernel_rfl
theorem tc24 : Try.prog.cellsOf 24 = 3 := by kernel_rfl
theorem tB24 : Try.prog.bytesOf 24 = 48 := by kernel_rfl
theorem ti24 : (Try.prog.info? 24).isSome = true := by kernel_rfl
theorem tf24_0 : tfield Try.prog 24 0 = some (0, 4) := by kernel_rfl
theorem tf24_1 : tfield Try.prog 24 1 = some (1, 22) := by kernel_rfl
theorem tf24_2 : tfield Try.prog 24 2 = some (2, 9) := by kernel_rfl
theorem tz24 : tzero Try.prog 24 = some (.agg #[.bool false, .slice none 0 0, .string ByteArray.empty]) := by kernel_rfl
theorem ts28 : tsz Try.prog 28 = 3 := by kernel_rfl
theorem tb28 : tby Try.prog 28 = 48 := by kernel_rfl
theorem ta28 : tagg Try.prog 28 = some true := by kernel_rfl
theorem tc28 : Try.prog.cellsOf 28 = 3 := by kernel_rfl
theorem tB28 : Try.prog.bytesOf 28 = 48 := by kernel_rfl
theorem ti28 : (Try.prog.info? 28).isSome = true := by kernel_rfl
theorem tf28_0 : tfield Try.prog 28 0 = some (0, 4) := by kernel_rfl
theorem tf28_1 : tfield Try.prog 28 1 = some (1, 22) := by kernel_rfl
theorem tf28_2 : tfield Try.prog 28 2 = some (2, 9) := by kernel_rfl
theorem tz28 : tzero Try.prog 28 = some (.agg #[.bool false, .slice none 0 0, .string ByteArray.empty]) := by kernel_rfl
theorem ts32 : tsz Try.prog 32 = 1 := by kernel_rfl
theorem tb32 : tby Try.prog 32 = 24 := by kernel_rfl
theorem ta32 : tagg Try.prog 32 = some false := by kernel_rfl
theorem tc32 : Try.prog.cellsOf 32 = 1 := by kernel_rfl
theorem tB32 : Try.prog.bytesOf 32 = 24 := by kernel_rfl
theorem ti32 : (Try.prog.info? 32).isSome = true := by kernel_rfl
theorem te32 : telem Try.prog 32 = some 101 := by kernel_rfl
theorem tz32 : tzero Try.prog 32 = some (.slice none 0 0) := by kernel_rfl
theorem ts35 : tsz Try.prog 35 = 1 := by kernel_rfl
theorem tb35 : tby Try.prog 35 = 24 := by kernel_rfl
theorem ta35 : tagg Try.prog 35 = some false := by kernel_rfl
theorem tc35 : Try.prog.cellsOf 35 = 1 := by kernel_rfl
theorem tB35 : Try.prog.bytesOf 35 = 24 := by kernel_rfl
theorem ti35 : (Try.prog.info? 35).isSome = true := by kernel_rfl
theorem te35 : telem Try.prog 35 = some 103 := by kernel_rfl
theorem tz35 : tzero Try.prog 35 = some (.slice none 0 0) := by kernel_rfl
theorem ts44 : tsz Try.prog 44 = 1 := by kernel_rfl
theorem tb44 : tby Try.prog 44 = 24 := by kernel_rfl
theorem ta44 : tagg Try.prog 44 = some false := by kernel_rfl
theorem tc44 : Try.prog.cellsOf 44 = 1 := by kernel_rfl
theorem tB44 : Try.prog.bytesOf 44 = 24 := by kernel_rfl
theorem ti44 : (Try.prog.info? 44).isSome = true := by kernel_rfl
theorem te44 : telem Try.prog 44 = some 28 := by kernel_rfl
theorem tz44 : tzero Try.prog 44 = some (.slice none 0 0) := by kernel_rfl
theorem ts50 : tsz Try.prog 50 = 1 := by kernel_rfl
theorem tb50 : tby Try.prog 50 = 24 := by kernel_rfl
theorem ta50 : tagg Try.prog 50 = some false := by kernel_rfl
theorem tc50 : Try.prog.cellsOf 50 = 1 := by kernel_rfl
theorem tB50 : Try.prog.bytesOf 50 = 24 := by kernel_rfl
theorem ti50 : (Try.prog.info? 50).isSome = true := by kernel_rfl
theorem te50 : telem Try.prog 50 = some 32 := by kernel_rfl
theorem tz50 : tzero Try.prog 50 = some (.slice none 0 0) := by kernel_rfl
theorem ts51 : tsz Try.prog 51 = 4 := by kernel_rfl
theorem tb51 : tby Try.prog 51 = 80 := by kernel_rfl
theorem ta51 : tagg Try.prog 51 = some true := by kernel_rfl
theorem tc51 : Try.prog.cellsOf 51 = 4 := by kernel_rfl
theorem tB51 : Try.prog.bytesOf 51 = 80 := by kernel_rfl
theorem ti51 : (Try.prog.info? 51).isSome = true := by kernel_rfl
theorem tf51_0 : tfield Try.prog 51 0 = some (0, 32) := by kernel_rfl
theorem tf51_1 : tfield Try.prog 51 1 = some (1, 32) := by kernel_rfl
theorem tf51_2 : tfield Try.prog 51 2 = some (2, 50) := by kernel_rfl
theorem tf51_3 : tfield Try.prog 51 3 = some (3, 3) := by kernel_rfl
theorem tz51 : tzero Try.prog 51 = some (.agg #[.slice none 0 0, .slice none 0 0, .slice none 0 0, .int .i64 0]) := by kernel_rfl
theorem ts52 : tsz Try.prog 52 = 4 := by kernel_rfl
theorem tb52 : tby Try.prog 52 = 80 := by kernel_rfl
theorem ta52 : tagg Try.prog 52 = some true := by kernel_rfl
theorem tc52 : Try.prog.cellsOf 52 = 4 := by kernel_rfl
theorem tB52 : Try.prog.bytesOf 52 = 80 := by kernel_rfl
theorem ti52 : (Try.prog.info? 52).isSome = true := by kernel_rfl
theorem tf52_0 : tfield Try.prog 52 0 = some (0, 32) := by kernel_rfl
theorem tf52_1 : tfield Try.prog 52 1 = some (1, 32) := by kernel_rfl
theorem tf52_2 : tfield Try.prog 52 2 = some (2, 50) := by kernel_rfl
theorem tf52_3 : tfield Try.prog 52 3 = some (3, 3) := by kernel_rfl
theorem tz52 : tzero Try.prog 52 = some (.agg #[.slice none 0 0, .slice none 0 0, .slice none 0 0, .int .i64 0]) := by kernel_rfl
theorem ts55 : tsz Try.prog 55 = 1 := by kernel_rfl
theorem tb55 : tby Try.prog 55 = 24 := by kernel_rfl
theorem ta55 : tagg Try.prog 55 = some false := by kernel_rfl
theorem tc55 : Try.prog.cellsOf 55 = 1 := by kernel_rfl
theorem tB55 : Try.prog.bytesOf 55 = 24 := by kernel_rfl
theorem ti55 : (Try.prog.info? 55).isSome = true := by kernel_rfl
theorem te55 : telem Try.prog 55 = some 35 := by kernel_rfl
theorem tz55 : tzero Try.prog 55 = some (.slice none 0 0) := by kernel_rfl
theorem ts56 : tsz Try.prog 56 = 4 := by kernel_rfl
theorem tb56 : tby Try.prog 56 = 80 := by kernel_rfl
theorem ta56 : tagg Try.prog 56 = some true := by kernel_rfl
theorem tc56 : Try.prog.cellsOf 56 = 4 := by kernel_rfl
theorem tB56 : Try.prog.bytesOf 56 = 80 := by kernel_rfl
theorem ti56 : (Try.prog.info? 56).isSome = true := by kernel_rfl
theorem tf56_0 : tfield Try.prog 56 0 = some (0, 35) := by kernel_rfl
theorem tf56_1 : tfield Try.prog 56 1 = some (1, 35) := by kernel_rfl
theorem tf56_2 : tfield Try.prog 56 2 = some (2, 55) := by kernel_rfl
theorem tf56_3 : tfield Try.prog 56 3 = some (3, 3) := by kernel_rfl
theorem tz56 : tzero Try.prog 56 = some (.agg #[.slice none 0 0, .slice none 0 0, .slice none 0 0, .int .i64 0]) := by kernel_rfl
theorem ts57 : tsz Try.prog 57 = 4 := by kernel_rfl
theorem tb57 : tby Try.prog 57 = 80 := by kernel_rfl
theorem ta57 : tagg Try.prog 57 = some true := by kernel_rfl
theorem tc57 : Try.prog.cellsOf 57 = 4 := by kernel_rfl
theorem tB57 : Try.prog.bytesOf 57 = 80 := by kernel_rfl
theorem ti57 : (Try.prog.info? 57).isSome = true := by kernel_rfl
theorem tf57_0 : tfield Try.prog 57 0 = some (0, 35) := by kernel_rfl
theorem tf57_1 : tfield Try.prog 57 1 = some (1, 35) := by kernel_rfl
theorem tf57_2 : tfield Try.prog 57 2 = some (2, 55) := by kernel_rfl
theorem tf57_3 : tfield Try.prog 57 3 = some (3, 3) := by kernel_rfl
theorem tz57 : tzero Try.prog 57 = some (.agg #[.slice none 0 0, .slice none 0 0, .slice none 0 0, .int .i64 0]) := by kernel_rfl
theorem ts70 : tsz Try.prog 70 = 1 := by kernel_rfl
theorem tb70 : tby Try.prog 70 = 24 := by kernel_rfl
theorem ta70 : tagg Try.prog 70 = some false := by kernel_rfl
theorem tc70 : Try.prog.cellsOf 70 = 1 := by kernel_rfl
theorem tB70 : Try.prog.bytesOf 70 = 24 := by kernel_rfl
theorem ti70 : (Try.prog.info? 70).isSome = true := by kernel_rfl
theorem te70 : telem Try.prog 70 = some 24 := by kernel_rfl
theorem tz70 : tzero Try.prog 70 = some (.slice none 0 0) := by kernel_rfl
theorem ts75 : tsz Try.prog 75 = 4 := by kernel_rfl
theorem tb75 : tby Try.prog 75 = 56 := by kernel_rfl
theorem ta75 : tagg Try.prog 75 = some true := by kernel_rfl
theorem tc75 : Try.prog.cellsOf 75 = 4 := by kernel_rfl
theorem tB75 : Try.prog.bytesOf 75 = 56 := by kernel_rfl
theorem ti75 : (Try.prog.info? 75).isSome = true := by kernel_rfl
theorem tf75_0 : tfield Try.prog 75 0 = some (0, 3) := by kernel_rfl
theorem tf75_1 : tfield Try.prog 75 1 = some (1, 22) := by kernel_rfl
theorem tf75_2 : tfield Try.prog 75 2 = some (2, 9) := by kernel_rfl
theorem tf75_3 : tfield Try.prog 75 3 = some (3, 3) := by kernel_rfl
theorem tz75 : tzero Try.prog 75 = some (.agg #[.int .i64 0, .slice none 0 0, .string ByteArray.empty, .int .i64 0]) := by kernel_rfl
theorem ts76 : tsz Try.prog 76 = 4 := by kernel_rfl
theorem tb76 : tby Try.prog 76 = 56 := by kernel_rfl
theorem ta76 : tagg Try.prog 76 = some true := by kernel_rfl
theorem tc76 : Try.prog.cellsOf 76 = 4 := by kernel_rfl
theorem tB76 : Try.prog.bytesOf 76 = 56 := by kernel_rfl
theorem ti76 : (Try.prog.info? 76).isSome = true := by kernel_rfl
theorem tf76_0 : tfield Try.prog 76 0 = some (0, 3) := by kernel_rfl
theorem tf76_1 : tfield Try.prog 76 1 = some (1, 22) := by kernel_rfl
theorem tf76_2 : tfield Try.prog 76 2 = some (2, 9) := by kernel_rfl
theorem tf76_3 : tfield Try.prog 76 3 = some (3, 3) := by kernel_rfl
theorem tz76 : tzero Try.prog 76 = some (.agg #[.int .i64 0, .slice none 0 0, .string ByteArray.empty, .int .i64 0]) := by kernel_rfl
theorem ts80 : tsz Try.prog 80 = 4 := by kernel_rfl
theorem tb80 : tby Try.prog 80 = 56 := by kernel_rfl
theorem ta80 : tagg Try.prog 80 = some true := by kernel_rfl
theorem tc80 : Try.prog.cellsOf 80 = 4 := by kernel_rfl
theorem tB80 : Try.prog.bytesOf 80 = 56 := by kernel_rfl
theorem ti80 : (Try.prog.info? 80).isSome = true := by kernel_rfl
theorem tf80_0 : tfield Try.prog 80 0 = some (0, 3) := by kernel_rfl
theorem tf80_1 : tfield Try.prog 80 1 = some (1, 22) := by kernel_rfl
theorem tf80_2 : tfield Try.prog 80 2 = some (2, 9) := by kernel_rfl
theorem tf80_3 : tfield Try.prog 80 3 = some (3, 3) := by kernel_rfl
theorem tz80 : tzero Try.prog 80 = some (.agg #[.int .i64 0, .slice none 0 0, .string ByteArray.empty, .int .i64 0]) := by kernel_rfl
theorem ts85 : tsz Try.prog 85 = 1 := by kernel_rfl
theorem tb85 : tby Try.prog 85 = 24 := by kernel_rfl
theorem ta85 : tagg Try.prog 85 = some false := by kernel_rfl
theorem tc85 : Try.prog.cellsOf 85 = 1 := by kernel_rfl
theorem tB85 : Try.prog.bytesOf 85 = 24 := by kernel_rfl
theorem ti85 : (Try.prog.info? 85).isSome = true := by kernel_rfl
theorem te85 : telem Try.prog 85 = some 76 := by kernel_rfl
theorem tz85 : tzero Try.prog 85 = some (.slice none 0 0) := by kernel_rfl
theorem ts87 : tsz Try.prog 87 = 1 := by kernel_rfl
theorem tb87 : tby Try.prog 87 = 24 := by kernel_rfl
theorem ta87 : tagg Try.prog 87 = some false := by kernel_rfl
theorem tc87 : Try.prog.cellsOf 87 = 1 := by kernel_rfl
theorem tB87 : Try.prog.bytesOf 87 = 24 := by kernel_rfl
theorem ti87 : (Try.prog.info? 87).isSome = true := by kernel_rfl
theorem te87 : telem Try.prog 87 = some 4 := by kernel_rfl
theorem tz87 : tzero Try.prog 87 = some (.slice none 0 0) := by kernel_rfl
theorem ts90 : tsz Try.prog 90 = 1 := by kernel_rfl
theorem tb90 : tby Try.prog 90 = 24 := by kernel_rfl
theorem ta90 : tagg Try.prog 90 = some false := by kernel_rfl
theorem tc90 : Try.prog.cellsOf 90 = 1 := by kernel_rfl
theorem tB90 : Try.prog.bytesOf 90 = 24 := by kernel_rfl
theorem ti90 : (Try.prog.info? 90).isSome = true := by kernel_rfl
theorem te90 : telem Try.prog 90 = some 80 := by kernel_rfl
theorem tz90 : tzero Try.prog 90 = some (.slice none 0 0) := by kernel_rfl
theorem ts100 : tsz Try.prog 100 = 2 := by kernel_rfl
theorem tb100 : tby Try.prog 100 = 40 := by kernel_rfl
theorem ta100 : tagg Try.prog 100 = some true := by kernel_rfl
theorem tc100 : Try.prog.cellsOf 100 = 2 := by kernel_rfl
theorem tB100 : Try.prog.bytesOf 100 = 40 := by kernel_rfl
theorem ti100 : (Try.prog.info? 100).isSome = true := by kernel_rfl
theorem tf100_0 : tfield Try.prog 100 0 = some (0, 22) := by kernel_rfl
theorem tf100_1 : tfield Try.prog 100 1 = some (1, 9) := by kernel_rfl
theorem tz100 : tzero Try.prog 100 = some (.agg #[.slice none 0 0, .string ByteArray.empty]) := by kernel_rfl
theorem ts101 : tsz Try.prog 101 = 2 := by kernel_rfl
theorem tb101 : tby Try.prog 101 = 40 := by kernel_rfl
theorem ta101 : tagg Try.prog 101 = some true := by kernel_rfl
theorem tc101 : Try.prog.cellsOf 101 = 2 := by kernel_rfl
theorem tB101 : Try.prog.bytesOf 101 = 40 := by kernel_rfl
theorem ti101 : (Try.prog.info? 101).isSome = true := by kernel_rfl
theorem tf101_0 : tfield Try.prog 101 0 = some (0, 22) := by kernel_rfl
theorem tf101_1 : tfield Try.prog 101 1 = some (1, 9) := by kernel_rfl
theorem tz101 : tzero Try.prog 101 = some (.agg #[.slice none 0 0, .string ByteArray.empty]) := by kernel_rfl
theorem ts103 : tsz Try.prog 103 = 2 := by kernel_rfl
theorem tb103 : tby Try.prog 103 = 40 := by kernel_rfl
theorem ta103 : tagg Try.prog 103 = some true := by kernel_rfl
theorem tc103 : Try.prog.cellsOf 103 = 2 := by kernel_rfl
theorem tB103 : Try.prog.bytesOf 103 = 40 := by kernel_rfl
theorem ti103 : (Try.prog.info? 103).isSome = true := by kernel_rfl
theorem tf103_0 : tfield Try.prog 103 0 = some (0, 22) := by kernel_rfl
theorem tf103_1 : tfield Try.prog 103 1 = some (1, 9) := by kernel_rfl
theorem tz103 : tzero Try.prog 103 = some (.agg #[.slice none 0 0, .string ByteArray.empty]) := by kernel_rfl
theorem ts117 : tsz Try.prog 117 = 1 := by kernel_rfl
theorem tb117 : tby Try.prog 117 = 8 := by kernel_rfl
theorem ta117 : tagg Try.prog 117 = some false := by kernel_rfl
theorem tc117 : Try.prog.cellsOf 117 = 1 := by kernel_rfl
theorem tB117 : Try.prog.bytesOf 117 = 8 := by kernel_rfl
theorem ti117 : (Try.prog.info? 117).isSome = true := by kernel_rfl
theorem tz117 : tzero Try.prog 117 = some (.pointer none) := by kernel_rfl
theorem ts118 : tsz Try.prog 118 = 1 := by kernel_rfl
theorem tb118 : tby Try.prog 118 = 24 := by kernel_rfl
theorem ta118 : tagg Try.prog 118 = some false := by kernel_rfl
theorem tc118 : Try.prog.cellsOf 118 = 1 := by kernel_rfl
theorem tB118 : Try.prog.bytesOf 118 = 24 := by kernel_rfl
theorem ti118 : (Try.prog.info? 118).isSome = true := by kernel_rfl
theorem te118 : telem Try.prog 118 = some 5 := by kernel_rfl
theorem tz118 : tzero Try.prog 118 = some (.slice none 0 0) := by kernel_rfl
theorem ts119 : tsz Try.prog 119 = 2 := by kernel_rfl
theorem tb119 : tby Try.prog 119 = 32 := by kernel_rfl
theorem ta119 : tagg Try.prog 119 = some true := by kernel_rfl
theorem tc119 : Try.prog.cellsOf 119 = 2 := by kernel_rfl
theorem tB119 : Try.prog.bytesOf 119 = 32 := by kernel_rfl
theorem ti119 : (Try.prog.info? 119).isSome = true := by kernel_rfl
theorem tf119_0 : tfield Try.prog 119 0 = some (0, 117) := by kernel_rfl
theorem tf119_1 : tfield Try.prog 119 1 = some (1, 118) := by kernel_rfl
theorem tz119 : tzero Try.prog 119 = some (.agg #[.pointer none, .slice none 0 0]) := by kernel_rfl
theorem ts120 : tsz Try.prog 120 = 2 := by kernel_rfl
theorem tb120 : tby Try.prog 120 = 32 := by kernel_rfl
theorem ta120 : tagg Try.prog 120 = some true := by kernel_rfl
theorem tc120 : Try.prog.cellsOf 120 = 2 := by kernel_rfl
theorem tB120 : Try.prog.bytesOf 120 = 32 := by kernel_rfl
theorem ti120 : (Try.prog.info? 120).isSome = true := by kernel_rfl
theorem tf120_0 : tfield Try.prog 120 0 = some (0, 117) := by kernel_rfl
theorem tf120_1 : tfield Try.prog 120 1 = some (1, 118) := by kernel_rfl
theorem tz120 : tzero Try.prog 120 = some (.agg #[.pointer none, .slice none 0 0]) := by kernel_rfl
theorem ts125 : tsz Try.prog 125 = 1 := by kernel_rfl
theorem tb125 : tby Try.prog 125 = 8 := by kernel_rfl
theorem ta125 : tagg Try.prog 125 = some false := by kernel_rfl
theorem tc125 : Try.prog.cellsOf 125 = 1 := by kernel_rfl
theorem tB125 : Try.prog.bytesOf 125 = 8 := by kernel_rfl
theorem ti125 : (Try.prog.info? 125).isSome = true := by kernel_rfl
theorem tz125 : tzero Try.prog 125 = some (.pointer none) := by kernel_rfl
theorem ts126 : tsz Try.prog 126 = 3 := by kernel_rfl
theorem tb126 : tby Try.prog 126 = 48 := by kernel_rfl
theorem ta126 : tagg Try.prog 126 = some true := by kernel_rfl
theorem tc126 : Try.prog.cellsOf 126 = 3 := by kernel_rfl
theorem tB126 : Try.prog.bytesOf 126 = 48 := by kernel_rfl
theorem ti126 : (Try.prog.info? 126).isSome = true := by kernel_rfl
theorem tf126_0 : tfield Try.prog 126 0 = some (0, 9) := by kernel_rfl
theorem tf126_1 : tfield Try.prog 126 1 = some (1, 3) := by kernel_rfl
theorem tf126_2 : tfield Try.prog 126 2 = some (2, 35) := by kernel_rfl
theorem tz126 : tzero Try.prog 126 = some (.agg #[.string ByteArray.empty, .int .i64 0, .slice none 0 0]) := by kernel_rfl
theorem ts127 : tsz Try.prog 127 = 3 := by kernel_rfl
theorem tb127 : tby Try.prog 127 = 48 := by kernel_rfl
theorem ta127 : tagg Try.prog 127 = some true := by kernel_rfl
theorem tc127 : Try.prog.cellsOf 127 = 3 := by kernel_rfl
theorem tB127 : Try.prog.bytesOf 127 = 48 := by kernel_rfl
theorem ti127 : (Try.prog.info? 127).isSome = true := by kernel_rfl
theorem tf127_0 : tfield Try.prog 127 0 = some (0, 9) := by kernel_rfl
theorem tf127_1 : tfield Try.prog 127 1 = some (1, 3) := by kernel_rfl
theorem tf127_2 : tfield Try.prog 127 2 = some (2, 35) := by kernel_rfl
theorem tz127 : tzero Try.prog 127 = some (.agg #[.string ByteArray.empty, .int .i64 0, .slice none 0 0]) := by kernel_rfl
theorem ts128 : tsz Try.prog 128 = 1 := by kernel_rfl
theorem tb128 : tby Try.prog 128 = 8 := by kernel_rfl
theorem ta128 : tagg Try.prog 128 = some false := by kernel_rfl
theorem tc128 : Try.prog.cellsOf 128 = 1 := by kernel_rfl
theorem tB128 : Try.prog.bytesOf 128 = 8 := by kernel_rfl
theorem ti128 : (Try.prog.info? 128).isSome = true := by kernel_rfl
theorem tz128 : tzero Try.prog 128 = some (.pointer none) := by kernel_rfl
theorem ts129 : tsz Try.prog 129 = 4 := by kernel_rfl
theorem tb129 : tby Try.prog 129 = 72 := by kernel_rfl
theorem ta129 : tagg Try.prog 129 = some true := by kernel_rfl
theorem tc129 : Try.prog.cellsOf 129 = 4 := by kernel_rfl
theorem tB129 : Try.prog.bytesOf 129 = 72 := by kernel_rfl
theorem ti129 : (Try.prog.info? 129).isSome = true := by kernel_rfl
theorem tf129_0 : tfield Try.prog 129 0 = some (0, 9) := by kernel_rfl
theorem tf129_1 : tfield Try.prog 129 1 = some (1, 3) := by kernel_rfl
theorem tf129_2 : tfield Try.prog 129 2 = some (2, 22) := by kernel_rfl
theorem tf129_3 : tfield Try.prog 129 3 = some (3, 35) := by kernel_rfl
theorem tz129 : tzero Try.prog 129 = some (.agg #[.string ByteArray.empty, .int .i64 0, .slice none 0 0, .slice none 0 0]) := by kernel_rfl
theorem ts130 : tsz Try.prog 130 = 4 := by kernel_rfl
theorem tb130 : tby Try.prog 130 = 72 := by kernel_rfl
theorem ta130 : tagg Try.prog 130 = some true := by kernel_rfl
theorem tc130 : Try.prog.cellsOf 130 = 4 := by kernel_rfl
theorem tB130 : Try.prog.bytesOf 130 = 72 := by kernel_rfl
theorem ti130 : (Try.prog.info? 130).isSome = true := by kernel_rfl
theorem tf130_0 : tfield Try.prog 130 0 = some (0, 9) := by kernel_rfl
theorem tf130_1 : tfield Try.prog 130 1 = some (1, 3) := by kernel_rfl
theorem tf130_2 : tfield Try.prog 130 2 = some (2, 22) := by kernel_rfl
theorem tf130_3 : tfield Try.prog 130 3 = some (3, 35) := by kernel_rfl
theorem tz130 : tzero Try.prog 130 = some (.agg #[.string ByteArray.empty, .int .i64 0, .slice none 0 0, .slice none 0 0]) := by kernel_rfl
theorem ts151 : tsz Try.prog 151 = 1 := by kernel_rfl
theorem tb151 : tby Try.prog 151 = 8 := by kernel_rfl
theorem ta151 : tagg Try.prog 151 = some false := by kernel_rfl
theorem tc151 : Try.prog.cellsOf 151 = 1 := by kernel_rfl
theorem tB151 : Try.prog.bytesOf 151 = 8 := by kernel_rfl
theorem ti151 : (Try.prog.info? 151).isSome = true := by kernel_rfl
theorem tz151 : tzero Try.prog 151 = some (.pointer none) := by kernel_rfl
theorem ts163 : tsz Try.prog 163 = 1 := by kernel_rfl
theorem tb163 : tby Try.prog 163 = 8 := by kernel_rfl
theorem ta163 : tagg Try.prog 163 = some false := by kernel_rfl
theorem tc163 : Try.prog.cellsOf 163 = 1 := by kernel_rfl
theorem tB163 : Try.prog.bytesOf 163 = 8 := by kernel_rfl
theorem ti163 : (Try.prog.info? 163).isSome = true := by kernel_rfl
theorem tz163 : tzero Try.prog 163 = some (.int .u64 0) := by kernel_rfl
theorem ts170 : tsz Try.prog 170 = 1 := by kernel_rfl
theorem tb170 : tby Try.prog 170 = 8 := by kernel_rfl
theorem ta170 : tagg Try.prog 170 = some false := by kernel_rfl
theorem tc170 : Try.prog.cellsOf 170 = 1 := by kernel_rfl
theorem tB170 : Try.prog.bytesOf 170 = 8 := by kernel_rfl
theorem ti170 : (Try.prog.info? 170).isSome = true := by kernel_rfl
theorem tz170 : tzero Try.prog 170 = some (.pointer none) := by kernel_rfl
theorem ts175 : tsz Try.prog 175 = 1 := by kernel_rfl
theorem tb175 : tby Try.prog 175 = 4 := by kernel_rfl
theorem ta175 : tagg Try.prog 175 = some false := by kernel_rfl
theorem tc175 : Try.prog.cellsOf 175 = 1 := by kernel_rfl
theorem tB175 : Try.prog.bytesOf 175 = 4 := by kernel_rfl
theorem ti175 : (Try.prog.info? 175).isSome = true := by kernel_rfl
theorem tz175 : tzero Try.prog 175 = some (.int .u32 0) := by kernel_rfl
theorem ts178 : tsz Try.prog 178 = 1 := by kernel_rfl
theorem tb178 : tby Try.prog 178 = 8 := by kernel_rfl
theorem ta178 : tagg Try.prog 178 = some false := by kernel_rfl
theorem tc178 : Try.prog.cellsOf 178 = 1 := by kernel_rfl
theorem tB178 : Try.prog.bytesOf 178 = 8 := by kernel_rfl
theorem ti178 : (Try.prog.info? 178).isSome = true := by kernel_rfl
theorem tz178 : tzero Try.prog 178 = some (.int .u64 0) := by kernel_rfl
theorem ts184 : tsz Try.prog 184 = 4 := by kernel_rfl
theorem tb184 : tby Try.prog 184 = 40 := by kernel_rfl
theorem ta184 : tagg Try.prog 184 = some true := by kernel_rfl
theorem tc184 : Try.prog.cellsOf 184 = 4 := by kernel_rfl
theorem tB184 : Try.prog.bytesOf 184 = 40 := by kernel_rfl
theorem ti184 : (Try.prog.info? 184).isSome = true := by kernel_rfl
theorem tf184_0 : tfield Try.prog 184 0 = some (0, 17) := by kernel_rfl
theorem tf184_1 : tfield Try.prog 184 1 = some (1, 17) := by kernel_rfl
theorem tf184_2 : tfield Try.prog 184 2 = some (2, 17) := by kernel_rfl
theorem tf184_3 : tfield Try.prog 184 3 = some (3, 9) := by kernel_rfl
theorem tz184 : tzero Try.prog 184 = some (.agg #[.pointer none, .pointer none, .pointer none, .string ByteArray.empty]) := by kernel_rfl
theorem ts185 : tsz Try.prog 185 = 4 := by kernel_rfl
theorem tb185 : tby Try.prog 185 = 40 := by kernel_rfl
theorem ta185 : tagg Try.prog 185 = some true := by kernel_rfl
theorem tc185 : Try.prog.cellsOf 185 = 4 := by kernel_rfl
theorem tB185 : Try.prog.bytesOf 185 = 40 := by kernel_rfl
theorem ti185 : (Try.prog.info? 185).isSome = true := by kernel_rfl
theorem tf185_0 : tfield Try.prog 185 0 = some (0, 17) := by kernel_rfl
theorem tf185_1 : tfield Try.prog 185 1 = some (1, 17) := by kernel_rfl
theorem tf185_2 : tfield Try.prog 185 2 = some (2, 17) := by kernel_rfl
theorem tf185_3 : tfield Try.prog 185 3 = some (3, 9) := by kernel_rfl
theorem tz185 : tzero Try.prog 185 = some (.agg #[.pointer none, .pointer none, .pointer none, .string ByteArray.empty]) := by kernel_rfl
theorem ts187 : tsz Try.prog 187 = 0 := by kernel_rfl
theorem tb187 : tby Try.prog 187 = 0 := by kernel_rfl
theorem ta187 : tagg Try.prog 187 = some true := by kernel_rfl
theorem tc187 : Try.prog.cellsOf 187 = 0 := by kernel_rfl
theorem tB187 : Try.prog.bytesOf 187 = 0 := by kernel_rfl
theorem ti187 : (Try.prog.info? 187).isSome = true := by kernel_rfl
theorem tf187_0 : tfield Try.prog 187 0 = some (0, 186) := by kernel_rfl
theorem ts188 : tsz Try.prog 188 = 0 := by kernel_rfl
theorem tb188 : tby Try.prog 188 = 0 := by kernel_rfl
theorem ta188 : tagg Try.prog 188 = some true := by kernel_rfl
theorem tc188 : Try.prog.cellsOf 188 = 0 := by kernel_rfl
theorem tB188 : Try.prog.bytesOf 188 = 0 := by kernel_rfl
theorem ti188 : (Try.prog.info? 188).isSome = true := by kernel_rfl
theorem tf188_0 : tfield Try.prog 188 0 = some (0, 186) := by kernel_rfl
theorem ts189 : tsz Try.prog 189 = 1 := by kernel_rfl
theorem tb189 : tby Try.prog 189 = 1 := by kernel_rfl
theorem ta189 : tagg Try.prog 189 = some false := by kernel_rfl
theorem tc189 : Try.prog.cellsOf 189 = 1 := by kernel_rfl
theorem tB189 : Try.prog.bytesOf 189 = 1 := by kernel_rfl
theorem ti189 : (Try.prog.info? 189).isSome = true := by kernel_rfl
theorem tz189 : tzero Try.prog 189 = some (.int .u8 0) := by kernel_rfl
theorem ts190 : tsz Try.prog 190 = 1 := by kernel_rfl
theorem tb190 : tby Try.prog 190 = 1 := by kernel_rfl
theorem ta190 : tagg Try.prog 190 = some false := by kernel_rfl
theorem tc190 : Try.prog.cellsOf 190 = 1 := by kernel_rfl
theorem tB190 : Try.prog.bytesOf 190 = 1 := by kernel_rfl
theorem ti190 : (Try.prog.info? 190).isSome = true := by kernel_rfl
theorem tz190 : tzero Try.prog 190 = some (.int .u8 0) := by kernel_rfl
theorem ts192 : tsz Try.prog 192 = 1 := by kernel_rfl
theorem tb192 : tby Try.prog 192 = 4 := by kernel_rfl
theorem ta192 : tagg Try.prog 192 = some false := by kernel_rfl
theorem tc192 : Try.prog.cellsOf 192 = 1 := by kernel_rfl
theorem tB192 : Try.prog.bytesOf 192 = 4 := by kernel_rfl
theorem ti192 : (Try.prog.info? 192).isSome = true := by kernel_rfl
theorem tz192 : tzero Try.prog 192 = some (.int .i32 0) := by kernel_rfl
theorem ts193 : tsz Try.prog 193 = 1 := by kernel_rfl
theorem tb193 : tby Try.prog 193 = 4 := by kernel_rfl
theorem ta193 : tagg Try.prog 193 = some false := by kernel_rfl
theorem tc193 : Try.prog.cellsOf 193 = 1 := by kernel_rfl
theorem tB193 : Try.prog.bytesOf 193 = 4 := by kernel_rfl
theorem ti193 : (Try.prog.info? 193).isSome = true := by kernel_rfl
theorem tz193 : tzero Try.prog 193 = some (.int .i32 0) := by kernel_rfl
theorem ts194 : tsz Try.prog 194 = 11 := by kernel_rfl
theorem tb194 : tby Try.prog 194 = 48 := by kernel_rfl
theorem ta194 : tagg Try.prog 194 = some true := by kernel_rfl
theorem tc194 : Try.prog.cellsOf 194 = 11 := by kernel_rfl
theorem tB194 : Try.prog.bytesOf 194 = 48 := by kernel_rfl
theorem ti194 : (Try.prog.info? 194).isSome = true := by kernel_rfl
theorem tf194_0 : tfield Try.prog 194 0 = some (0, 12) := by kernel_rfl
theorem tf194_1 : tfield Try.prog 194 1 = some (1, 12) := by kernel_rfl
theorem tf194_2 : tfield Try.prog 194 2 = some (2, 175) := by kernel_rfl
theorem tf194_3 : tfield Try.prog 194 3 = some (3, 189) := by kernel_rfl
theorem tf194_4 : tfield Try.prog 194 4 = some (4, 5) := by kernel_rfl
theorem tf194_5 : tfield Try.prog 194 5 = some (5, 5) := by kernel_rfl
theorem tf194_6 : tfield Try.prog 194 6 = some (6, 190) := by kernel_rfl
theorem tf194_7 : tfield Try.prog 194 7 = some (7, 191) := by kernel_rfl
theorem tf194_8 : tfield Try.prog 194 8 = some (8, 151) := by kernel_rfl
theorem tf194_9 : tfield Try.prog 194 9 = some (9, 192) := by kernel_rfl
theorem tf194_10 : tfield Try.prog 194 10 = some (10, 193) := by kernel_rfl
theorem ts195 : tsz Try.prog 195 = 11 := by kernel_rfl
theorem tb195 : tby Try.prog 195 = 48 := by kernel_rfl
theorem ta195 : tagg Try.prog 195 = some true := by kernel_rfl
theorem tc195 : Try.prog.cellsOf 195 = 11 := by kernel_rfl
theorem tB195 : Try.prog.bytesOf 195 = 48 := by kernel_rfl
theorem ti195 : (Try.prog.info? 195).isSome = true := by kernel_rfl
theorem tf195_0 : tfield Try.prog 195 0 = some (0, 12) := by kernel_rfl
theorem tf195_1 : tfield Try.prog 195 1 = some (1, 12) := by kernel_rfl
theorem tf195_2 : tfield Try.prog 195 2 = some (2, 175) := by kernel_rfl
theorem tf195_3 : tfield Try.prog 195 3 = some (3, 189) := by kernel_rfl
theorem tf195_4 : tfield Try.prog 195 4 = some (4, 5) := by kernel_rfl
theorem tf195_5 : tfield Try.prog 195 5 = some (5, 5) := by kernel_rfl
theorem tf195_6 : tfield Try.prog 195 6 = some (6, 190) := by kernel_rfl
theorem tf195_7 : tfield Try.prog 195 7 = some (7, 191) := by kernel_rfl
theorem tf195_8 : tfield Try.prog 195 8 = some (8, 151) := by kernel_rfl
theorem tf195_9 : tfield Try.prog 195 9 = some (9, 192) := by kernel_rfl
theorem tf195_10 : tfield Try.prog 195 10 = some (10, 193) := by kernel_rfl
attribute [simp] ts2 tb2 ta2 tc2 tB2 ti2 tz2 ts3 tb3 ta3 tc3 tB3 ti3 tz3 ts4 tb4 ta4 tc4 tB4 ti4 tz4 ts5 tb5 ta5 tc5 tB5 ti5 tz5 ts6 tb6 ta6 tc6 tB6 ti6 tz6 ts7 tb7 ta7 tc7 tB7 ti7 tf7_0 tf7_1 tf7_2 tf7_3 tz7 ts8 tb8 ta8 tc8 tB8 ti8 tf8_0 tf8_1 tf8_2 tf8_3 tz8 ts9 tb9 ta9 tc9 tB9 ti9 tz9 ts10 tb10 ta10 tc10 tB10 ti10 tz10 ts11 tb11 ta11 tc11 tB11 ti11 tz11 ts12 tb12 ta12 tc12 tB12 ti12 tz12 ts13 tb13 ta13 tc13 tB13 ti13 tf13_0 tf13_1 tz13 ts14 tb14 ta14 tc14 tB14 ti14 tf14_0 tf14_1 tz14 ts15 tb15 ta15 tc15 tB15 ti15 tz15 ts16 tb16 ta16 tc16 tB16 ti16 tz16 ts17 tb17 ta17 tc17 tB17 ti17 tz17 ts18 tb18 ta18 tc18 tB18 ti18 tf18_0 tz18 ts19 tb19 ta19 tc19 tB19 ti19 tf19_0 tz19 ts21 tb21 ta21 tc21 tB21 ti21 tz21 ts22 tb22 ta22 tc22 tB22 ti22 te22 tz22 ts23 tb23 ta23 tc23 tB23 ti23 tf23_0 tf23_1 tf23_2 tz23 ts24 tb24 ta24 tc24 tB24 ti24 tf24_0 tf24_1 tf24_2 tz24 ts28 tb28 ta28 tc28 tB28 ti28 tf28_0 tf28_1 tf28_2 tz28 ts32 tb32 ta32 tc32 tB32 ti32 te32 tz32 ts35 tb35 ta35 tc35 tB35 ti35 te35 tz35 ts44 tb44 ta44 tc44 tB44 ti44 te44 tz44 ts50 tb50 ta50 tc50 tB50 ti50 te50 tz50 ts51 tb51 ta51 tc51 tB51 ti51 tf51_0 tf51_1 tf51_2 tf51_3 tz51 ts52 tb52 ta52 tc52 tB52 ti52 tf52_0 tf52_1 tf52_2 tf52_3 tz52 ts55 tb55 ta55 tc55 tB55 ti55 te55 tz55 ts56 tb56 ta56 tc56 tB56 ti56 tf56_0 tf56_1 tf56_2 tf56_3 tz56 ts57 tb57 ta57 tc57 tB57 ti57 tf57_0 tf57_1 tf57_2 tf57_3 tz57 ts70 tb70 ta70 tc70 tB70 ti70 te70 tz70 ts75 tb75 ta75 tc75 tB75 ti75 tf75_0 tf75_1 tf75_2 tf75_3 tz75 ts76 tb76 ta76 tc76 tB76 ti76 tf76_0 tf76_1 tf76_2 tf76_3 tz76 ts80 tb80 ta80 tc80 tB80 ti80 tf80_0 tf80_1 tf80_2 tf80_3 tz80 ts85 tb85 ta85 tc85 tB85 ti85 te85 tz85 ts87 tb87 ta87 tc87 tB87 ti87 te87 tz87 ts90 tb90 ta90 tc90 tB90 ti90 te90 tz90 ts100 tb100 ta100 tc100 tB100 ti100 tf100_0 tf100_1 tz100 ts101 tb101 ta101 tc101 tB101 ti101 tf101_0 tf101_1 tz101 ts103 tb103 ta103 tc103 tB103 ti103 tf103_0 tf103_1 tz103 ts117 tb117 ta117 tc117 tB117 ti117 tz117 ts118 tb118 ta118 tc118 tB118 ti118 te118 tz118 ts119 tb119 ta119 tc119 tB119 ti119 tf119_0 tf119_1 tz119 ts120 tb120 ta120 tc120 tB120 ti120 tf120_0 tf120_1 tz120 ts125 tb125 ta125 tc125 tB125 ti125 tz125 ts126 tb126 ta126 tc126 tB126 ti126 tf126_0 tf126_1 tf126_2 tz126 ts127 tb127 ta127 tc127 tB127 ti127 tf127_0 tf127_1 tf127_2 tz127 ts128 tb128 ta128 tc128 tB128 ti128 tz128 ts129 tb129 ta129 tc129 tB129 ti129 tf129_0 tf129_1 tf129_2 tf129_3 tz129 ts130 tb130 ta130 tc130 tB130 ti130 tf130_0 tf130_1 tf130_2 tf130_3 tz130 ts151 tb151 ta151 tc151 tB151 ti151 tz151 ts163 tb163 ta163 tc163 tB163 ti163 tz163 ts170 tb170 ta170 tc170 tB170 ti170 tz170 ts175 tb175 ta175 tc175 tB175 ti175 tz175 ts178 tb178 ta178 tc178 tB178 ti178 tz178 ts184 tb184 ta184 tc184 tB184 ti184 tf184_0 tf184_1 tf184_2 tf184_3 tz184 ts185 tb185 ta185 tc185 tB185 ti185 tf185_0 tf185_1 tf185_2 tf185_3 tz185 ts187 tb187 ta187 tc187 tB187 ti187 tf187_0 ts188 tb188 ta188 tc188 tB188 ti188 tf188_0 ts189 tb189 ta189 tc189 tB189 ti189 tz189 ts190 tb190 ta190 tc190 tB190 ti190 tz190 ts192 tb192 ta192 tc192 tB192 ti192 tz192 ts193 tb193 ta193 tc193 tB193 ti193 tz193 ts194 tb194 ta194 tc194 tB194 ti194 tf194_0 tf194_1 tf194_2 tf194_3 tf194_4 tf194_5 tf194_6 tf194_7 tf194_8 tf194_9 tf194_10 ts195 tb195 ta195 tc195 tB195 ti195 tf195_0 tf195_1 tf195_2 tf195_3 tf195_4 tf195_5 tf195_6 tf195_7 tf195_8 tf195_9 tf195_10
end Go.V
