/- Facts on the types of the seat's program, each by reckoning. No conditions. -/
import Derived.Test.YtnjiehcikhlliaaVf
import Derived.Test.YtnjiehcikhlliaaProg
set_option linter.all false
namespace Go.V
open Go.Proofs
set_option maxRecDepth 10000
theorem h0 : tsz Try.prog nilE = 0 := by kernel_rfl
theorem hm : Try.prog.follows .mixedOrders = true := by kernel_rfl
theorem ts2 : tsz Try.prog 2 = 1 := by kernel_rfl
theorem tb2 : tby Try.prog 2 = 8 := by kernel_rfl
theorem ta2 : tagg Try.prog 2 = some false := by kernel_rfl
theorem tc2 : Try.prog.cellsOf 2 = 1 := by kernel_rfl
theorem tB2 : Try.prog.bytesOf 2 = 8 := by kernel_rfl
theorem ti2 : (Try.prog.info? 2).isSome = true := by kernel_rfl
theorem tz2 : tzero Try.prog 2 = some (.int .i64 0) := by kernel_rfl
theorem ts3 : tsz Try.prog 3 = 1 := by kernel_rfl
theorem tb3 : tby Try.prog 3 = 8 := by kernel_rfl
theorem ta3 : tagg Try.prog 3 = some false := by kernel_rfl
theorem tc3 : Try.prog.cellsOf 3 = 1 := by kernel_rfl
theorem tB3 : Try.prog.bytesOf 3 = 8 := by kernel_rfl
theorem ti3 : (Try.prog.info? 3).isSome = true := by kernel_rfl
theorem tz3 : tzero Try.prog 3 = some (.int .i64 0) := by kernel_rfl
theorem ts4 : tsz Try.prog 4 = 1 := by kernel_rfl
theorem tb4 : tby Try.prog 4 = 1 := by kernel_rfl
theorem ta4 : tagg Try.prog 4 = some false := by kernel_rfl
theorem tc4 : Try.prog.cellsOf 4 = 1 := by kernel_rfl
theorem tB4 : Try.prog.bytesOf 4 = 1 := by kernel_rfl
theorem ti4 : (Try.prog.info? 4).isSome = true := by kernel_rfl
theorem tz4 : tzero Try.prog 4 = some (.bool false) := by kernel_rfl
theorem ts5 : tsz Try.prog 5 = 1 := by kernel_rfl
theorem tb5 : tby Try.prog 5 = 1 := by kernel_rfl
theorem ta5 : tagg Try.prog 5 = some false := by kernel_rfl
theorem tc5 : Try.prog.cellsOf 5 = 1 := by kernel_rfl
theorem tB5 : Try.prog.bytesOf 5 = 1 := by kernel_rfl
theorem ti5 : (Try.prog.info? 5).isSome = true := by kernel_rfl
theorem tz5 : tzero Try.prog 5 = some (.int .u8 0) := by kernel_rfl
theorem ts6 : tsz Try.prog 6 = 1 := by kernel_rfl
theorem tb6 : tby Try.prog 6 = 1 := by kernel_rfl
theorem ta6 : tagg Try.prog 6 = some false := by kernel_rfl
theorem tc6 : Try.prog.cellsOf 6 = 1 := by kernel_rfl
theorem tB6 : Try.prog.bytesOf 6 = 1 := by kernel_rfl
theorem ti6 : (Try.prog.info? 6).isSome = true := by kernel_rfl
theorem tz6 : tzero Try.prog 6 = some (.int .u8 0) := by kernel_rfl
theorem ts7 : tsz Try.prog 7 = 4 := by kernel_rfl
theorem tb7 : tby Try.prog 7 = 24 := by kernel_rfl
theorem ta7 : tagg Try.prog 7 = some true := by kernel_rfl
theorem tc7 : Try.prog.cellsOf 7 = 4 := by kernel_rfl
theorem tB7 : Try.prog.bytesOf 7 = 24 := by kernel_rfl
theorem ti7 : (Try.prog.info? 7).isSome = true := by kernel_rfl
theorem tf7_0 : tfield Try.prog 7 0 = some (0, 2) := by kernel_rfl
theorem tf7_1 : tfield Try.prog 7 1 = some (1, 3) := by kernel_rfl
theorem tf7_2 : tfield Try.prog 7 2 = some (2, 4) := by kernel_rfl
theorem tf7_3 : tfield Try.prog 7 3 = some (3, 6) := by kernel_rfl
theorem tz7 : tzero Try.prog 7 = some (.agg #[.int .i64 0, .int .i64 0, .bool false, .int .u8 0]) := by kernel_rfl
theorem ts8 : tsz Try.prog 8 = 4 := by kernel_rfl
theorem tb8 : tby Try.prog 8 = 24 := by kernel_rfl
theorem ta8 : tagg Try.prog 8 = some true := by kernel_rfl
theorem tc8 : Try.prog.cellsOf 8 = 4 := by kernel_rfl
theorem tB8 : Try.prog.bytesOf 8 = 24 := by kernel_rfl
theorem ti8 : (Try.prog.info? 8).isSome = true := by kernel_rfl
theorem tf8_0 : tfield Try.prog 8 0 = some (0, 2) := by kernel_rfl
theorem tf8_1 : tfield Try.prog 8 1 = some (1, 3) := by kernel_rfl
theorem tf8_2 : tfield Try.prog 8 2 = some (2, 4) := by kernel_rfl
theorem tf8_3 : tfield Try.prog 8 3 = some (3, 6) := by kernel_rfl
theorem tz8 : tzero Try.prog 8 = some (.agg #[.int .i64 0, .int .i64 0, .bool false, .int .u8 0]) := by kernel_rfl
theorem ts9 : tsz Try.prog 9 = 1 := by kernel_rfl
theorem tb9 : tby Try.prog 9 = 16 := by kernel_rfl
theorem ta9 : tagg Try.prog 9 = some false := by kernel_rfl
theorem tc9 : Try.prog.cellsOf 9 = 1 := by kernel_rfl
theorem tB9 : Try.prog.bytesOf 9 = 16 := by kernel_rfl
theorem ti9 : (Try.prog.info? 9).isSome = true := by kernel_rfl
theorem tz9 : tzero Try.prog 9 = some (.string ByteArray.empty) := by kernel_rfl
theorem ts10 : tsz Try.prog 10 = 1 := by kernel_rfl
theorem tb10 : tby Try.prog 10 = 16 := by kernel_rfl
theorem ta10 : tagg Try.prog 10 = some false := by kernel_rfl
theorem tc10 : Try.prog.cellsOf 10 = 1 := by kernel_rfl
theorem tB10 : Try.prog.bytesOf 10 = 16 := by kernel_rfl
theorem ti10 : (Try.prog.info? 10).isSome = true := by kernel_rfl
theorem tz10 : tzero Try.prog 10 = some (.string ByteArray.empty) := by kernel_rfl
theorem ts11 : tsz Try.prog 11 = 1 := by kernel_rfl
theorem tb11 : tby Try.prog 11 = 16 := by kernel_rfl
theorem ta11 : tagg Try.prog 11 = some false := by kernel_rfl
theorem tc11 : Try.prog.cellsOf 11 = 1 := by kernel_rfl
theorem tB11 : Try.prog.bytesOf 11 = 16 := by kernel_rfl
theorem ti11 : (Try.prog.info? 11).isSome = true := by kernel_rfl
theorem tz11 : tzero Try.prog 11 = some (.string ByteArray.empty) := by kernel_rfl
theorem ts12 : tsz Try.prog 12 = 1 := by kernel_rfl
theorem tb12 : tby Try.prog 12 = 8 := by kernel_rfl
theorem ta12 : tagg Try.prog 12 = some false := by kernel_rfl
theorem tc12 : Try.prog.cellsOf 12 = 1 := by kernel_rfl
theorem tB12 : Try.prog.bytesOf 12 = 8 := by kernel_rfl
theorem ti12 : (Try.prog.info? 12).isSome = true := by kernel_rfl
theorem tz12 : tzero Try.prog 12 = some (.int .u64 0) := by kernel_rfl
theorem ts13 : tsz Try.prog 13 = 2 := by kernel_rfl
theorem tb13 : tby Try.prog 13 = 24 := by kernel_rfl
theorem ta13 : tagg Try.prog 13 = some true := by kernel_rfl
theorem tc13 : Try.prog.cellsOf 13 = 2 := by kernel_rfl
theorem tB13 : Try.prog.bytesOf 13 = 24 := by kernel_rfl
theorem ti13 : (Try.prog.info? 13).isSome = true := by kernel_rfl
theorem tf13_0 : tfield Try.prog 13 0 = some (0, 9) := by kernel_rfl
theorem tf13_1 : tfield Try.prog 13 1 = some (1, 12) := by kernel_rfl
theorem tz13 : tzero Try.prog 13 = some (.agg #[.string ByteArray.empty, .int .u64 0]) := by kernel_rfl
theorem ts14 : tsz Try.prog 14 = 2 := by kernel_rfl
theorem tb14 : tby Try.prog 14 = 24 := by kernel_rfl
theorem ta14 : tagg Try.prog 14 = some true := by kernel_rfl
theorem tc14 : Try.prog.cellsOf 14 = 2 := by kernel_rfl
theorem tB14 : Try.prog.bytesOf 14 = 24 := by kernel_rfl
theorem ti14 : (Try.prog.info? 14).isSome = true := by kernel_rfl
theorem tf14_0 : tfield Try.prog 14 0 = some (0, 9) := by kernel_rfl
theorem tf14_1 : tfield Try.prog 14 1 = some (1, 12) := by kernel_rfl
theorem tz14 : tzero Try.prog 14 = some (.agg #[.string ByteArray.empty, .int .u64 0]) := by kernel_rfl
theorem ts15 : tsz Try.prog 15 = 1 := by kernel_rfl
theorem tb15 : tby Try.prog 15 = 8 := by kernel_rfl
theorem ta15 : tagg Try.prog 15 = some false := by kernel_rfl
theorem tc15 : Try.prog.cellsOf 15 = 1 := by kernel_rfl
theorem tB15 : Try.prog.bytesOf 15 = 8 := by kernel_rfl
theorem ti15 : (Try.prog.info? 15).isSome = true := by kernel_rfl
theorem tz15 : tzero Try.prog 15 = some (.pointer none) := by kernel_rfl
theorem ts16 : tsz Try.prog 16 = 1 := by kernel_rfl
theorem tb16 : tby Try.prog 16 = 8 := by kernel_rfl
theorem ta16 : tagg Try.prog 16 = some false := by kernel_rfl
theorem tc16 : Try.prog.cellsOf 16 = 1 := by kernel_rfl
theorem tB16 : Try.prog.bytesOf 16 = 8 := by kernel_rfl
theorem ti16 : (Try.prog.info? 16).isSome = true := by kernel_rfl
theorem tz16 : tzero Try.prog 16 = some (.pointer none) := by kernel_rfl
theorem ts17 : tsz Try.prog 17 = 1 := by kernel_rfl
theorem tb17 : tby Try.prog 17 = 8 := by kernel_rfl
theorem ta17 : tagg Try.prog 17 = some false := by kernel_rfl
theorem tc17 : Try.prog.cellsOf 17 = 1 := by kernel_rfl
theorem tB17 : Try.prog.bytesOf 17 = 8 := by kernel_rfl
theorem ti17 : (Try.prog.info? 17).isSome = true := by kernel_rfl
theorem tz17 : tzero Try.prog 17 = some (.pointer none) := by kernel_rfl
theorem ts18 : tsz Try.prog 18 = 1 := by kernel_rfl
theorem tb18 : tby Try.prog 18 = 8 := by kernel_rfl
theorem ta18 : tagg Try.prog 18 = some true := by kernel_rfl
theorem tc18 : Try.prog.cellsOf 18 = 1 := by kernel_rfl
theorem tB18 : Try.prog.bytesOf 18 = 8 := by kernel_rfl
theorem ti18 : (Try.prog.info? 18).isSome = true := by kernel_rfl
theorem tf18_0 : tfield Try.prog 18 0 = some (0, 17) := by kernel_rfl
theorem tz18 : tzero Try.prog 18 = some (.agg #[.pointer none]) := by kernel_rfl
theorem ts19 : tsz Try.prog 19 = 1 := by kernel_rfl
theorem tb19 : tby Try.prog 19 = 8 := by kernel_rfl
theorem ta19 : tagg Try.prog 19 = some true := by kernel_rfl
theorem tc19 : Try.prog.cellsOf 19 = 1 := by kernel_rfl
theorem tB19 : Try.prog.bytesOf 19 = 8 := by kernel_rfl
theorem ti19 : (Try.prog.info? 19).isSome = true := by kernel_rfl
theorem tf19_0 : tfield Try.prog 19 0 = some (0, 17) := by kernel_rfl
theorem tz19 : tzero Try.prog 19 = some (.agg #[.pointer none]) := by kernel_rfl
theorem ts21 : tsz Try.prog 21 = 1 := by kernel_rfl
theorem tb21 : tby Try.prog 21 = 4 := by kernel_rfl
theorem ta21 : tagg Try.prog 21 = some false := by kernel_rfl
theorem tc21 : Try.prog.cellsOf 21 = 1 := by kernel_rfl
theorem tB21 : Try.prog.bytesOf 21 = 4 := by kernel_rfl
theorem ti21 : (Try.prog.info? 21).isSome = true := by kernel_rfl
theorem tz21 : tzero Try.prog 21 = some (.int .i32 0) := by kernel_rfl
theorem ts22 : tsz Try.prog 22 = 1 := by kernel_rfl
theorem tb22 : tby Try.prog 22 = 24 := by kernel_rfl
theorem ta22 : tagg Try.prog 22 = some false := by kernel_rfl
theorem tc22 : Try.prog.cellsOf 22 = 1 := by kernel_rfl
theorem tB22 : Try.prog.bytesOf 22 = 24 := by kernel_rfl
theorem ti22 : (Try.prog.info? 22).isSome = true := by kernel_rfl
theorem te22 : telem Try.prog 22 = some 44 := by kernel_rfl
theorem tz22 : tzero Try.prog 22 = some (.slice none 0 0) := by kernel_rfl
theorem ts23 : tsz Try.prog 23 = 1 := by kernel_rfl
theorem tb23 : tby Try.prog 23 = 24 := by kernel_rfl
theorem ta23 : tagg Try.prog 23 = some false := by kernel_rfl
theorem tc23 : Try.prog.cellsOf 23 = 1 := by kernel_rfl
theorem tB23 : Try.prog.bytesOf 23 = 24 := by kernel_rfl
theorem ti23 : (Try.prog.info? 23).isSome = true := by kernel_rfl
theorem te23 : telem Try.prog 23 = some 48 := by kernel_rfl
theorem tz23 : tzero Try.prog 23 = some (.slice none 0 0) := by kernel_rfl
theorem ts26 : tsz Try.prog 26 = 1 := by kernel_rfl
theorem tb26 : tby Try.prog 26 = 24 := by kernel_rfl
theorem ta26 : tagg Try.prog 26 = some false := by kernel_rfl
theorem tc26 : Try.prog.cellsOf 26 = 1 := by kernel_rfl
theorem tB26 : Try.prog.bytesOf 26 = 24 := by kernel_rfl
theorem ti26 : (Try.prog.info? 26).isSome = true := by kernel_rfl
theorem te26 : telem Try.prog 26 = some 58 := by kernel_rfl
theorem tz26 : tzero Try.prog 26 = some (.slice none 0 0) := by kernel_rfl
theorem ts30 : tsz Try.prog 30 = 1 := by kernel_rfl
theorem tb30 : tby Try.prog 30 = 24 := by kernel_rfl
theorem ta30 : tagg Try.prog 30 = some false := by kernel_rfl
theorem tc30 : Try.prog.cellsOf 30 = 1 := by kernel_rfl
theorem tB30 : Try.prog.bytesOf 30 = 24 := by kernel_rfl
theorem ti30 : (Try.prog.info? 30).isSome = true := by kernel_rfl
theorem te30 : telem Try.prog 30 = some 54 := by kernel_rfl
theorem tz30 : tzero Try.prog 30 = some (.slice none 0 0) := by kernel_rfl
theorem ts38 : tsz Try.prog 38 = 2 := by kernel_rfl
theorem tb38 : tby Try.prog 38 = 16 := by kernel_rfl
theorem ta38 : tagg Try.prog 38 = some true := by kernel_rfl
theorem tc38 : Try.prog.cellsOf 38 = 2 := by kernel_rfl
theorem tB38 : Try.prog.bytesOf 38 = 16 := by kernel_rfl
theorem ti38 : (Try.prog.info? 38).isSome = true := by kernel_rfl
theorem tq38 : isPairT Try.prog 38 = true := by kernel_rfl
theorem tf38_0 : tfield Try.prog 38 0 = some (0, 3) := by kernel_rfl
theorem tf38_1 : tfield Try.prog 38 1 = some (1, 3) := by kernel_rfl
theorem tz38 : tzero Try.prog 38 = some (.agg #[.int .i64 0, .int .i64 0]) := by kernel_rfl
theorem ts39 : tsz Try.prog 39 = 2 := by kernel_rfl
theorem tb39 : tby Try.prog 39 = 16 := by kernel_rfl
theorem ta39 : tagg Try.prog 39 = some true := by kernel_rfl
theorem tc39 : Try.prog.cellsOf 39 = 2 := by kernel_rfl
theorem tB39 : Try.prog.bytesOf 39 = 16 := by kernel_rfl
theorem ti39 : (Try.prog.info? 39).isSome = true := by kernel_rfl
theorem tq39 : isPairT Try.prog 39 = true := by kernel_rfl
theorem tf39_0 : tfield Try.prog 39 0 = some (0, 3) := by kernel_rfl
theorem tf39_1 : tfield Try.prog 39 1 = some (1, 3) := by kernel_rfl
theorem tz39 : tzero Try.prog 39 = some (.agg #[.int .i64 0, .int .i64 0]) := by kernel_rfl
theorem ts40 : tsz Try.prog 40 = 1 := by kernel_rfl
theorem tb40 : tby Try.prog 40 = 24 := by kernel_rfl
theorem ta40 : tagg Try.prog 40 = some false := by kernel_rfl
theorem tc40 : Try.prog.cellsOf 40 = 1 := by kernel_rfl
theorem tB40 : Try.prog.bytesOf 40 = 24 := by kernel_rfl
theorem ti40 : (Try.prog.info? 40).isSome = true := by kernel_rfl
theorem te40 : telem Try.prog 40 = some 3 := by kernel_rfl
theorem tz40 : tzero Try.prog 40 = some (.slice none 0 0) := by kernel_rfl
theorem ts41 : tsz Try.prog 41 = 6 := by kernel_rfl
theorem tb41 : tby Try.prog 41 = 80 := by kernel_rfl
theorem ta41 : tagg Try.prog 41 = some true := by kernel_rfl
theorem tc41 : Try.prog.cellsOf 41 = 6 := by kernel_rfl
theorem tB41 : Try.prog.bytesOf 41 = 80 := by kernel_rfl
theorem ti41 : (Try.prog.info? 41).isSome = true := by kernel_rfl
theorem tf41_0 : tfield Try.prog 41 0 = some (0, 3) := by kernel_rfl
theorem tf41_1 : tfield Try.prog 41 1 = some (1, 40) := by kernel_rfl
theorem tf41_2 : tfield Try.prog 41 2 = some (2, 3) := by kernel_rfl
theorem tf41_3 : tfield Try.prog 41 3 = some (3, 3) := by kernel_rfl
theorem tf41_4 : tfield Try.prog 41 4 = some (4, 3) := by kernel_rfl
theorem tf41_5 : tfield Try.prog 41 5 = some (5, 40) := by kernel_rfl
theorem tz41 : tzero Try.prog 41 = some (.agg #[.int .i64 0, .slice none 0 0, .int .i64 0, .int .i64 0, .int .i64 0, .slice none 0 0]) := by kernel_rfl
theorem ts42 : tsz Try.prog 42 = 6 := by kernel_rfl
theorem tb42 : tby Try.prog 42 = 80 := by kernel_rfl
theorem ta42 : tagg Try.prog 42 = some true := by kernel_rfl
theorem tc42 : Try.prog.cellsOf 42 = 6 := by kernel_rfl
theorem tB42 : Try.prog.bytesOf 42 = 80 := by kernel_rfl
theorem ti42 : (Try.prog.info? 42).isSome = true := by kernel_rfl
theorem tf42_0 : tfield Try.prog 42 0 = some (0, 3) := by kernel_rfl
theorem tf42_1 : tfield Try.prog 42 1 = some (1, 40) := by kernel_rfl
theorem tf42_2 : tfield Try.prog 42 2 = some (2, 3) := by kernel_rfl
theorem tf42_3 : tfield Try.prog 42 3 = some (3, 3) := by kernel_rfl
theorem tf42_4 : tfield Try.prog 42 4 = some (4, 3) := by kernel_rfl
theorem tf42_5 : tfield Try.prog 42 5 = some (5, 40) := by kernel_rfl
theorem tz42 : tzero Try.prog 42 = some (.agg #[.int .i64 0, .slice none 0 0, .int .i64 0, .int .i64 0, .int .i64 0, .slice none 0 0]) := by kernel_rfl
theorem ts43 : tsz Try.prog 43 = 8 := by kernel_rfl
theorem tb43 : tby Try.prog 43 = 96 := by kernel_rfl
theorem ta43 : tagg Try.prog 43 = some true := by kernel_rfl
theorem tc43 : Try.prog.cellsOf 43 = 8 := by kernel_rfl
theorem tB43 : Try.prog.bytesOf 43 = 96 := by kernel_rfl
theorem ti43 : (Try.prog.info? 43).isSome = true := by kernel_rfl
theorem tf43_0 : tfield Try.prog 43 0 = some (0, 39) := by kernel_rfl
theorem tf43_1 : tfield Try.prog 43 1 = some (2, 42) := by kernel_rfl
theorem tz43 : tzero Try.prog 43 = some (.agg #[.int .i64 0, .int .i64 0, .int .i64 0, .slice none 0 0, .int .i64 0, .int .i64 0, .int .i64 0, .slice none 0 0]) := by kernel_rfl
theorem ts44 : tsz Try.prog 44 = 8 := by kernel_rfl
theorem tb44 : tby Try.prog 44 = 96 := by kernel_rfl
theorem ta44 : tagg Try.prog 44 = some true := by kernel_rfl
theorem tc44 : Try.prog.cellsOf 44 = 8 := by kernel_rfl
theorem tB44 : Try.prog.bytesOf 44 = 96 := by kernel_rfl
theorem ti44 : (Try.prog.info? 44).isSome = true := by kernel_rfl
theorem tf44_0 : tfield Try.prog 44 0 = some (0, 39) := by kernel_rfl
theorem tf44_1 : tfield Try.prog 44 1 = some (2, 42) := by kernel_rfl
theorem tz44 : tzero Try.prog 44 = some (.agg #[.int .i64 0, .int .i64 0, .int .i64 0, .slice none 0 0, .int .i64 0, .int .i64 0, .int .i64 0, .slice none 0 0]) := by kernel_rfl
theorem ts46 : tsz Try.prog 46 = 1 := by kernel_rfl
theorem tb46 : tby Try.prog 46 = 24 := by kernel_rfl
theorem ta46 : tagg Try.prog 46 = some false := by kernel_rfl
theorem tc46 : Try.prog.cellsOf 46 = 1 := by kernel_rfl
theorem tB46 : Try.prog.bytesOf 46 = 24 := by kernel_rfl
theorem ti46 : (Try.prog.info? 46).isSome = true := by kernel_rfl
theorem te46 : telem Try.prog 46 = some 39 := by kernel_rfl
theorem tz46 : tzero Try.prog 46 = some (.slice none 0 0) := by kernel_rfl
theorem ts47 : tsz Try.prog 47 = 8 := by kernel_rfl
theorem tb47 : tby Try.prog 47 = 128 := by kernel_rfl
theorem ta47 : tagg Try.prog 47 = some true := by kernel_rfl
theorem tc47 : Try.prog.cellsOf 47 = 8 := by kernel_rfl
theorem tB47 : Try.prog.bytesOf 47 = 128 := by kernel_rfl
theorem ti47 : (Try.prog.info? 47).isSome = true := by kernel_rfl
theorem tf47_0 : tfield Try.prog 47 0 = some (0, 46) := by kernel_rfl
theorem tf47_1 : tfield Try.prog 47 1 = some (1, 42) := by kernel_rfl
theorem tf47_2 : tfield Try.prog 47 2 = some (7, 46) := by kernel_rfl
theorem tz47 : tzero Try.prog 47 = some (.agg #[.slice none 0 0, .int .i64 0, .slice none 0 0, .int .i64 0, .int .i64 0, .int .i64 0, .slice none 0 0, .slice none 0 0]) := by kernel_rfl
theorem ts48 : tsz Try.prog 48 = 8 := by kernel_rfl
theorem tb48 : tby Try.prog 48 = 128 := by kernel_rfl
theorem ta48 : tagg Try.prog 48 = some true := by kernel_rfl
theorem tc48 : Try.prog.cellsOf 48 = 8 := by kernel_rfl
theorem tB48 : Try.prog.bytesOf 48 = 128 := by kernel_rfl
theorem ti48 : (Try.prog.info? 48).isSome = true := by kernel_rfl
theorem tf48_0 : tfield Try.prog 48 0 = some (0, 46) := by kernel_rfl
theorem tf48_1 : tfield Try.prog 48 1 = some (1, 42) := by kernel_rfl
theorem tf48_2 : tfield Try.prog 48 2 = some (7, 46) := by kernel_rfl
theorem tz48 : tzero Try.prog 48 = some (.agg #[.slice none 0 0, .int .i64 0, .slice none 0 0, .int .i64 0, .int .i64 0, .int .i64 0, .slice none 0 0, .slice none 0 0]) := by kernel_rfl
theorem ts51 : tsz Try.prog 51 = 1 := by kernel_rfl
theorem tb51 : tby Try.prog 51 = 24 := by kernel_rfl
theorem ta51 : tagg Try.prog 51 = some false := by kernel_rfl
theorem tc51 : Try.prog.cellsOf 51 = 1 := by kernel_rfl
theorem tB51 : Try.prog.bytesOf 51 = 24 := by kernel_rfl
theorem ti51 : (Try.prog.info? 51).isSome = true := by kernel_rfl
theorem te51 : telem Try.prog 51 = some 56 := by kernel_rfl
theorem tz51 : tzero Try.prog 51 = some (.slice none 0 0) := by kernel_rfl
theorem ts52 : tsz Try.prog 52 = 6 := by kernel_rfl
theorem tb52 : tby Try.prog 52 = 80 := by kernel_rfl
theorem ta52 : tagg Try.prog 52 = some true := by kernel_rfl
theorem tc52 : Try.prog.cellsOf 52 = 6 := by kernel_rfl
theorem tB52 : Try.prog.bytesOf 52 = 80 := by kernel_rfl
theorem ti52 : (Try.prog.info? 52).isSome = true := by kernel_rfl
theorem tf52_0 : tfield Try.prog 52 0 = some (0, 3) := by kernel_rfl
theorem tf52_1 : tfield Try.prog 52 1 = some (1, 40) := by kernel_rfl
theorem tf52_2 : tfield Try.prog 52 2 = some (2, 3) := by kernel_rfl
theorem tf52_3 : tfield Try.prog 52 3 = some (3, 3) := by kernel_rfl
theorem tf52_4 : tfield Try.prog 52 4 = some (4, 3) := by kernel_rfl
theorem tf52_5 : tfield Try.prog 52 5 = some (5, 40) := by kernel_rfl
theorem tz52 : tzero Try.prog 52 = some (.agg #[.int .i64 0, .slice none 0 0, .int .i64 0, .int .i64 0, .int .i64 0, .slice none 0 0]) := by kernel_rfl
theorem ts53 : tsz Try.prog 53 = 8 := by kernel_rfl
theorem tb53 : tby Try.prog 53 = 128 := by kernel_rfl
theorem ta53 : tagg Try.prog 53 = some true := by kernel_rfl
theorem tc53 : Try.prog.cellsOf 53 = 8 := by kernel_rfl
theorem tB53 : Try.prog.bytesOf 53 = 128 := by kernel_rfl
theorem ti53 : (Try.prog.info? 53).isSome = true := by kernel_rfl
theorem tf53_0 : tfield Try.prog 53 0 = some (0, 51) := by kernel_rfl
theorem tf53_1 : tfield Try.prog 53 1 = some (1, 52) := by kernel_rfl
theorem tf53_2 : tfield Try.prog 53 2 = some (7, 51) := by kernel_rfl
theorem tz53 : tzero Try.prog 53 = some (.agg #[.slice none 0 0, .int .i64 0, .slice none 0 0, .int .i64 0, .int .i64 0, .int .i64 0, .slice none 0 0, .slice none 0 0]) := by kernel_rfl
theorem ts54 : tsz Try.prog 54 = 8 := by kernel_rfl
theorem tb54 : tby Try.prog 54 = 128 := by kernel_rfl
theorem ta54 : tagg Try.prog 54 = some true := by kernel_rfl
theorem tc54 : Try.prog.cellsOf 54 = 8 := by kernel_rfl
theorem tB54 : Try.prog.bytesOf 54 = 128 := by kernel_rfl
theorem ti54 : (Try.prog.info? 54).isSome = true := by kernel_rfl
theorem tf54_0 : tfield Try.prog 54 0 = some (0, 51) := by kernel_rfl
theorem tf54_1 : tfield Try.prog 54 1 = some (1, 52) := by kernel_rfl
theorem tf54_2 : tfield Try.prog 54 2 = some (7, 51) := by kernel_rfl
theorem tz54 : tzero Try.prog 54 = some (.agg #[.slice none 0 0, .int .i64 0, .slice none 0 0, .int .i64 0, .int .i64 0, .int .i64 0, .slice none 0 0, .slice none 0 0]) := by kernel_rfl
theorem ts56 : tsz Try.prog 56 = 2 := by kernel_rfl
theorem tb56 : tby Try.prog 56 = 16 := by kernel_rfl
theorem ta56 : tagg Try.prog 56 = some true := by kernel_rfl
theorem tc56 : Try.prog.cellsOf 56 = 2 := by kernel_rfl
theorem tB56 : Try.prog.bytesOf 56 = 16 := by kernel_rfl
theorem ti56 : (Try.prog.info? 56).isSome = true := by kernel_rfl
theorem tq56 : isPairT Try.prog 56 = true := by kernel_rfl
theorem tf56_0 : tfield Try.prog 56 0 = some (0, 3) := by kernel_rfl
theorem tf56_1 : tfield Try.prog 56 1 = some (1, 3) := by kernel_rfl
theorem tz56 : tzero Try.prog 56 = some (.agg #[.int .i64 0, .int .i64 0]) := by kernel_rfl
theorem ts57 : tsz Try.prog 57 = 8 := by kernel_rfl
theorem tb57 : tby Try.prog 57 = 96 := by kernel_rfl
theorem ta57 : tagg Try.prog 57 = some true := by kernel_rfl
theorem tc57 : Try.prog.cellsOf 57 = 8 := by kernel_rfl
theorem tB57 : Try.prog.bytesOf 57 = 96 := by kernel_rfl
theorem ti57 : (Try.prog.info? 57).isSome = true := by kernel_rfl
theorem tf57_0 : tfield Try.prog 57 0 = some (0, 56) := by kernel_rfl
theorem tf57_1 : tfield Try.prog 57 1 = some (2, 52) := by kernel_rfl
theorem tz57 : tzero Try.prog 57 = some (.agg #[.int .i64 0, .int .i64 0, .int .i64 0, .slice none 0 0, .int .i64 0, .int .i64 0, .int .i64 0, .slice none 0 0]) := by kernel_rfl
theorem ts58 : tsz Try.prog 58 = 8 := by kernel_rfl
theorem tb58 : tby Try.prog 58 = 96 := by kernel_rfl
theorem ta58 : tagg Try.prog 58 = some true := by kernel_rfl
theorem tc58 : Try.prog.cellsOf 58 = 8 := by kernel_rfl
theorem tB58 : Try.prog.bytesOf 58 = 96 := by kernel_rfl
theorem ti58 : (Try.prog.info? 58).isSome = true := by kernel_rfl
theorem tf58_0 : tfield Try.prog 58 0 = some (0, 56) := by kernel_rfl
theorem tf58_1 : tfield Try.prog 58 1 = some (2, 52) := by kernel_rfl
theorem tz58 : tzero Try.prog 58 = some (.agg #[.int .i64 0, .int .i64 0, .int .i64 0, .slice none 0 0, .int .i64 0, .int .i64 0, .int .i64 0, .slice none 0 0]) := by kernel_rfl
theorem ts101 : tsz Try.prog 101 = 1 := by kernel_rfl
theorem tb101 : tby Try.prog 101 = 8 := by kernel_rfl
theorem ta101 : tagg Try.prog 101 = some false := by kernel_rfl
theorem tc101 : Try.prog.cellsOf 101 = 1 := by kernel_rfl
theorem tB101 : Try.prog.bytesOf 101 = 8 := by kernel_rfl
theorem ti101 : (Try.prog.info? 101).isSome = true := by kernel_rfl
theorem tz101 : tzero Try.prog 101 = some (.int .u64 0) := by kernel_rfl
theorem ts108 : tsz Try.prog 108 = 4 := by kernel_rfl
theorem tb108 : tby Try.prog 108 = 40 := by kernel_rfl
theorem ta108 : tagg Try.prog 108 = some true := by kernel_rfl
theorem tc108 : Try.prog.cellsOf 108 = 4 := by kernel_rfl
theorem tB108 : Try.prog.bytesOf 108 = 40 := by kernel_rfl
theorem ti108 : (Try.prog.info? 108).isSome = true := by kernel_rfl
theorem tf108_0 : tfield Try.prog 108 0 = some (0, 17) := by kernel_rfl
theorem tf108_1 : tfield Try.prog 108 1 = some (1, 17) := by kernel_rfl
theorem tf108_2 : tfield Try.prog 108 2 = some (2, 17) := by kernel_rfl
theorem tf108_3 : tfield Try.prog 108 3 = some (3, 9) := by kernel_rfl
theorem tz108 : tzero Try.prog 108 = some (.agg #[.pointer none, .pointer none, .pointer none, .string ByteArray.empty]) := by kernel_rfl
theorem ts109 : tsz Try.prog 109 = 4 := by kernel_rfl
theorem tb109 : tby Try.prog 109 = 40 := by kernel_rfl
theorem ta109 : tagg Try.prog 109 = some true := by kernel_rfl
theorem tc109 : Try.prog.cellsOf 109 = 4 := by kernel_rfl
theorem tB109 : Try.prog.bytesOf 109 = 40 := by kernel_rfl
theorem ti109 : (Try.prog.info? 109).isSome = true := by kernel_rfl
theorem tf109_0 : tfield Try.prog 109 0 = some (0, 17) := by kernel_rfl
theorem tf109_1 : tfield Try.prog 109 1 = some (1, 17) := by kernel_rfl
theorem tf109_2 : tfield Try.prog 109 2 = some (2, 17) := by kernel_rfl
theorem tf109_3 : tfield Try.prog 109 3 = some (3, 9) := by kernel_rfl
theorem tz109 : tzero Try.prog 109 = some (.agg #[.pointer none, .pointer none, .pointer none, .string ByteArray.empty]) := by kernel_rfl
theorem ts111 : tsz Try.prog 111 = 0 := by kernel_rfl
theorem tb111 : tby Try.prog 111 = 0 := by kernel_rfl
theorem ta111 : tagg Try.prog 111 = some true := by kernel_rfl
theorem tc111 : Try.prog.cellsOf 111 = 0 := by kernel_rfl
theorem tB111 : Try.prog.bytesOf 111 = 0 := by kernel_rfl
theorem ti111 : (Try.prog.info? 111).isSome = true := by kernel_rfl
theorem tf111_0 : tfield Try.prog 111 0 = some (0, 110) := by kernel_rfl
theorem ts112 : tsz Try.prog 112 = 0 := by kernel_rfl
theorem tb112 : tby Try.prog 112 = 0 := by kernel_rfl
theorem ta112 : tagg Try.prog 112 = some true := by kernel_rfl
theorem tc112 : Try.prog.cellsOf 112 = 0 := by kernel_rfl
theorem tB112 : Try.prog.bytesOf 112 = 0 := by kernel_rfl
theorem ti112 : (Try.prog.info? 112).isSome = true := by kernel_rfl
theorem tf112_0 : tfield Try.prog 112 0 = some (0, 110) := by kernel_rfl
theorem ts114 : tsz Try.prog 114 = 1 := by kernel_rfl
theorem tb114 : tby Try.prog 114 = 4 := by kernel_rfl
theorem ta114 : tagg Try.prog 114 = some false := by kernel_rfl
theorem tc114 : Try.prog.cellsOf 114 = 1 := by kernel_rfl
theorem tB114 : Try.prog.bytesOf 114 = 4 := by kernel_rfl
theorem ti114 : (Try.prog.info? 114).isSome = true := by kernel_rfl
theorem tz114 : tzero Try.prog 114 = some (.int .u32 0) := by kernel_rfl
theorem ts115 : tsz Try.prog 115 = 1 := by kernel_rfl
theorem tb115 : tby Try.prog 115 = 1 := by kernel_rfl
theorem ta115 : tagg Try.prog 115 = some false := by kernel_rfl
theorem tc115 : Try.prog.cellsOf 115 = 1 := by kernel_rfl
theorem tB115 : Try.prog.bytesOf 115 = 1 := by kernel_rfl
theorem ti115 : (Try.prog.info? 115).isSome = true := by kernel_rfl
theorem tz115 : tzero Try.prog 115 = some (.int .u8 0) := by kernel_rfl
theorem ts116 : tsz Try.prog 116 = 1 := by kernel_rfl
theorem tb116 : tby Try.prog 116 = 1 := by kernel_rfl
theorem ta116 : tagg Try.prog 116 = some false := by kernel_rfl
theorem tc116 : Try.prog.cellsOf 116 = 1 := by kernel_rfl
theorem tB116 : Try.prog.bytesOf 116 = 1 := by kernel_rfl
theorem ti116 : (Try.prog.info? 116).isSome = true := by kernel_rfl
theorem tz116 : tzero Try.prog 116 = some (.int .u8 0) := by kernel_rfl
theorem ts118 : tsz Try.prog 118 = 1 := by kernel_rfl
theorem tb118 : tby Try.prog 118 = 8 := by kernel_rfl
theorem ta118 : tagg Try.prog 118 = some false := by kernel_rfl
theorem tc118 : Try.prog.cellsOf 118 = 1 := by kernel_rfl
theorem tB118 : Try.prog.bytesOf 118 = 8 := by kernel_rfl
theorem ti118 : (Try.prog.info? 118).isSome = true := by kernel_rfl
theorem tz118 : tzero Try.prog 118 = some (.pointer none) := by kernel_rfl
theorem ts119 : tsz Try.prog 119 = 1 := by kernel_rfl
theorem tb119 : tby Try.prog 119 = 4 := by kernel_rfl
theorem ta119 : tagg Try.prog 119 = some false := by kernel_rfl
theorem tc119 : Try.prog.cellsOf 119 = 1 := by kernel_rfl
theorem tB119 : Try.prog.bytesOf 119 = 4 := by kernel_rfl
theorem ti119 : (Try.prog.info? 119).isSome = true := by kernel_rfl
theorem tz119 : tzero Try.prog 119 = some (.int .i32 0) := by kernel_rfl
theorem ts120 : tsz Try.prog 120 = 1 := by kernel_rfl
theorem tb120 : tby Try.prog 120 = 4 := by kernel_rfl
theorem ta120 : tagg Try.prog 120 = some false := by kernel_rfl
theorem tc120 : Try.prog.cellsOf 120 = 1 := by kernel_rfl
theorem tB120 : Try.prog.bytesOf 120 = 4 := by kernel_rfl
theorem ti120 : (Try.prog.info? 120).isSome = true := by kernel_rfl
theorem tz120 : tzero Try.prog 120 = some (.int .i32 0) := by kernel_rfl
theorem ts121 : tsz Try.prog 121 = 11 := by kernel_rfl
theorem tb121 : tby Try.prog 121 = 48 := by kernel_rfl
theorem ta121 : tagg Try.prog 121 = some true := by kernel_rfl
theorem tc121 : Try.prog.cellsOf 121 = 11 := by kernel_rfl
theorem tB121 : Try.prog.bytesOf 121 = 48 := by kernel_rfl
theorem ti121 : (Try.prog.info? 121).isSome = true := by kernel_rfl
theorem tf121_0 : tfield Try.prog 121 0 = some (0, 12) := by kernel_rfl
theorem tf121_1 : tfield Try.prog 121 1 = some (1, 12) := by kernel_rfl
theorem tf121_2 : tfield Try.prog 121 2 = some (2, 114) := by kernel_rfl
theorem tf121_3 : tfield Try.prog 121 3 = some (3, 115) := by kernel_rfl
theorem tf121_4 : tfield Try.prog 121 4 = some (4, 5) := by kernel_rfl
theorem tf121_5 : tfield Try.prog 121 5 = some (5, 5) := by kernel_rfl
theorem tf121_6 : tfield Try.prog 121 6 = some (6, 116) := by kernel_rfl
theorem tf121_7 : tfield Try.prog 121 7 = some (7, 117) := by kernel_rfl
theorem tf121_8 : tfield Try.prog 121 8 = some (8, 118) := by kernel_rfl
theorem tf121_9 : tfield Try.prog 121 9 = some (9, 119) := by kernel_rfl
theorem tf121_10 : tfield Try.prog 121 10 = some (10, 120) := by kernel_rfl
theorem ts122 : tsz Try.prog 122 = 11 := by kernel_rfl
theorem tb122 : tby Try.prog 122 = 48 := by kernel_rfl
theorem ta122 : tagg Try.prog 122 = some true := by kernel_rfl
theorem tc122 : Try.prog.cellsOf 122 = 11 := by kernel_rfl
theorem tB122 : Try.prog.bytesOf 122 = 48 := by kernel_rfl
theorem ti122 : (Try.prog.info? 122).isSome = true := by kernel_rfl
theorem tf122_0 : tfield Try.prog 122 0 = some (0, 12) := by kernel_rfl
theorem tf122_1 : tfield Try.prog 122 1 = some (1, 12) := by kernel_rfl
theorem tf122_2 : tfield Try.prog 122 2 = some (2, 114) := by kernel_rfl
theorem tf122_3 : tfield Try.prog 122 3 = some (3, 115) := by kernel_rfl
theorem tf122_4 : tfield Try.prog 122 4 = some (4, 5) := by kernel_rfl
theorem tf122_5 : tfield Try.prog 122 5 = some (5, 5) := by kernel_rfl
theorem tf122_6 : tfield Try.prog 122 6 = some (6, 116) := by kernel_rfl
theorem tf122_7 : tfield Try.prog 122 7 = some (7, 117) := by kernel_rfl
theorem tf122_8 : tfield Try.prog 122 8 = some (8, 118) := by kernel_rfl
theorem tf122_9 : tfield Try.prog 122 9 = some (9, 119) := by kernel_rfl
theorem tf122_10 : tfield Try.prog 122 10 = some (10, 120) := by kernel_rfl
attribute [simp] ts2 tb2 ta2 tc2 tB2 ti2 tz2 ts3 tb3 ta3 tc3 tB3 ti3 tz3 ts4 tb4 ta4 tc4 tB4 ti4 tz4 ts5 tb5 ta5 tc5 tB5 ti5 tz5 ts6 tb6 ta6 tc6 tB6 ti6 tz6 ts7 tb7 ta7 tc7 tB7 ti7 tf7_0 tf7_1 tf7_2 tf7_3 tz7 ts8 tb8 ta8 tc8 tB8 ti8 tf8_0 tf8_1 tf8_2 tf8_3 tz8 ts9 tb9 ta9 tc9 tB9 ti9 tz9 ts10 tb10 ta10 tc10 tB10 ti10 tz10 ts11 tb11 ta11 tc11 tB11 ti11 tz11 ts12 tb12 ta12 tc12 tB12 ti12 tz12 ts13 tb13 ta13 tc13 tB13 ti13 tf13_0 tf13_1 tz13 ts14 tb14 ta14 tc14 tB14 ti14 tf14_0 tf14_1 tz14 ts15 tb15 ta15 tc15 tB15 ti15 tz15 ts16 tb16 ta16 tc16 tB16 ti16 tz16 ts17 tb17 ta17 tc17 tB17 ti17 tz17 ts18 tb18 ta18 tc18 tB18 ti18 tf18_0 tz18 ts19 tb19 ta19 tc19 tB19 ti19 tf19_0 tz19 ts21 tb21 ta21 tc21 tB21 ti21 tz21 ts22 tb22 ta22 tc22 tB22 ti22 te22 tz22 ts23 tb23 ta23 tc23 tB23 ti23 te23 tz23 ts26 tb26 ta26 tc26 tB26 ti26 te26 tz26 ts30 tb30 ta30 tc30 tB30 ti30 te30 tz30 ts38 tb38 ta38 tc38 tB38 ti38 tq38 tf38_0 tf38_1 tz38 ts39 tb39 ta39 tc39 tB39 ti39 tq39 tf39_0 tf39_1 tz39 ts40 tb40 ta40 tc40 tB40 ti40 te40 tz40 ts41 tb41 ta41 tc41 tB41 ti41 tf41_0 tf41_1 tf41_2 tf41_3 tf41_4 tf41_5 tz41 ts42 tb42 ta42 tc42 tB42 ti42 tf42_0 tf42_1 tf42_2 tf42_3 tf42_4 tf42_5 tz42 ts43 tb43 ta43 tc43 tB43 ti43 tf43_0 tf43_1 tz43 ts44 tb44 ta44 tc44 tB44 ti44 tf44_0 tf44_1 tz44 ts46 tb46 ta46 tc46 tB46 ti46 te46 tz46 ts47 tb47 ta47 tc47 tB47 ti47 tf47_0 tf47_1 tf47_2 tz47 ts48 tb48 ta48 tc48 tB48 ti48 tf48_0 tf48_1 tf48_2 tz48 ts51 tb51 ta51 tc51 tB51 ti51 te51 tz51 ts52 tb52 ta52 tc52 tB52 ti52 tf52_0 tf52_1 tf52_2 tf52_3 tf52_4 tf52_5 tz52 ts53 tb53 ta53 tc53 tB53 ti53 tf53_0 tf53_1 tf53_2 tz53 ts54 tb54 ta54 tc54 tB54 ti54 tf54_0 tf54_1 tf54_2 tz54 ts56 tb56 ta56 tc56 tB56 ti56 tq56 tf56_0 tf56_1 tz56 ts57 tb57 ta57 tc57 tB57 ti57 tf57_0 tf57_1 tz57 ts58 tb58 ta58 tc58 tB58 ti58 tf58_0 tf58_1 tz58 ts101 tb101 ta101 tc101 tB101 ti101 tz101 ts108 tb108 ta108 tc108 tB108 ti108 tf108_0 tf108_1 tf108_2 tf108_3 tz108 ts109 tb109 ta109 tc109 tB109 ti109 tf109_0 tf109_1 tf109_2 tf109_3 tz109 ts111 tb111 ta111 tc111 tB111 ti111 tf111_0 ts112 tb112 ta112 tc112 tB112 ti112 tf112_0 ts114 tb114 ta114 tc114 tB114 ti114 tz114 ts115 tb115 ta115 tc115 tB115 ti115 tz115 ts116 tb116 ta116 tc116 tB116 ti116 tz116 ts118 tb118 ta118 tc118 tB118 ti118 tz118 ts119 tb119 ta119 tc119 tB119 ti119 tz119 ts120 tb120 ta120 tc120 tB120 ti120 tz120 ts121 tb121 ta121 tc121 tB121 ti121 tf121_0 tf121_1 tf121_2 tf121_3 tf121_4 tf121_5 tf121_6 tf121_7 tf121_8 tf121_9 tf121_10 ts122 tb122 ta122 tc122 tB122 ti122 tf122_0 tf122_1 tf122_2 tf122_3 tf122_4 tf122_5 tf122_6 tf122_7 tf122_8 tf122_9 tf122_10
end Go.V
