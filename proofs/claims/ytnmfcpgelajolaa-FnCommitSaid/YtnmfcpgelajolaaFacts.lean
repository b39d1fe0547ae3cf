/- Facts on the types of the seat's program, each by reckoning. No conditions. -/
import Derived.Test.YtnmfcpgelajolaaVf
import Derived.Test.YtnmfcpgelajolaaProg
set_option linter.all false
namespace Go.V
open Go.Proofs
set_option maxRecDepth 10000
theorem h0 : tsz Try.prog nilE = 0 := by kernel_rfl
theorem hm : Try.prog.follows .mixedOrders = true := by kernel_rfl
theorem ts2 : tsz Try.prog 2 = 1 := by kernel_rfl
theorem tb2 : tby Try.prog 2 = 8 := by kernel_rfl
theorem ta2 : tagg Try.prog 2 = some false := by kernel_rfl
theorem tc2 : Try.prog.cellsOf 2 = 1 := by kernel_rfl
theorem tB2 : Try.prog.bytesOf 2 = 8 := by kernel_rfl
theorem ti2 : (Try.prog.info? 2).isSome = true := by kernel_rfl
theorem tz2 : tzero Try.prog 2 = some (.int .i64 0) := by kernel_rfl
theorem ts3 : tsz Try.prog 3 = 1 := by kernel_rfl
theorem tb3 : tby Try.prog 3 = 8 := by kernel_rfl
theorem ta3 : tagg Try.prog 3 = some false := by kernel_rfl
theorem tc3 : Try.prog.cellsOf 3 = 1 := by kernel_rfl
theorem tB3 : Try.prog.bytesOf 3 = 8 := by kernel_rfl
theorem ti3 : (Try.prog.info? 3).isSome = true := by kernel_rfl
theorem tz3 : tzero Try.prog 3 = some (.int .i64 0) := by kernel_rfl
theorem ts4 : tsz Try.prog 4 = 1 := by kernel_rfl
theorem tb4 : tby Try.prog 4 = 1 := by kernel_rfl
theorem ta4 : tagg Try.prog 4 = some false := by kernel_rfl
theorem tc4 : Try.prog.cellsOf 4 = 1 := by kernel_rfl
theorem tB4 : Try.prog.bytesOf 4 = 1 := by kernel_rfl
theorem ti4 : (Try.prog.info? 4).isSome = true := by kernel_rfl
theorem tz4 : tzero Try.prog 4 = some (.bool false) := by kernel_rfl
theorem ts5 : tsz Try.prog 5 = 1 := by kernel_rfl
theorem tb5 : tby Try.prog 5 = 1 := by kernel_rfl
theorem ta5 : tagg Try.prog 5 = some false := by kernel_rfl
theorem tc5 : Try.prog.cellsOf 5 = 1 := by kernel_rfl
theorem tB5 : Try.prog.bytesOf 5 = 1 := by kernel_rfl
theorem ti5 : (Try.prog.info? 5).isSome = true := by kernel_rfl
theorem tz5 : tzero Try.prog 5 = some (.int .u8 0) := by kernel_rfl
theorem ts6 : tsz Try.prog 6 = 1 := by kernel_rfl
theorem tb6 : tby Try.prog 6 = 1 := by kernel_rfl
theorem ta6 : tagg Try.prog 6 = some false := by kernel_rfl
theorem tc6 : Try.prog.cellsOf 6 = 1 := by kernel_rfl
theorem tB6 : Try.prog.bytesOf 6 = 1 := by kernel_rfl
theorem ti6 : (Try.prog.info? 6).isSome = true := by kernel_rfl
theorem tz6 : tzero Try.prog 6 = some (.int .u8 0) := by kernel_rfl
theorem ts7 : tsz Try.prog 7 = 4 := by kernel_rfl
theorem tb7 : tby Try.prog 7 = 24 := by kernel_rfl
theorem ta7 : tagg Try.prog 7 = some true := by kernel_rfl
theorem tc7 : Try.prog.cellsOf 7 = 4 := by kernel_rfl
theorem tB7 : Try.prog.bytesOf 7 = 24 := by kernel_rfl
theorem ti7 : (Try.prog.info? 7).isSome = true := by kernel_rfl
theorem tf7_0 : tfield Try.prog 7 0 = some (0, 2) := by kernel_rfl
theorem tf7_1 : tfield Try.prog 7 1 = some (1, 3) := by kernel_rfl
theorem tf7_2 : tfield Try.prog 7 2 = some (2, 4) := by kernel_rfl
theorem tf7_3 : tfield Try.prog 7 3 = some (3, 6) := by kernel_rfl
theorem tz7 : tzero Try.prog 7 = some (.agg #[.int .i64 0, .int .i64 0, .bool false, .int .u8 0]) := by kernel_rfl
theorem ts8 : tsz Try.prog 8 = 4 := by kernel_rfl
theorem tb8 : tby Try.prog 8 = 24 := by kernel_rfl
theorem ta8 : tagg Try.prog 8 = some true := by kernel_rfl
theorem tc8 : Try.prog.cellsOf 8 = 4 := by kernel_rfl
theorem tB8 : Try.prog.bytesOf 8 = 24 := by kernel_rfl
theorem ti8 : (Try.prog.info? 8).isSome = true := by kernel_rfl
theorem tf8_0 : tfield Try.prog 8 0 = some (0, 2) := by kernel_rfl
theorem tf8_1 : tfield Try.prog 8 1 = some (1, 3) := by kernel_rfl
theorem tf8_2 : tfield Try.prog 8 2 = some (2, 4) := by kernel_rfl
theorem tf8_3 : tfield Try.prog 8 3 = some (3, 6) := by kernel_rfl
theorem tz8 : tzero Try.prog 8 = some (.agg #[.int .i64 0, .int .i64 0, .bool false, .int .u8 0]) := by kernel_rfl
theorem ts9 : tsz Try.prog 9 = 1 := by kernel_rfl
theorem tb9 : tby Try.prog 9 = 16 := by kernel_rfl
theorem ta9 : tagg Try.prog 9 = some false := by kernel_rfl
theorem tc9 : Try.prog.cellsOf 9 = 1 := by kernel_rfl
theorem tB9 : Try.prog.bytesOf 9 = 16 := by kernel_rfl
theorem ti9 : (Try.prog.info? 9).isSome = true := by kernel_rfl
theorem tz9 : tzero Try.prog 9 = some (.string ByteArray.empty) := by kernel_rfl
theorem ts10 : tsz Try.prog 10 = 1 := by kernel_rfl
theorem tb10 : tby Try.prog 10 = 16 := by kernel_rfl
theorem ta10 : tagg Try.prog 10 = some false := by kernel_rfl
theorem tc10 : Try.prog.cellsOf 10 = 1 := by kernel_rfl
theorem tB10 : Try.prog.bytesOf 10 = 16 := by kernel_rfl
theorem ti10 : (Try.prog.info? 10).isSome = true := by kernel_rfl
theorem tz10 : tzero Try.prog 10 = some (.string ByteArray.empty) := by kernel_rfl
theorem ts11 : tsz Try.prog 11 = 1 := by kernel_rfl
theorem tb11 : tby Try.prog 11 = 16 := by kernel_rfl
theorem ta11 : tagg Try.prog 11 = some false := by kernel_rfl
theorem tc11 : Try.prog.cellsOf 11 = 1 := by kernel_rfl
theorem tB11 : Try.prog.bytesOf 11 = 16 := by kernel_rfl
theorem ti11 : (Try.prog.info? 11).isSome = true := by kernel_rfl
theorem tz11 : tzero Try.prog 11 = some (.string ByteArray.empty) := by kernel_rfl
theorem ts12 : tsz Try.prog 12 = 1 := by kernel_rfl
theorem tb12 : tby Try.prog 12 = 8 := by kernel_rfl
theorem ta12 : tagg Try.prog 12 = some false := by kernel_rfl
theorem tc12 : Try.prog.cellsOf 12 = 1 := by kernel_rfl
theorem tB12 : Try.prog.bytesOf 12 = 8 := by kernel_rfl
theorem ti12 : (Try.prog.info? 12).isSome = true := by kernel_rfl
theorem tz12 : tzero Try.prog 12 = some (.int .u64 0) := by kernel_rfl
theorem ts13 : tsz Try.prog 13 = 2 := by kernel_rfl
theorem tb13 : tby Try.prog 13 = 24 := by kernel_rfl
theorem ta13 : tagg Try.prog 13 = some true := by kernel_rfl
theorem tc13 : Try.prog.cellsOf 13 = 2 := by kernel_rfl
theorem tB13 : Try.prog.bytesOf 13 = 24 := by kernel_rfl
theorem ti13 : (Try.prog.info? 13).isSome = true := by kernel_rfl
theorem tf13_0 : tfield Try.prog 13 0 = some (0, 9) := by kernel_rfl
theorem tf13_1 : tfield Try.prog 13 1 = some (1, 12) := by kernel_rfl
theorem tz13 : tzero Try.prog 13 = some (.agg #[.string ByteArray.empty, .int .u64 0]) := by kernel_rfl
theorem ts14 : tsz Try.prog 14 = 2 := by kernel_rfl
theorem tb14 : tby Try.prog 14 = 24 := by kernel_rfl
theorem ta14 : tagg Try.prog 14 = some true := by kernel_rfl
theorem tc14 : Try.prog.cellsOf 14 = 2 := by kernel_rfl
theorem tB14 : Try.prog.bytesOf 14 = 24 := by kernel_rfl
theorem ti14 : (Try.prog.info? 14).isSome = true := by kernel_rfl
theorem tf14_0 : tfield Try.prog 14 0 = some (0, 9) := by kernel_rfl
theorem tf14_1 : tfield Try.prog 14 1 = some (1, 12) := by kernel_rfl
theorem tz14 : tzero Try.prog 14 = some (.agg #[.string ByteArray.empty, .int .u64 0]) := by kernel_rfl
theorem ts15 : tsz Try.prog 15 = 1 := by kernel_rfl
theorem tb15 : tby Try.prog 15 = 8 := by kernel_rfl
theorem ta15 : tagg Try.prog 15 = some false := by kernel_rfl
theorem tc15 : Try.prog.cellsOf 15 = 1 := by kernel_rfl
theorem tB15 : Try.prog.bytesOf 15 = 8 := by kernel_rfl
theorem ti15 : (Try.prog.info? 15).isSome = true := by kernel_rfl
theorem tz15 : tzero Try.prog 15 = some (.pointer none) := by kernel_rfl
theorem ts16 : tsz Try.prog 16 = 1 := by kernel_rfl
theorem tb16 : tby Try.prog 16 = 8 := by kernel_rfl
theorem ta16 : tagg Try.prog 16 = some false := by kernel_rfl
theorem tc16 : Try.prog.cellsOf 16 = 1 := by kernel_rfl
theorem tB16 : Try.prog.bytesOf 16 = 8 := by kernel_rfl
theorem ti16 : (Try.prog.info? 16).isSome = true := by kernel_rfl
theorem tz16 : tzero Try.prog 16 = some (.pointer none) := by kernel_rfl
theorem ts17 : tsz Try.prog 17 = 1 := by kernel_rfl
theorem tb17 : tby Try.prog 17 = 8 := by kernel_rfl
theorem ta17 : tagg Try.prog 17 = some false := by kernel_rfl
theorem tc17 : Try.prog.cellsOf 17 = 1 := by kernel_rfl
theorem tB17 : Try.prog.bytesOf 17 = 8 := by kernel_rfl
theorem ti17 : (Try.prog.info? 17).isSome = true := by kernel_rfl
theorem tz17 : tzero Try.prog 17 = some (.pointer none) := by kernel_rfl
theorem ts18 : tsz Try.prog 18 = 1 := by kernel_rfl
theorem tb18 : tby Try.prog 18 = 8 := by kernel_rfl
theorem ta18 : tagg Try.prog 18 = some true := by kernel_rfl
theorem tc18 : Try.prog.cellsOf 18 = 1 := by kernel_rfl
theorem tB18 : Try.prog.bytesOf 18 = 8 := by kernel_rfl
theorem ti18 : (Try.prog.info? 18).isSome = true := by kernel_rfl
theorem tf18_0 : tfield Try.prog 18 0 = some (0, 17) := by kernel_rfl
theorem tz18 : tzero Try.prog 18 = some (.agg #[.pointer none]) := by kernel_rfl
theorem ts19 : tsz Try.prog 19 = 1 := by kernel_rfl
theorem tb19 : tby Try.prog 19 = 8 := by kernel_rfl
theorem ta19 : tagg Try.prog 19 = some true := by kernel_rfl
theorem tc19 : Try.prog.cellsOf 19 = 1 := by kernel_rfl
theorem tB19 : Try.prog.bytesOf 19 = 8 := by kernel_rfl
theorem ti19 : (Try.prog.info? 19).isSome = true := by kernel_rfl
theorem tf19_0 : tfield Try.prog 19 0 = some (0, 17) := by kernel_rfl
theorem tz19 : tzero Try.prog 19 = some (.agg #[.pointer none]) := by kernel_rfl
theorem ts21 : tsz Try.prog 21 = 1 := by kernel_rfl
theorem tb21 : tby Try.prog 21 = 4 := by kernel_rfl
theorem ta21 : tagg Try.prog 21 = some false := by kernel_rfl
theorem tc21 : Try.prog.cellsOf 21 = 1 := by kernel_rfl
theorem tB21 : Try.prog.bytesOf 21 = 4 := by kernel_rfl
theorem ti21 : (Try.prog.info? 21).isSome = true := by kernel_rfl
theorem tz21 : tzero Try.prog 21 = some (.int .i32 0) := by kernel_rfl
theorem ts22 : tsz Try.prog 22 = 1 := by kernel_rfl
theorem tb22 : tby Try.prog 22 = 24 := by kernel_rfl
theorem ta22 : tagg Try.prog 22 = some false := by kernel_rfl
theorem tc22 : Try.prog.cellsOf 22 = 1 := by kernel_rfl
theorem tB22 : Try.prog.bytesOf 22 = 24 := by kernel_rfl
theorem ti22 : (Try.prog.info? 22).isSome = true := by kernel_rfl
theorem te22 : telem Try.prog 22 = some 5 := by kernel_rfl
theorem tz22 : tzero Try.prog 22 = some (.slice none 0 0) := by kernel_rfl
theorem ts23 : tsz Try.prog 23 = 1 := by kernel_rfl
theorem tb23 : tby Try.prog 23 = 24 := by kernel_rfl
theorem ta23 : tagg Try.prog 23 = some false := by kernel_rfl
theorem tc23 : Try.prog.cellsOf 23 = 1 := by kernel_rfl
theorem tB23 : Try.prog.bytesOf 23 = 24 := by kernel_rfl
theorem ti23 : (Try.prog.info? 23).isSome = true := by kernel_rfl
theorem te23 : telem Try.prog 23 = some 44 := by kernel_rfl
theorem tz23 : tzero Try.prog 23 = some (.slice none 0 0) := by kernel_rfl
theorem ts25 : tsz Try.prog 25 = 1 := by kernel_rfl
theorem tb25 : tby Try.prog 25 = 24 := by kernel_rfl
theorem ta25 : tagg Try.prog 25 = some false := by kernel_rfl
theorem tc25 : Try.prog.cellsOf 25 = 1 := by kernel_rfl
theorem tB25 : Try.prog.bytesOf 25 = 24 := by kernel_rfl
theorem ti25 : (Try.prog.info? 25).isSome = true := by kernel_rfl
theorem te25 : telem Try.prog 25 = some 58 := by kernel_rfl
theorem tz25 : tzero Try.prog 25 = some (.slice none 0 0) := by kernel_rfl
theorem ts26 : tsz Try.prog 26 = 1 := by kernel_rfl
theorem tb26 : tby Try.prog 26 = 24 := by kernel_rfl
theorem ta26 : tagg Try.prog 26 = some false := by kernel_rfl
theorem tc26 : Try.prog.cellsOf 26 = 1 := by kernel_rfl
theorem tB26 : Try.prog.bytesOf 26 = 24 := by kernel_rfl
theorem ti26 : (Try.prog.info? 26).isSome = true := by kernel_rfl
theorem te26 : telem Try.prog 26 = some 25 := by kernel_rfl
theorem tz26 : tzero Try.prog 26 = some (.slice none 0 0) := by kernel_rfl
theorem ts27 : tsz Try.prog 27 = 4 := by kernel_rfl
theorem tb27 : tby Try.prog 27 = 80 := by kernel_rfl
theorem ta27 : tagg Try.prog 27 = some true := by kernel_rfl
theorem tc27 : Try.prog.cellsOf 27 = 4 := by kernel_rfl
theorem tB27 : Try.prog.bytesOf 27 = 80 := by kernel_rfl
theorem ti27 : (Try.prog.info? 27).isSome = true := by kernel_rfl
theorem tf27_0 : tfield Try.prog 27 0 = some (0, 25) := by kernel_rfl
theorem tf27_1 : tfield Try.prog 27 1 = some (1, 25) := by kernel_rfl
theorem tf27_2 : tfield Try.prog 27 2 = some (2, 26) := by kernel_rfl
theorem tf27_3 : tfield Try.prog 27 3 = some (3, 3) := by kernel_rfl
theorem tz27 : tzero Try.prog 27 = some (.agg #[.slice none 0 0, .slice none 0 0, .slice none 0 0, .int .i64 0]) := by kernel_rfl
theorem ts28 : tsz Try.prog 28 = 4 := by kernel_rfl
theorem tb28 : tby Try.prog 28 = 80 := by kernel_rfl
theorem ta28 : tagg Try.prog 28 = some true := by kernel_rfl
theorem tc28 : Try.prog.cellsOf 28 = 4 := by kernel_rfl
theorem tB28 : Try.prog.bytesOf 28 = 80 := by kernel_rfl
theorem ti28 : (Try.prog.info? 28).isSome = true := by kernel_rfl
theorem tf28_0 : tfield Try.prog 28 0 = some (0, 25) := by kernel_rfl
theorem tf28_1 : tfield Try.prog 28 1 = some (1, 25) := by kernel_rfl
theorem tf28_2 : tfield Try.prog 28 2 = some (2, 26) := by kernel_rfl
theorem tf28_3 : tfield Try.prog 28 3 = some (3, 3) := by kernel_rfl
theorem tz28 : tzero Try.prog 28 = some (.agg #[.slice none 0 0, .slice none 0 0, .slice none 0 0, .int .i64 0]) := by kernel_rfl
theorem ts29 : tsz Try.prog 29 = 1 := by kernel_rfl
theorem tb29 : tby Try.prog 29 = 24 := by kernel_rfl
theorem ta29 : tagg Try.prog 29 = some false := by kernel_rfl
theorem tc29 : Try.prog.cellsOf 29 = 1 := by kernel_rfl
theorem tB29 : Try.prog.bytesOf 29 = 24 := by kernel_rfl
theorem ti29 : (Try.prog.info? 29).isSome = true := by kernel_rfl
theorem te29 : telem Try.prog 29 = some 4 := by kernel_rfl
theorem tz29 : tzero Try.prog 29 = some (.slice none 0 0) := by kernel_rfl
theorem ts42 : tsz Try.prog 42 = 1 := by kernel_rfl
theorem tb42 : tby Try.prog 42 = 24 := by kernel_rfl
theorem ta42 : tagg Try.prog 42 = some false := by kernel_rfl
theorem tc42 : Try.prog.cellsOf 42 = 1 := by kernel_rfl
theorem tB42 : Try.prog.bytesOf 42 = 24 := by kernel_rfl
theorem ti42 : (Try.prog.info? 42).isSome = true := by kernel_rfl
theorem te42 : telem Try.prog 42 = some 9 := by kernel_rfl
theorem tz42 : tzero Try.prog 42 = some (.slice none 0 0) := by kernel_rfl
theorem ts43 : tsz Try.prog 43 = 4 := by kernel_rfl
theorem tb43 : tby Try.prog 43 = 56 := by kernel_rfl
theorem ta43 : tagg Try.prog 43 = some true := by kernel_rfl
theorem tc43 : Try.prog.cellsOf 43 = 4 := by kernel_rfl
theorem tB43 : Try.prog.bytesOf 43 = 56 := by kernel_rfl
theorem ti43 : (Try.prog.info? 43).isSome = true := by kernel_rfl
theorem tf43_0 : tfield Try.prog 43 0 = some (0, 3) := by kernel_rfl
theorem tf43_1 : tfield Try.prog 43 1 = some (1, 42) := by kernel_rfl
theorem tf43_2 : tfield Try.prog 43 2 = some (2, 9) := by kernel_rfl
theorem tf43_3 : tfield Try.prog 43 3 = some (3, 3) := by kernel_rfl
theorem tz43 : tzero Try.prog 43 = some (.agg #[.int .i64 0, .slice none 0 0, .string ByteArray.empty, .int .i64 0]) := by kernel_rfl
theorem ts44 : tsz Try.prog 44 = 4 := by kernel_rfl
theorem tb44 : tby Try.prog 44 = 56 := by kernel_rfl
theorem ta44 : tagg Try.prog 44 = some true := by kernel_rfl
theorem tc44 : Try.prog.cellsOf 44 = 4 := by kernel_rfl
theorem tB44 : Try.prog.bytesOf 44 = 56 := by kernel_rfl
theorem ti44 : (Try.prog.info? 44).isSome = true := by kernel_rfl
theorem tf44_0 : tfield Try.prog 44 0 = some (0, 3) := by kernel_rfl
theorem tf44_1 : tfield Try.prog 44 1 = some (1, 42) := by kernel_rfl
theorem tf44_2 : tfield Try.prog 44 2 = some (2, 9) := by kernel_rfl
theorem tf44_3 : tfield Try.prog 44 3 = some (3, 3) := by kernel_rfl
theorem tz44 : tzero Try.prog 44 = some (.agg #[.int .i64 0, .slice none 0 0, .string ByteArray.empty, .int .i64 0]) := by kernel_rfl
theorem ts46 : tsz Try.prog 46 = 1 := by kernel_rfl
theorem tb46 : tby Try.prog 46 = 8 := by kernel_rfl
theorem ta46 : tagg Try.prog 46 = some false := by kernel_rfl
theorem tc46 : Try.prog.cellsOf 46 = 1 := by kernel_rfl
theorem tB46 : Try.prog.bytesOf 46 = 8 := by kernel_rfl
theorem ti46 : (Try.prog.info? 46).isSome = true := by kernel_rfl
theorem tz46 : tzero Try.prog 46 = some (.pointer none) := by kernel_rfl
theorem ts47 : tsz Try.prog 47 = 1 := by kernel_rfl
theorem tb47 : tby Try.prog 47 = 8 := by kernel_rfl
theorem ta47 : tagg Try.prog 47 = some false := by kernel_rfl
theorem tc47 : Try.prog.cellsOf 47 = 1 := by kernel_rfl
theorem tB47 : Try.prog.bytesOf 47 = 8 := by kernel_rfl
theorem ti47 : (Try.prog.info? 47).isSome = true := by kernel_rfl
theorem tz47 : tzero Try.prog 47 = some (.int .u64 0) := by kernel_rfl
theorem ts48 : tsz Try.prog 48 = 3 := by kernel_rfl
theorem tb48 : tby Try.prog 48 = 40 := by kernel_rfl
theorem ta48 : tagg Try.prog 48 = some true := by kernel_rfl
theorem tc48 : Try.prog.cellsOf 48 = 3 := by kernel_rfl
theorem tB48 : Try.prog.bytesOf 48 = 40 := by kernel_rfl
theorem ti48 : (Try.prog.info? 48).isSome = true := by kernel_rfl
theorem tf48_0 : tfield Try.prog 48 0 = some (0, 22) := by kernel_rfl
theorem tf48_1 : tfield Try.prog 48 1 = some (1, 3) := by kernel_rfl
theorem tf48_2 : tfield Try.prog 48 2 = some (2, 47) := by kernel_rfl
theorem tz48 : tzero Try.prog 48 = some (.agg #[.slice none 0 0, .int .i64 0, .int .u64 0]) := by kernel_rfl
theorem ts49 : tsz Try.prog 49 = 3 := by kernel_rfl
theorem tb49 : tby Try.prog 49 = 40 := by kernel_rfl
theorem ta49 : tagg Try.prog 49 = some true := by kernel_rfl
theorem tc49 : Try.prog.cellsOf 49 = 3 := by kernel_rfl
theorem tB49 : Try.prog.bytesOf 49 = 40 := by kernel_rfl
theorem ti49 : (Try.prog.info? 49).isSome = true := by kernel_rfl
theorem tf49_0 : tfield Try.prog 49 0 = some (0, 22) := by kernel_rfl
theorem tf49_1 : tfield Try.prog 49 1 = some (1, 3) := by kernel_rfl
theorem tf49_2 : tfield Try.prog 49 2 = some (2, 47) := by kernel_rfl
theorem tz49 : tzero Try.prog 49 = some (.agg #[.slice none 0 0, .int .i64 0, .int .u64 0]) := by kernel_rfl
theorem ts57 : tsz Try.prog 57 = 2 := by kernel_rfl
theorem tb57 : tby Try.prog 57 = 40 := by kernel_rfl
theorem ta57 : tagg Try.prog 57 = some true := by kernel_rfl
theorem tc57 : Try.prog.cellsOf 57 = 2 := by kernel_rfl
theorem tB57 : Try.prog.bytesOf 57 = 40 := by kernel_rfl
theorem ti57 : (Try.prog.info? 57).isSome = true := by kernel_rfl
theorem tf57_0 : tfield Try.prog 57 0 = some (0, 42) := by kernel_rfl
theorem tf57_1 : tfield Try.prog 57 1 = some (1, 9) := by kernel_rfl
theorem tz57 : tzero Try.prog 57 = some (.agg #[.slice none 0 0, .string ByteArray.empty]) := by kernel_rfl
theorem ts58 : tsz Try.prog 58 = 2 := by kernel_rfl
theorem tb58 : tby Try.prog 58 = 40 := by kernel_rfl
theorem ta58 : tagg Try.prog 58 = some true := by kernel_rfl
theorem tc58 : Try.prog.cellsOf 58 = 2 := by kernel_rfl
theorem tB58 : Try.prog.bytesOf 58 = 40 := by kernel_rfl
theorem ti58 : (Try.prog.info? 58).isSome = true := by kernel_rfl
theorem tf58_0 : tfield Try.prog 58 0 = some (0, 42) := by kernel_rfl
theorem tf58_1 : tfield Try.prog 58 1 = some (1, 9) := by kernel_rfl
theorem tz58 : tzero Try.prog 58 = some (.agg #[.slice none 0 0, .string ByteArray.empty]) := by kernel_rfl
theorem ts76 : tsz Try.prog 76 = 1 := by kernel_rfl
theorem tb76 : tby Try.prog 76 = 24 := by kernel_rfl
theorem ta76 : tagg Try.prog 76 = some false := by kernel_rfl
theorem tc76 : Try.prog.cellsOf 76 = 1 := by kernel_rfl
theorem tB76 : Try.prog.bytesOf 76 = 24 := by kernel_rfl
theorem ti76 : (Try.prog.info? 76).isSome = true := by kernel_rfl
theorem te76 : telem Try.prog 76 = some 3 := by kernel_rfl
theorem tz76 : tzero Try.prog 76 = some (.slice none 0 0) := by kernel_rfl
theorem ts82 : tsz Try.prog 82 = 1 := by kernel_rfl
theorem tb82 : tby Try.prog 82 = 8 := by kernel_rfl
theorem ta82 : tagg Try.prog 82 = some false := by kernel_rfl
theorem tc82 : Try.prog.cellsOf 82 = 1 := by kernel_rfl
theorem tB82 : Try.prog.bytesOf 82 = 8 := by kernel_rfl
theorem ti82 : (Try.prog.info? 82).isSome = true := by kernel_rfl
theorem tz82 : tzero Try.prog 82 = some (.pointer none) := by kernel_rfl
theorem ts88 : tsz Try.prog 88 = 1 := by kernel_rfl
theorem tb88 : tby Try.prog 88 = 8 := by kernel_rfl
theorem ta88 : tagg Try.prog 88 = some false := by kernel_rfl
theorem tc88 : Try.prog.cellsOf 88 = 1 := by kernel_rfl
theorem tB88 : Try.prog.bytesOf 88 = 8 := by kernel_rfl
theorem ti88 : (Try.prog.info? 88).isSome = true := by kernel_rfl
theorem tz88 : tzero Try.prog 88 = some (.int .u64 0) := by kernel_rfl
theorem ts100 : tsz Try.prog 100 = 4 := by kernel_rfl
theorem tb100 : tby Try.prog 100 = 40 := by kernel_rfl
theorem ta100 : tagg Try.prog 100 = some true := by kernel_rfl
theorem tc100 : Try.prog.cellsOf 100 = 4 := by kernel_rfl
theorem tB100 : Try.prog.bytesOf 100 = 40 := by kernel_rfl
theorem ti100 : (Try.prog.info? 100).isSome = true := by kernel_rfl
theorem tf100_0 : tfield Try.prog 100 0 = some (0, 17) := by kernel_rfl
theorem tf100_1 : tfield Try.prog 100 1 = some (1, 17) := by kernel_rfl
theorem tf100_2 : tfield Try.prog 100 2 = some (2, 17) := by kernel_rfl
theorem tf100_3 : tfield Try.prog 100 3 = some (3, 9) := by kernel_rfl
theorem tz100 : tzero Try.prog 100 = some (.agg #[.pointer none, .pointer none, .pointer none, .string ByteArray.empty]) := by kernel_rfl
theorem ts101 : tsz Try.prog 101 = 4 := by kernel_rfl
theorem tb101 : tby Try.prog 101 = 40 := by kernel_rfl
theorem ta101 : tagg Try.prog 101 = some true := by kernel_rfl
theorem tc101 : Try.prog.cellsOf 101 = 4 := by kernel_rfl
theorem tB101 : Try.prog.bytesOf 101 = 40 := by kernel_rfl
theorem ti101 : (Try.prog.info? 101).isSome = true := by kernel_rfl
theorem tf101_0 : tfield Try.prog 101 0 = some (0, 17) := by kernel_rfl
theorem tf101_1 : tfield Try.prog 101 1 = some (1, 17) := by kernel_rfl
theorem tf101_2 : tfield Try.prog 101 2 = some (2, 17) := by kernel_rfl
theorem tf101_3 : tfield Try.prog 101 3 = some (3, 9) := by kernel_rfl
theorem tz101 : tzero Try.prog 101 = some (.agg #[.pointer none, .pointer none, .pointer none, .string ByteArray.empty]) := by kernel_rfl
theorem ts103 : tsz Try.prog 103 = 0 := by kernel_rfl
theorem tb103 : tby Try.prog 103 = 0 := by kernel_rfl
theorem ta103 : tagg Try.prog 103 = some true := by kernel_rfl
theorem tc103 : Try.prog.cellsOf 103 = 0 := by kernel_rfl
theorem tB103 : Try.prog.bytesOf 103 = 0 := by kernel_rfl
theorem ti103 : (Try.prog.info? 103).isSome = true := by kernel_rfl
theorem tf103_0 : tfield Try.prog 103 0 = some (0, 102) := by kernel_rfl
theorem ts104 : tsz Try.prog 104 = 0 := by kernel_rfl
theorem tb104 : tby Try.prog 104 = 0 := by kernel_rfl
theorem ta104 : tagg Try.prog 104 = some true := by kernel_rfl
theorem tc104 : Try.prog.cellsOf 104 = 0 := by kernel_rfl
theorem tB104 : Try.prog.bytesOf 104 = 0 := by kernel_rfl
theorem ti104 : (Try.prog.info? 104).isSome = true := by kernel_rfl
theorem tf104_0 : tfield Try.prog 104 0 = some (0, 102) := by kernel_rfl
theorem ts105 : tsz Try.prog 105 = 1 := by kernel_rfl
theorem tb105 : tby Try.prog 105 = 4 := by kernel_rfl
theorem ta105 : tagg Try.prog 105 = some false := by kernel_rfl
theorem tc105 : Try.prog.cellsOf 105 = 1 := by kernel_rfl
theorem tB105 : Try.prog.bytesOf 105 = 4 := by kernel_rfl
theorem ti105 : (Try.prog.info? 105).isSome = true := by kernel_rfl
theorem tz105 : tzero Try.prog 105 = some (.int .u32 0) := by kernel_rfl
theorem ts106 : tsz Try.prog 106 = 1 := by kernel_rfl
theorem tb106 : tby Try.prog 106 = 1 := by kernel_rfl
theorem ta106 : tagg Try.prog 106 = some false := by kernel_rfl
theorem tc106 : Try.prog.cellsOf 106 = 1 := by kernel_rfl
theorem tB106 : Try.prog.bytesOf 106 = 1 := by kernel_rfl
theorem ti106 : (Try.prog.info? 106).isSome = true := by kernel_rfl
theorem tz106 : tzero Try.prog 106 = some (.int .u8 0) := by kernel_rfl
theorem ts107 : tsz Try.prog 107 = 1 := by kernel_rfl
theorem tb107 : tby Try.prog 107 = 1 := by kernel_rfl
theorem ta107 : tagg Try.prog 107 = some false := by kernel_rfl
theorem tc107 : Try.prog.cellsOf 107 = 1 := by kernel_rfl
theorem tB107 : Try.prog.bytesOf 107 = 1 := by kernel_rfl
theorem ti107 : (Try.prog.info? 107).isSome = true := by kernel_rfl
theorem tz107 : tzero Try.prog 107 = some (.int .u8 0) := by kernel_rfl
theorem ts109 : tsz Try.prog 109 = 1 := by kernel_rfl
theorem tb109 : tby Try.prog 109 = 8 := by kernel_rfl
theorem ta109 : tagg Try.prog 109 = some false := by kernel_rfl
theorem tc109 : Try.prog.cellsOf 109 = 1 := by kernel_rfl
theorem tB109 : Try.prog.bytesOf 109 = 8 := by kernel_rfl
theorem ti109 : (Try.prog.info? 109).isSome = true := by kernel_rfl
theorem tz109 : tzero Try.prog 109 = some (.pointer none) := by kernel_rfl
theorem ts110 : tsz Try.prog 110 = 1 := by kernel_rfl
theorem tb110 : tby Try.prog 110 = 4 := by kernel_rfl
theorem ta110 : tagg Try.prog 110 = some false := by kernel_rfl
theorem tc110 : Try.prog.cellsOf 110 = 1 := by kernel_rfl
theorem tB110 : Try.prog.bytesOf 110 = 4 := by kernel_rfl
theorem ti110 : (Try.prog.info? 110).isSome = true := by kernel_rfl
theorem tz110 : tzero Try.prog 110 = some (.int .i32 0) := by kernel_rfl
theorem ts111 : tsz Try.prog 111 = 1 := by kernel_rfl
theorem tb111 : tby Try.prog 111 = 4 := by kernel_rfl
theorem ta111 : tagg Try.prog 111 = some false := by kernel_rfl
theorem tc111 : Try.prog.cellsOf 111 = 1 := by kernel_rfl
theorem tB111 : Try.prog.bytesOf 111 = 4 := by kernel_rfl
theorem ti111 : (Try.prog.info? 111).isSome = true := by kernel_rfl
theorem tz111 : tzero Try.prog 111 = some (.int .i32 0) := by kernel_rfl
theorem ts112 : tsz Try.prog 112 = 11 := by kernel_rfl
theorem tb112 : tby Try.prog 112 = 48 := by kernel_rfl
theorem ta112 : tagg Try.prog 112 = some true := by kernel_rfl
theorem tc112 : Try.prog.cellsOf 112 = 11 := by kernel_rfl
theorem tB112 : Try.prog.bytesOf 112 = 48 := by kernel_rfl
theorem ti112 : (Try.prog.info? 112).isSome = true := by kernel_rfl
theorem tf112_0 : tfield Try.prog 112 0 = some (0, 12) := by kernel_rfl
theorem tf112_1 : tfield Try.prog 112 1 = some (1, 12) := by kernel_rfl
theorem tf112_2 : tfield Try.prog 112 2 = some (2, 105) := by kernel_rfl
theorem tf112_3 : tfield Try.prog 112 3 = some (3, 106) := by kernel_rfl
theorem tf112_4 : tfield Try.prog 112 4 = some (4, 5) := by kernel_rfl
theorem tf112_5 : tfield Try.prog 112 5 = some (5, 5) := by kernel_rfl
theorem tf112_6 : tfield Try.prog 112 6 = some (6, 107) := by kernel_rfl
theorem tf112_7 : tfield Try.prog 112 7 = some (7, 108) := by kernel_rfl
theorem tf112_8 : tfield Try.prog 112 8 = some (8, 109) := by kernel_rfl
theorem tf112_9 : tfield Try.prog 112 9 = some (9, 110) := by kernel_rfl
theorem tf112_10 : tfield Try.prog 112 10 = some (10, 111) := by kernel_rfl
theorem ts113 : tsz Try.prog 113 = 11 := by kernel_rfl
theorem tb113 : tby Try.prog 113 = 48 := by kernel_rfl
theorem ta113 : tagg Try.prog 113 = some true := by kernel_rfl
theorem tc113 : Try.prog.cellsOf 113 = 11 := by kernel_rfl
theorem tB113 : Try.prog.bytesOf 113 = 48 := by kernel_rfl
theorem ti113 : (Try.prog.info? 113).isSome = true := by kernel_rfl
theorem tf113_0 : tfield Try.prog 113 0 = some (0, 12) := by kernel_rfl
theorem tf113_1 : tfield Try.prog 113 1 = some (1, 12) := by kernel_rfl
theorem tf113_2 : tfield Try.prog 113 2 = some (2, 105) := by kernel_rfl
theorem tf113_3 : tfield Try.prog 113 3 = some (3, 106) := by kernel_rfl
theorem tf113_4 : tfield Try.prog 113 4 = some (4, 5) := by kernel_rfl
theorem tf113_5 : tfield Try.prog 113 5 = some (5, 5) := by kernel_rfl
theorem tf113_6 : tfield Try.prog 113 6 = some (6, 107) := by kernel_rfl
theorem tf113_7 : tfield Try.prog 113 7 = some (7, 108) := by kernel_rfl
theorem tf113_8 : tfield Try.prog 113 8 = some (8, 109) := by kernel_rfl
theorem tf113_9 : tfield Try.prog 113 9 = some (9, 110) := by kernel_rfl
theorem tf113_10 : tfield Try.prog 113 10 = some (10, 111) := by kernel_rfl
attribute [simp] ts2 tb2 ta2 tc2 tB2 ti2 tz2 ts3 tb3 ta3 tc3 tB3 ti3 tz3 ts4 tb4 ta4 tc4 tB4 ti4 tz4 ts5 tb5 ta5 tc5 tB5 ti5 tz5 ts6 tb6 ta6 tc6 tB6 ti6 tz6 ts7 tb7 ta7 tc7 tB7 ti7 tf7_0 tf7_1 tf7_2 tf7_3 tz7 ts8 tb8 ta8 tc8 tB8 ti8 tf8_0 tf8_1 tf8_2 tf8_3 tz8 ts9 tb9 ta9 tc9 tB9 ti9 tz9 ts10 tb10 ta10 tc10 tB10 ti10 tz10 ts11 tb11 ta11 tc11 tB11 ti11 tz11 ts12 tb12 ta12 tc12 tB12 ti12 tz12 ts13 tb13 ta13 tc13 tB13 ti13 tf13_0 tf13_1 tz13 ts14 tb14 ta14 tc14 tB14 ti14 tf14_0 tf14_1 tz14 ts15 tb15 ta15 tc15 tB15 ti15 tz15 ts16 tb16 ta16 tc16 tB16 ti16 tz16 ts17 tb17 ta17 tc17 tB17 ti17 tz17 ts18 tb18 ta18 tc18 tB18 ti18 tf18_0 tz18 ts19 tb19 ta19 tc19 tB19 ti19 tf19_0 tz19 ts21 tb21 ta21 tc21 tB21 ti21 tz21 ts22 tb22 ta22 tc22 tB22 ti22 te22 tz22 ts23 tb23 ta23 tc23 tB23 ti23 te23 tz23 ts25 tb25 ta25 tc25 tB25 ti25 te25 tz25 ts26 tb26 ta26 tc26 tB26 ti26 te26 tz26 ts27 tb27 ta27 tc27 tB27 ti27 tf27_0 tf27_1 tf27_2 tf27_3 tz27 ts28 tb28 ta28 tc28 tB28 ti28 tf28_0 tf28_1 tf28_2 tf28_3 tz28 ts29 tb29 ta29 tc29 tB29 ti29 te29 tz29 ts42 tb42 ta42 tc42 tB42 ti42 te42 tz42 ts43 tb43 ta43 tc43 tB43 ti43 tf43_0 tf43_1 tf43_2 tf43_3 tz43 ts44 tb44 ta44 tc44 tB44 ti44 tf44_0 tf44_1 tf44_2 tf44_3 tz44 ts46 tb46 ta46 tc46 tB46 ti46 tz46 ts47 tb47 ta47 tc47 tB47 ti47 tz47 ts48 tb48 ta48 tc48 tB48 ti48 tf48_0 tf48_1 tf48_2 tz48 ts49 tb49 ta49 tc49 tB49 ti49 tf49_0 tf49_1 tf49_2 tz49 ts57 tb57 ta57 tc57 tB57 ti57 tf57_0 tf57_1 tz57 ts58 tb58 ta58 tc58 tB58 ti58 tf58_0 tf58_1 tz58 ts76 tb76 ta76 tc76 tB76 ti76 te76 tz76 ts82 tb82 ta82 tc82 tB82 ti82 tz82 ts88 tb88 ta88 tc88 tB88 ti88 tz88 ts100 tb100 ta100 tc100 tB100 ti100 tf100_0 tf100_1 tf100_2 tf100_3 tz100 ts101 tb101 ta101 tc101 tB101 ti101 tf101_0 tf101_1 tf101_2 tf101_3 tz101 ts103 tb103 ta103 tc103 tB103 ti103 tf103_0 ts104 tb104 ta104 tc104 tB104 ti104 tf104_0 ts105 tb105 ta105 tc105 tB105 ti105 tz105 ts106 tb106 ta106 tc106 tB106 ti106 tz106 ts107 tb107 ta107 tc107 tB107 ti107 tz107 ts109 tb109 ta109 tc109 tB109 ti109 tz109 ts110 tb110 ta110 tc110 tB110 ti110 tz110 ts111 tb111 ta111 tc111 tB111 ti111 tz111 ts112 tb112 ta112 tc112 tB112 ti112 tf112_0 tf112_1 tf112_2 tf112_3 tf112_4 tf112_5 tf112_6 tf112_7 tf112_8 tf112_9 tf112_10 ts113 tb113 ta113 tc113 tB113 ti113 tf113_0 tf113_1 tf113_2 tf113_3 tf113_4 tf113_5 tf113_6 tf113_7 tf113_8 tf113_9 tf113_10
end Go.V
