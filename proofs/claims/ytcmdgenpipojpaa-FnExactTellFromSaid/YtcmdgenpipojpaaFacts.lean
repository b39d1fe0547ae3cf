/- Facts on the types of the seat's program, each by reckoning. No conditions. -/
import Derived.Test.YtcmdgenpipojpaaVh
import Derived.Test.YtcmdgenpipojpaaProg
set_option linter.all false
namespace Go.V
open Go.Proofs
set_option maxRecDepth 10000
theorem h0:tsz Try.prog nilE = 0:=by kernel_rfl
theorem hm:Try.prog.follows .mixedOrders = true:=by kernel_rfl
theorem ts2:tsz Try.prog 2 = 1:=by kernel_rfl
theorem tb2:tby Try.prog 2 = 8:=by kernel_rfl
theorem ta2:tagg Try.prog 2 = some false:=by kernel_rfl
theorem tc2:Try.prog.cellsOf 2 = 1:=by kernel_rfl
theorem tB2:Try.prog.bytesOf 2 = 8:=by kernel_rfl
theorem ti2:(Try.prog.info? 2).isSome = true:=by kernel_rfl
theorem tz2:tzero Try.prog 2 = some (.int .i64 0):=by kernel_rfl
theorem ts3:tsz Try.prog 3 = 1:=by kernel_rfl
theorem tb3:tby Try.prog 3 = 8:=by kernel_rfl
theorem ta3:tagg Try.prog 3 = some false:=by kernel_rfl
theorem tc3:Try.prog.cellsOf 3 = 1:=by kernel_rfl
theorem tB3:Try.prog.bytesOf 3 = 8:=by kernel_rfl
theorem ti3:(Try.prog.info? 3).isSome = true:=by kernel_rfl
theorem tz3:tzero Try.prog 3 = some (.int .i64 0):=by kernel_rfl
theorem ts4:tsz Try.prog 4 = 1:=by kernel_rfl
theorem tb4:tby Try.prog 4 = 1:=by kernel_rfl
theorem ta4:tagg Try.prog 4 = some false:=by kernel_rfl
theorem tc4:Try.prog.cellsOf 4 = 1:=by kernel_rfl
theorem tB4:Try.prog.bytesOf 4 = 1:=by kernel_rfl
theorem ti4:(Try.prog.info? 4).isSome = true:=by kernel_rfl
theorem tz4:tzero Try.prog 4 = some (.bool false):=by kernel_rfl
theorem ts5:tsz Try.prog 5 = 1:=by kernel_rfl
theorem tb5:tby Try.prog 5 = 1:=by kernel_rfl
theorem ta5:tagg Try.prog 5 = some false:=by kernel_rfl
theorem tc5:Try.prog.cellsOf 5 = 1:=by kernel_rfl
theorem tB5:Try.prog.bytesOf 5 = 1:=by kernel_rfl
theorem ti5:(Try.prog.info? 5).isSome = true:=by kernel_rfl
theorem tz5:tzero Try.prog 5 = some (.int .u8 0):=by kernel_rfl
theorem ts6:tsz Try.prog 6 = 1:=by kernel_rfl
theorem tb6:tby Try.prog 6 = 1:=by kernel_rfl
theorem ta6:tagg Try.prog 6 = some false:=by kernel_rfl
theorem tc6:Try.prog.cellsOf 6 = 1:=by kernel_rfl
theorem tB6:Try.prog.bytesOf 6 = 1:=by kernel_rfl
theorem ti6:(Try.prog.info? 6).isSome = true:=by kernel_rfl
theorem tz6:tzero Try.prog 6 = some (.int .u8 0):=by kernel_rfl
theorem ts7:tsz Try.prog 7 = 4:=by kernel_rfl
theorem tb7:tby Try.prog 7 = 24:=by kernel_rfl
theorem ta7:tagg Try.prog 7 = some true:=by kernel_rfl
theorem tc7:Try.prog.cellsOf 7 = 4:=by kernel_rfl
theorem tB7:Try.prog.bytesOf 7 = 24:=by kernel_rfl
theorem ti7:(Try.prog.info? 7).isSome = true:=by kernel_rfl
theorem tf7_0:tfield Try.prog 7 0 = some (0,2):=by kernel_rfl
theorem tf7_1:tfield Try.prog 7 1 = some (1,3):=by kernel_rfl
theorem tf7_2:tfield Try.prog 7 2 = some (2,4):=by kernel_rfl
theorem tf7_3:tfield Try.prog 7 3 = some (3,6):=by kernel_rfl
theorem tz7:tzero Try.prog 7 = some (.agg #[.int .i64 0,.int .i64 0,.bool false,.int .u8 0]):=by kernel_rfl
theorem ts8:tsz Try.prog 8 = 4:=by kernel_rfl
theorem tb8:tby Try.prog 8 = 24:=by kernel_rfl
theorem ta8:tagg Try.prog 8 = some true:=by kernel_rfl
theorem tc8:Try.prog.cellsOf 8 = 4:=by kernel_rfl
theorem tB8:Try.prog.bytesOf 8 = 24:=by kernel_rfl
theorem ti8:(Try.prog.info? 8).isSome = true:=by kernel_rfl
theorem tf8_0:tfield Try.prog 8 0 = some (0,2):=by kernel_rfl
theorem tf8_1:tfield Try.prog 8 1 = some (1,3):=by kernel_rfl
theorem tf8_2:tfield Try.prog 8 2 = some (2,4):=by kernel_rfl
theorem tf8_3:tfield Try.prog 8 3 = some (3,6):=by kernel_rfl
theorem tz8:tzero Try.prog 8 = some (.agg #[.int .i64 0,.int .i64 0,.bool false,.int .u8 0]):=by kernel_rfl
theorem ts9:tsz Try.prog 9 = 1:=by kernel_rfl
theorem tb9:tby Try.prog 9 = 16:=by kernel_rfl
theorem ta9:tagg Try.prog 9 = some false:=by kernel_rfl
theorem tc9:Try.prog.cellsOf 9 = 1:=by kernel_rfl
theorem tB9:Try.prog.bytesOf 9 = 16:=by kernel_rfl
theorem ti9:(Try.prog.info? 9).isSome = true:=by kernel_rfl
theorem tz9:tzero Try.prog 9 = some (.string ByteArray.empty):=by kernel_rfl
theorem ts10:tsz Try.prog 10 = 1:=by kernel_rfl
theorem tb10:tby Try.prog 10 = 16:=by kernel_rfl
theorem ta10:tagg Try.prog 10 = some false:=by kernel_rfl
theorem tc10:Try.prog.cellsOf 10 = 1:=by kernel_rfl
theorem tB10:Try.prog.bytesOf 10 = 16:=by kernel_rfl
theorem ti10:(Try.prog.info? 10).isSome = true:=by kernel_rfl
theorem tz10:tzero Try.prog 10 = some (.string ByteArray.empty):=by kernel_rfl
theorem ts11:tsz Try.prog 11 = 1:=by kernel_rfl
theorem tb11:tby Try.prog 11 = 16:=by kernel_rfl
theorem ta11:tagg Try.prog 11 = some false:=by kernel_rfl
theorem tc11:Try.prog.cellsOf 11 = 1:=by kernel_rfl
theorem tB11:Try.prog.bytesOf 11 = 16:=by kernel_rfl
theorem ti11:(Try.prog.info? 11).isSome = true:=by kernel_rfl
theorem tz11:tzero Try.prog 11 = some (.string ByteArray.empty):=by kernel_rfl
theorem ts12:tsz Try.prog 12 = 1:=by kernel_rfl
theorem tb12:tby Try.prog 12 = 8:=by kernel_rfl
theorem ta12:tagg Try.prog 12 = some false:=by kernel_rfl
theorem tc12:Try.prog.cellsOf 12 = 1:=by kernel_rfl
theorem tB12:Try.prog.bytesOf 12 = 8:=by kernel_rfl
theorem ti12:(Try.prog.info? 12).isSome = true:=by kernel_rfl
theorem tz12:tzero Try.prog 12 = some (.int .u64 0):=by kernel_rfl
theorem ts13:tsz Try.prog 13 = 2:=by kernel_rfl
theorem tb13:tby Try.prog 13 = 24:=by kernel_rfl
theorem ta13:tagg Try.prog 13 = some true:=by kernel_rfl
theorem tc13:Try.prog.cellsOf 13 = 2:=by kernel_rfl
theorem tB13:Try.prog.bytesOf 13 = 24:=by kernel_rfl
theorem ti13:(Try.prog.info? 13).isSome = true:=by kernel_rfl
theorem tf13_0:tfield Try.prog 13 0 = some (0,9):=by kernel_rfl
theorem tf13_1:tfield Try.prog 13 1 = some (1,12):=by kernel_rfl
theorem tz13:tzero Try.prog 13 = some (.agg #[.string ByteArray.empty,.int .u64 0]):=by kernel_rfl
theorem ts14:tsz Try.prog 14 = 2:=by kernel_rfl
theorem tb14:tby Try.prog 14 = 24:=by kernel_rfl
theorem ta14:tagg Try.prog 14 = some true:=by kernel_rfl
theorem tc14:Try.prog.cellsOf 14 = 2:=by kernel_rfl
theorem tB14:Try.prog.bytesOf 14 = 24:=by kernel_rfl
theorem ti14:(Try.prog.info? 14).isSome = true:=by kernel_rfl
theorem tf14_0:tfield Try.prog 14 0 = some (0,9):=by kernel_rfl
theorem tf14_1:tfield Try.prog 14 1 = some (1,12):=by kernel_rfl
theorem tz14:tzero Try.prog 14 = some (.agg #[.string ByteArray.empty,.int .u64 0]):=by kernel_rfl
theorem ts15:tsz Try.prog 15 = 1:=by kernel_rfl
theorem tb15:tby Try.prog 15 = 8:=by kernel_rfl
theorem ta15:tagg Try.prog 15 = some false:=by kernel_rfl
theorem tc15:Try.prog.cellsOf 15 = 1:=by kernel_rfl
theorem tB15:Try.prog.bytesOf 15 = 8:=by kernel_rfl
theorem ti15:(Try.prog.info? 15).isSome = true:=by kernel_rfl
theorem tz15:tzero Try.prog 15 = some (.pointer none):=by kernel_rfl
theorem ts16:tsz Try.prog 16 = 1:=by kernel_rfl
theorem tb16:tby Try.prog 16 = 8:=by kernel_rfl
theorem ta16:tagg Try.prog 16 = some false:=by kernel_rfl
theorem tc16:Try.prog.cellsOf 16 = 1:=by kernel_rfl
theorem tB16:Try.prog.bytesOf 16 = 8:=by kernel_rfl
theorem ti16:(Try.prog.info? 16).isSome = true:=by kernel_rfl
theorem tz16:tzero Try.prog 16 = some (.pointer none):=by kernel_rfl
theorem ts17:tsz Try.prog 17 = 1:=by kernel_rfl
theorem tb17:tby Try.prog 17 = 8:=by kernel_rfl
theorem ta17:tagg Try.prog 17 = some false:=by kernel_rfl
theorem tc17:Try.prog.cellsOf 17 = 1:=by kernel_rfl
theorem tB17:Try.prog.bytesOf 17 = 8:=by kernel_rfl
theorem ti17:(Try.prog.info? 17).isSome = true:=by kernel_rfl
theorem tz17:tzero Try.prog 17 = some (.pointer none):=by kernel_rfl
theorem ts18:tsz Try.prog 18 = 1:=by kernel_rfl
theorem tb18:tby Try.prog 18 = 8:=by kernel_rfl
theorem ta18:tagg Try.prog 18 = some true:=by kernel_rfl
theorem tc18:Try.prog.cellsOf 18 = 1:=by kernel_rfl
theorem tB18:Try.prog.bytesOf 18 = 8:=by kernel_rfl
theorem ti18:(Try.prog.info? 18).isSome = true:=by kernel_rfl
theorem tf18_0:tfield Try.prog 18 0 = some (0,17):=by kernel_rfl
theorem tz18:tzero Try.prog 18 = some (.agg #[.pointer none]):=by kernel_rfl
theorem ts19:tsz Try.prog 19 = 1:=by kernel_rfl
theorem tb19:tby Try.prog 19 = 8:=by kernel_rfl
theorem ta19:tagg Try.prog 19 = some true:=by kernel_rfl
theorem tc19:Try.prog.cellsOf 19 = 1:=by kernel_rfl
theorem tB19:Try.prog.bytesOf 19 = 8:=by kernel_rfl
theorem ti19:(Try.prog.info? 19).isSome = true:=by kernel_rfl
theorem tf19_0:tfield Try.prog 19 0 = some (0,17):=by kernel_rfl
theorem tz19:tzero Try.prog 19 = some (.agg #[.pointer none]):=by kernel_rfl
theorem ts21:tsz Try.prog 21 = 1:=by kernel_rfl
theorem tb21:tby Try.prog 21 = 4:=by kernel_rfl
theorem ta21:tagg Try.prog 21 = some false:=by kernel_rfl
theorem tc21:Try.prog.cellsOf 21 = 1:=by kernel_rfl
theorem tB21:Try.prog.bytesOf 21 = 4:=by kernel_rfl
theorem ti21:(Try.prog.info? 21).isSome = true:=by kernel_rfl
theorem tz21:tzero Try.prog 21 = some (.int .i32 0):=by kernel_rfl
theorem ts22:tsz Try.prog 22 = 1:=by kernel_rfl
theorem tb22:tby Try.prog 22 = 24:=by kernel_rfl
theorem ta22:tagg Try.prog 22 = some false:=by kernel_rfl
theorem tc22:Try.prog.cellsOf 22 = 1:=by kernel_rfl
theorem tB22:Try.prog.bytesOf 22 = 24:=by kernel_rfl
theorem ti22:(Try.prog.info? 22).isSome = true:=by kernel_rfl
theorem te22:telem Try.prog 22 = some 41:=by kernel_rfl
theorem tz22:tzero Try.prog 22 = some (.slice none 0 0):=by kernel_rfl
theorem ts24:tsz Try.prog 24 = 1:=by kernel_rfl
theorem tb24:tby Try.prog 24 = 24:=by kernel_rfl
theorem ta24:tagg Try.prog 24 = some false:=by kernel_rfl
theorem tc24:Try.prog.cellsOf 24 = 1:=by kernel_rfl
theorem tB24:Try.prog.bytesOf 24 = 24:=by kernel_rfl
theorem ti24:(Try.prog.info? 24).isSome = true:=by kernel_rfl
theorem te24:telem Try.prog 24 = some 63:=by kernel_rfl
theorem tz24:tzero Try.prog 24 = some (.slice none 0 0):=by kernel_rfl
theorem ts27:tsz Try.prog 27 = 1:=by kernel_rfl
theorem tb27:tby Try.prog 27 = 24:=by kernel_rfl
theorem ta27:tagg Try.prog 27 = some false:=by kernel_rfl
theorem tc27:Try.prog.cellsOf 27 = 1:=by kernel_rfl
theorem tB27:Try.prog.bytesOf 27 = 24:=by kernel_rfl
theorem ti27:(Try.prog.info? 27).isSome = true:=by kernel_rfl
theorem te27:telem Try.prog 27 = some 47:=by kernel_rfl
theorem tz27:tzero Try.prog 27 = some (.slice none 0 0):=by kernel_rfl
theorem ts35:tsz Try.prog 35 = 2:=by kernel_rfl
theorem tb35:tby Try.prog 35 = 16:=by kernel_rfl
theorem ta35:tagg Try.prog 35 = some true:=by kernel_rfl
theorem tc35:Try.prog.cellsOf 35 = 2:=by kernel_rfl
theorem tB35:Try.prog.bytesOf 35 = 16:=by kernel_rfl
theorem ti35:(Try.prog.info? 35).isSome = true:=by kernel_rfl
theorem tq35:isPairT Try.prog 35 = true:=by kernel_rfl
theorem tf35_0:tfield Try.prog 35 0 = some (0,3):=by kernel_rfl
theorem tf35_1:tfield Try.prog 35 1 = some (1,3):=by kernel_rfl
theorem tz35:tzero Try.prog 35 = some (.agg #[.int .i64 0,.int .i64 0]):=by kernel_rfl
theorem ts36:tsz Try.prog 36 = 2:=by kernel_rfl
theorem tb36:tby Try.prog 36 = 16:=by kernel_rfl
theorem ta36:tagg Try.prog 36 = some true:=by kernel_rfl
theorem tc36:Try.prog.cellsOf 36 = 2:=by kernel_rfl
theorem tB36:Try.prog.bytesOf 36 = 16:=by kernel_rfl
theorem ti36:(Try.prog.info? 36).isSome = true:=by kernel_rfl
theorem tq36:isPairT Try.prog 36 = true:=by kernel_rfl
theorem tf36_0:tfield Try.prog 36 0 = some (0,3):=by kernel_rfl
theorem tf36_1:tfield Try.prog 36 1 = some (1,3):=by kernel_rfl
theorem tz36:tzero Try.prog 36 = some (.agg #[.int .i64 0,.int .i64 0]):=by kernel_rfl
theorem ts37:tsz Try.prog 37 = 1:=by kernel_rfl
theorem tb37:tby Try.prog 37 = 24:=by kernel_rfl
theorem ta37:tagg Try.prog 37 = some false:=by kernel_rfl
theorem tc37:Try.prog.cellsOf 37 = 1:=by kernel_rfl
theorem tB37:Try.prog.bytesOf 37 = 24:=by kernel_rfl
theorem ti37:(Try.prog.info? 37).isSome = true:=by kernel_rfl
theorem te37:telem Try.prog 37 = some 3:=by kernel_rfl
theorem tz37:tzero Try.prog 37 = some (.slice none 0 0):=by kernel_rfl
theorem ts38:tsz Try.prog 38 = 6:=by kernel_rfl
theorem tb38:tby Try.prog 38 = 80:=by kernel_rfl
theorem ta38:tagg Try.prog 38 = some true:=by kernel_rfl
theorem tc38:Try.prog.cellsOf 38 = 6:=by kernel_rfl
theorem tB38:Try.prog.bytesOf 38 = 80:=by kernel_rfl
theorem ti38:(Try.prog.info? 38).isSome = true:=by kernel_rfl
theorem tf38_0:tfield Try.prog 38 0 = some (0,3):=by kernel_rfl
theorem tf38_1:tfield Try.prog 38 1 = some (1,37):=by kernel_rfl
theorem tf38_2:tfield Try.prog 38 2 = some (2,3):=by kernel_rfl
theorem tf38_3:tfield Try.prog 38 3 = some (3,3):=by kernel_rfl
theorem tf38_4:tfield Try.prog 38 4 = some (4,3):=by kernel_rfl
theorem tf38_5:tfield Try.prog 38 5 = some (5,37):=by kernel_rfl
theorem tz38:tzero Try.prog 38 = some (.agg #[.int .i64 0,.slice none 0 0,.int .i64 0,.int .i64 0,.int .i64 0,.slice none 0 0]):=by kernel_rfl
theorem ts39:tsz Try.prog 39 = 6:=by kernel_rfl
theorem tb39:tby Try.prog 39 = 80:=by kernel_rfl
theorem ta39:tagg Try.prog 39 = some true:=by kernel_rfl
theorem tc39:Try.prog.cellsOf 39 = 6:=by kernel_rfl
theorem tB39:Try.prog.bytesOf 39 = 80:=by kernel_rfl
theorem ti39:(Try.prog.info? 39).isSome = true:=by kernel_rfl
theorem tf39_0:tfield Try.prog 39 0 = some (0,3):=by kernel_rfl
theorem tf39_1:tfield Try.prog 39 1 = some (1,37):=by kernel_rfl
theorem tf39_2:tfield Try.prog 39 2 = some (2,3):=by kernel_rfl
theorem tf39_3:tfield Try.prog 39 3 = some (3,3):=by kernel_rfl
theorem tf39_4:tfield Try.prog 39 4 = some (4,3):=by kernel_rfl
theorem tf39_5:tfield Try.prog 39 5 = some (5,37):=by kernel_rfl
theorem tz39:tzero Try.prog 39 = some (.agg #[.int .i64 0,.slice none 0 0,.int .i64 0,.int .i64 0,.int .i64 0,.slice none 0 0]):=by kernel_rfl
theorem ts40:tsz Try.prog 40 = 8:=by kernel_rfl
theorem tb40:tby Try.prog 40 = 96:=by kernel_rfl
theorem ta40:tagg Try.prog 40 = some true:=by kernel_rfl
theorem tc40:Try.prog.cellsOf 40 = 8:=by kernel_rfl
theorem tB40:Try.prog.bytesOf 40 = 96:=by kernel_rfl
theorem ti40:(Try.prog.info? 40).isSome = true:=by kernel_rfl
theorem tf40_0:tfield Try.prog 40 0 = some (0,36):=by kernel_rfl
theorem tf40_1:tfield Try.prog 40 1 = some (2,39):=by kernel_rfl
theorem tz40:tzero Try.prog 40 = some (.agg #[.int .i64 0,.int .i64 0,.int .i64 0,.slice none 0 0,.int .i64 0,.int .i64 0,.int .i64 0,.slice none 0 0]):=by kernel_rfl
theorem ts41:tsz Try.prog 41 = 8:=by kernel_rfl
theorem tb41:tby Try.prog 41 = 96:=by kernel_rfl
theorem ta41:tagg Try.prog 41 = some true:=by kernel_rfl
theorem tc41:Try.prog.cellsOf 41 = 8:=by kernel_rfl
theorem tB41:Try.prog.bytesOf 41 = 96:=by kernel_rfl
theorem ti41:(Try.prog.info? 41).isSome = true:=by kernel_rfl
theorem tf41_0:tfield Try.prog 41 0 = some (0,36):=by kernel_rfl
theorem tf41_1:tfield Try.prog 41 1 = some (2,39):=by kernel_rfl
theorem tz41:tzero Try.prog 41 = some (.agg #[.int .i64 0,.int .i64 0,.int .i64 0,.slice none 0 0,.int .i64 0,.int .i64 0,.int .i64 0,.slice none 0 0]):=by kernel_rfl
theorem ts44:tsz Try.prog 44 = 2:=by kernel_rfl
theorem tb44:tby Try.prog 44 = 16:=by kernel_rfl
theorem ta44:tagg Try.prog 44 = some true:=by kernel_rfl
theorem tc44:Try.prog.cellsOf 44 = 2:=by kernel_rfl
theorem tB44:Try.prog.bytesOf 44 = 16:=by kernel_rfl
theorem ti44:(Try.prog.info? 44).isSome = true:=by kernel_rfl
theorem tq44:isPairT Try.prog 44 = true:=by kernel_rfl
theorem tf44_0:tfield Try.prog 44 0 = some (0,3):=by kernel_rfl
theorem tf44_1:tfield Try.prog 44 1 = some (1,3):=by kernel_rfl
theorem tz44:tzero Try.prog 44 = some (.agg #[.int .i64 0,.int .i64 0]):=by kernel_rfl
theorem ts45:tsz Try.prog 45 = 6:=by kernel_rfl
theorem tb45:tby Try.prog 45 = 80:=by kernel_rfl
theorem ta45:tagg Try.prog 45 = some true:=by kernel_rfl
theorem tc45:Try.prog.cellsOf 45 = 6:=by kernel_rfl
theorem tB45:Try.prog.bytesOf 45 = 80:=by kernel_rfl
theorem ti45:(Try.prog.info? 45).isSome = true:=by kernel_rfl
theorem tf45_0:tfield Try.prog 45 0 = some (0,3):=by kernel_rfl
theorem tf45_1:tfield Try.prog 45 1 = some (1,37):=by kernel_rfl
theorem tf45_2:tfield Try.prog 45 2 = some (2,3):=by kernel_rfl
theorem tf45_3:tfield Try.prog 45 3 = some (3,3):=by kernel_rfl
theorem tf45_4:tfield Try.prog 45 4 = some (4,3):=by kernel_rfl
theorem tf45_5:tfield Try.prog 45 5 = some (5,37):=by kernel_rfl
theorem tz45:tzero Try.prog 45 = some (.agg #[.int .i64 0,.slice none 0 0,.int .i64 0,.int .i64 0,.int .i64 0,.slice none 0 0]):=by kernel_rfl
theorem ts46:tsz Try.prog 46 = 8:=by kernel_rfl
theorem tb46:tby Try.prog 46 = 96:=by kernel_rfl
theorem ta46:tagg Try.prog 46 = some true:=by kernel_rfl
theorem tc46:Try.prog.cellsOf 46 = 8:=by kernel_rfl
theorem tB46:Try.prog.bytesOf 46 = 96:=by kernel_rfl
theorem ti46:(Try.prog.info? 46).isSome = true:=by kernel_rfl
theorem tf46_0:tfield Try.prog 46 0 = some (0,44):=by kernel_rfl
theorem tf46_1:tfield Try.prog 46 1 = some (2,45):=by kernel_rfl
theorem tz46:tzero Try.prog 46 = some (.agg #[.int .i64 0,.int .i64 0,.int .i64 0,.slice none 0 0,.int .i64 0,.int .i64 0,.int .i64 0,.slice none 0 0]):=by kernel_rfl
theorem ts47:tsz Try.prog 47 = 8:=by kernel_rfl
theorem tb47:tby Try.prog 47 = 96:=by kernel_rfl
theorem ta47:tagg Try.prog 47 = some true:=by kernel_rfl
theorem tc47:Try.prog.cellsOf 47 = 8:=by kernel_rfl
theorem tB47:Try.prog.bytesOf 47 = 96:=by kernel_rfl
theorem ti47:(Try.prog.info? 47).isSome = true:=by kernel_rfl
theorem tf47_0:tfield Try.prog 47 0 = some (0,44):=by kernel_rfl
theorem tf47_1:tfield Try.prog 47 1 = some (2,45):=by kernel_rfl
theorem tz47:tzero Try.prog 47 = some (.agg #[.int .i64 0,.int .i64 0,.int .i64 0,.slice none 0 0,.int .i64 0,.int .i64 0,.int .i64 0,.slice none 0 0]):=by kernel_rfl
theorem ts49:tsz Try.prog 49 = 1:=by kernel_rfl
theorem tb49:tby Try.prog 49 = 24:=by kernel_rfl
theorem ta49:tagg Try.prog 49 = some false:=by kernel_rfl
theorem tc49:Try.prog.cellsOf 49 = 1:=by kernel_rfl
theorem tB49:Try.prog.bytesOf 49 = 24:=by kernel_rfl
theorem ti49:(Try.prog.info? 49).isSome = true:=by kernel_rfl
theorem te49:telem Try.prog 49 = some 44:=by kernel_rfl
theorem tz49:tzero Try.prog 49 = some (.slice none 0 0):=by kernel_rfl
theorem ts56:tsz Try.prog 56 = 1:=by kernel_rfl
theorem tb56:tby Try.prog 56 = 24:=by kernel_rfl
theorem ta56:tagg Try.prog 56 = some false:=by kernel_rfl
theorem tc56:Try.prog.cellsOf 56 = 1:=by kernel_rfl
theorem tB56:Try.prog.bytesOf 56 = 24:=by kernel_rfl
theorem ti56:(Try.prog.info? 56).isSome = true:=by kernel_rfl
theorem te56:telem Try.prog 56 = some 37:=by kernel_rfl
theorem tz56:tzero Try.prog 56 = some (.slice none 0 0):=by kernel_rfl
theorem ts62:tsz Try.prog 62 = 8:=by kernel_rfl
theorem tb62:tby Try.prog 62 = 128:=by kernel_rfl
theorem ta62:tagg Try.prog 62 = some true:=by kernel_rfl
theorem tc62:Try.prog.cellsOf 62 = 8:=by kernel_rfl
theorem tB62:Try.prog.bytesOf 62 = 128:=by kernel_rfl
theorem ti62:(Try.prog.info? 62).isSome = true:=by kernel_rfl
theorem tf62_0:tfield Try.prog 62 0 = some (0,49):=by kernel_rfl
theorem tf62_1:tfield Try.prog 62 1 = some (1,45):=by kernel_rfl
theorem tf62_2:tfield Try.prog 62 2 = some (7,49):=by kernel_rfl
theorem tz62:tzero Try.prog 62 = some (.agg #[.slice none 0 0,.int .i64 0,.slice none 0 0,.int .i64 0,.int .i64 0,.int .i64 0,.slice none 0 0,.slice none 0 0]):=by kernel_rfl
theorem ts63:tsz Try.prog 63 = 8:=by kernel_rfl
theorem tb63:tby Try.prog 63 = 128:=by kernel_rfl
theorem ta63:tagg Try.prog 63 = some true:=by kernel_rfl
theorem tc63:Try.prog.cellsOf 63 = 8:=by kernel_rfl
theorem tB63:Try.prog.bytesOf 63 = 128:=by kernel_rfl
theorem ti63:(Try.prog.info? 63).isSome = true:=by kernel_rfl
theorem tf63_0:tfield Try.prog 63 0 = some (0,49):=by kernel_rfl
theorem tf63_1:tfield Try.prog 63 1 = some (1,45):=by kernel_rfl
theorem tf63_2:tfield Try.prog 63 2 = some (7,49):=by kernel_rfl
theorem tz63:tzero Try.prog 63 = some (.agg #[.slice none 0 0,.int .i64 0,.slice none 0 0,.int .i64 0,.int .i64 0,.int .i64 0,.slice none 0 0,.slice none 0 0]):=by kernel_rfl
theorem ts91:tsz Try.prog 91 = 1:=by kernel_rfl
theorem tb91:tby Try.prog 91 = 8:=by kernel_rfl
theorem ta91:tagg Try.prog 91 = some false:=by kernel_rfl
theorem tc91:Try.prog.cellsOf 91 = 1:=by kernel_rfl
theorem tB91:Try.prog.bytesOf 91 = 8:=by kernel_rfl
theorem ti91:(Try.prog.info? 91).isSome = true:=by kernel_rfl
theorem tz91:tzero Try.prog 91 = some (.int .u64 0):=by kernel_rfl
theorem ts100:tsz Try.prog 100 = 4:=by kernel_rfl
theorem tb100:tby Try.prog 100 = 40:=by kernel_rfl
theorem ta100:tagg Try.prog 100 = some true:=by kernel_rfl
theorem tc100:Try.prog.cellsOf 100 = 4:=by kernel_rfl
theorem tB100:Try.prog.bytesOf 100 = 40:=by kernel_rfl
theorem ti100:(Try.prog.info? 100).isSome = true:=by kernel_rfl
theorem tf100_0:tfield Try.prog 100 0 = some (0,17):=by kernel_rfl
theorem tf100_1:tfield Try.prog 100 1 = some (1,17):=by kernel_rfl
theorem tf100_2:tfield Try.prog 100 2 = some (2,17):=by kernel_rfl
theorem tf100_3:tfield Try.prog 100 3 = some (3,9):=by kernel_rfl
theorem tz100:tzero Try.prog 100 = some (.agg #[.pointer none,.pointer none,.pointer none,.string ByteArray.empty]):=by kernel_rfl
theorem ts101:tsz Try.prog 101 = 4:=by kernel_rfl
theorem tb101:tby Try.prog 101 = 40:=by kernel_rfl
theorem ta101:tagg Try.prog 101 = some true:=by kernel_rfl
theorem tc101:Try.prog.cellsOf 101 = 4:=by kernel_rfl
theorem tB101:Try.prog.bytesOf 101 = 40:=by kernel_rfl
theorem ti101:(Try.prog.info? 101).isSome = true:=by kernel_rfl
theorem tf101_0:tfield Try.prog 101 0 = some (0,17):=by kernel_rfl
theorem tf101_1:tfield Try.prog 101 1 = some (1,17):=by kernel_rfl
theorem tf101_2:tfield Try.prog 101 2 = some (2,17):=by kernel_rfl
theorem tf101_3:tfield Try.prog 101 3 = some (3,9):=by kernel_rfl
theorem tz101:tzero Try.prog 101 = some (.agg #[.pointer none,.pointer none,.pointer none,.string ByteArray.empty]):=by kernel_rfl
theorem ts103:tsz Try.prog 103 = 0:=by kernel_rfl
theorem tb103:tby Try.prog 103 = 0:=by kernel_rfl
theorem ta103:tagg Try.prog 103 = some true:=by kernel_rfl
theorem tc103:Try.prog.cellsOf 103 = 0:=by kernel_rfl
theorem tB103:Try.prog.bytesOf 103 = 0:=by kernel_rfl
theorem ti103:(Try.prog.info? 103).isSome = true:=by kernel_rfl
theorem tf103_0:tfield Try.prog 103 0 = some (0,102):=by kernel_rfl
theorem ts104:tsz Try.prog 104 = 0:=by kernel_rfl
theorem tb104:tby Try.prog 104 = 0:=by kernel_rfl
theorem ta104:tagg Try.prog 104 = some true:=by kernel_rfl
theorem tc104:Try.prog.cellsOf 104 = 0:=by kernel_rfl
theorem tB104:Try.prog.bytesOf 104 = 0:=by kernel_rfl
theorem ti104:(Try.prog.info? 104).isSome = true:=by kernel_rfl
theorem tf104_0:tfield Try.prog 104 0 = some (0,102):=by kernel_rfl
theorem ts106:tsz Try.prog 106 = 1:=by kernel_rfl
theorem tb106:tby Try.prog 106 = 4:=by kernel_rfl
theorem ta106:tagg Try.prog 106 = some false:=by kernel_rfl
theorem tc106:Try.prog.cellsOf 106 = 1:=by kernel_rfl
theorem tB106:Try.prog.bytesOf 106 = 4:=by kernel_rfl
theorem ti106:(Try.prog.info? 106).isSome = true:=by kernel_rfl
theorem tz106:tzero Try.prog 106 = some (.int .u32 0):=by kernel_rfl
theorem ts107:tsz Try.prog 107 = 1:=by kernel_rfl
theorem tb107:tby Try.prog 107 = 1:=by kernel_rfl
theorem ta107:tagg Try.prog 107 = some false:=by kernel_rfl
theorem tc107:Try.prog.cellsOf 107 = 1:=by kernel_rfl
theorem tB107:Try.prog.bytesOf 107 = 1:=by kernel_rfl
theorem ti107:(Try.prog.info? 107).isSome = true:=by kernel_rfl
theorem tz107:tzero Try.prog 107 = some (.int .u8 0):=by kernel_rfl
theorem ts108:tsz Try.prog 108 = 1:=by kernel_rfl
theorem tb108:tby Try.prog 108 = 1:=by kernel_rfl
theorem ta108:tagg Try.prog 108 = some false:=by kernel_rfl
theorem tc108:Try.prog.cellsOf 108 = 1:=by kernel_rfl
theorem tB108:Try.prog.bytesOf 108 = 1:=by kernel_rfl
theorem ti108:(Try.prog.info? 108).isSome = true:=by kernel_rfl
theorem tz108:tzero Try.prog 108 = some (.int .u8 0):=by kernel_rfl
theorem ts110:tsz Try.prog 110 = 1:=by kernel_rfl
theorem tb110:tby Try.prog 110 = 8:=by kernel_rfl
theorem ta110:tagg Try.prog 110 = some false:=by kernel_rfl
theorem tc110:Try.prog.cellsOf 110 = 1:=by kernel_rfl
theorem tB110:Try.prog.bytesOf 110 = 8:=by kernel_rfl
theorem ti110:(Try.prog.info? 110).isSome = true:=by kernel_rfl
theorem tz110:tzero Try.prog 110 = some (.pointer none):=by kernel_rfl
theorem ts111:tsz Try.prog 111 = 1:=by kernel_rfl
theorem tb111:tby Try.prog 111 = 4:=by kernel_rfl
theorem ta111:tagg Try.prog 111 = some false:=by kernel_rfl
theorem tc111:Try.prog.cellsOf 111 = 1:=by kernel_rfl
theorem tB111:Try.prog.bytesOf 111 = 4:=by kernel_rfl
theorem ti111:(Try.prog.info? 111).isSome = true:=by kernel_rfl
theorem tz111:tzero Try.prog 111 = some (.int .i32 0):=by kernel_rfl
theorem ts112:tsz Try.prog 112 = 1:=by kernel_rfl
theorem tb112:tby Try.prog 112 = 4:=by kernel_rfl
theorem ta112:tagg Try.prog 112 = some false:=by kernel_rfl
theorem tc112:Try.prog.cellsOf 112 = 1:=by kernel_rfl
theorem tB112:Try.prog.bytesOf 112 = 4:=by kernel_rfl
theorem ti112:(Try.prog.info? 112).isSome = true:=by kernel_rfl
theorem tz112:tzero Try.prog 112 = some (.int .i32 0):=by kernel_rfl
theorem ts113:tsz Try.prog 113 = 11:=by kernel_rfl
theorem tb113:tby Try.prog 113 = 48:=by kernel_rfl
theorem ta113:tagg Try.prog 113 = some true:=by kernel_rfl
theorem tc113:Try.prog.cellsOf 113 = 11:=by kernel_rfl
theorem tB113:Try.prog.bytesOf 113 = 48:=by kernel_rfl
theorem ti113:(Try.prog.info? 113).isSome = true:=by kernel_rfl
theorem tf113_0:tfield Try.prog 113 0 = some (0,12):=by kernel_rfl
theorem tf113_1:tfield Try.prog 113 1 = some (1,12):=by kernel_rfl
theorem tf113_2:tfield Try.prog 113 2 = some (2,106):=by kernel_rfl
theorem tf113_3:tfield Try.prog 113 3 = some (3,107):=by kernel_rfl
theorem tf113_4:tfield Try.prog 113 4 = some (4,5):=by kernel_rfl
theorem tf113_5:tfield Try.prog 113 5 = some (5,5):=by kernel_rfl
theorem tf113_6:tfield Try.prog 113 6 = some (6,108):=by kernel_rfl
theorem tf113_7:tfield Try.prog 113 7 = some (7,109):=by kernel_rfl
theorem tf113_8:tfield Try.prog 113 8 = some (8,110):=by kernel_rfl
theorem tf113_9:tfield Try.prog 113 9 = some (9,111):=by kernel_rfl
theorem tf113_10:tfield Try.prog 113 10 = some (10,112):=by kernel_rfl
theorem ts114:tsz Try.prog 114 = 11:=by kernel_rfl
theorem tb114:tby Try.prog 114 = 48:=by kernel_rfl
theorem ta114:tagg Try.prog 114 = some true:=by kernel_rfl
theorem tc114:Try.prog.cellsOf 114 = 11:=by kernel_rfl
theorem tB114:Try.prog.bytesOf 114 = 48:=by kernel_rfl
theorem ti114:(Try.prog.info? 114).isSome = true:=by kernel_rfl
theorem tf114_0:tfield Try.prog 114 0 = some (0,12):=by kernel_rfl
theorem tf114_1:tfield Try.prog 114 1 = some (1,12):=by kernel_rfl
theorem tf114_2:tfield Try.prog 114 2 = some (2,106):=by kernel_rfl
theorem tf114_3:tfield Try.prog 114 3 = some (3,107):=by kernel_rfl
theorem tf114_4:tfield Try.prog 114 4 = some (4,5):=by kernel_rfl
theorem tf114_5:tfield Try.prog 114 5 = some (5,5):=by kernel_rfl
theorem tf114_6:tfield Try.prog 114 6 = some (6,108):=by kernel_rfl
theorem tf114_7:tfield Try.prog 114 7 = some (7,109):=by kernel_rfl
theorem tf114_8:tfield Try.prog 114 8 = some (8,110):=by kernel_rfl
theorem tf114_9:tfield Try.prog 114 9 = some (9,111):=by kernel_rfl
theorem tf114_10:tfield Try.prog 114 10 = some (10,112):=by kernel_rfl
attribute [simp] ts2 tb2 ta2 tc2 tB2 ti2 tz2 ts3 tb3 ta3 tc3 tB3 ti3 tz3 ts4 tb4 ta4 tc4 tB4 ti4 tz4 ts5 tb5 ta5 tc5 tB5 ti5 tz5 ts6 tb6 ta6 tc6 tB6 ti6 tz6 ts7 tb7 ta7 tc7 tB7 ti7 tf7_0 tf7_1 tf7_2 tf7_3 tz7 ts8 tb8 ta8 tc8 tB8 ti8 tf8_0 tf8_1 tf8_2 tf8_3 tz8 ts9 tb9 ta9 tc9 tB9 ti9 tz9 ts10 tb10 ta10 tc10 tB10 ti10 tz10 ts11 tb11 ta11 tc11 tB11 ti11 tz11 ts12 tb12 ta12 tc12 tB12 ti12 tz12 ts13 tb13 ta13 tc13 tB13 ti13 tf13_0 tf13_1 tz13 ts14 tb14 ta14 tc14 tB14 ti14 tf14_0 tf14_1 tz14 ts15 tb15 ta15 tc15 tB15 ti15 tz15 ts16 tb16 ta16 tc16 tB16 ti16 tz16 ts17 tb17 ta17 tc17 tB17 ti17 tz17 ts18 tb18 ta18 tc18 tB18 ti18 tf18_0 tz18 ts19 tb19 ta19 tc19 tB19 ti19 tf19_0 tz19 ts21 tb21 ta21 tc21 tB21 ti21 tz21 ts22 tb22 ta22 tc22 tB22 ti22 te22 tz22 ts24 tb24 ta24 tc24 tB24 ti24 te24 tz24 ts27 tb27 ta27 tc27 tB27 ti27 te27 tz27 ts35 tb35 ta35 tc35 tB35 ti35 tq35 tf35_0 tf35_1 tz35 ts36 tb36 ta36 tc36 tB36 ti36 tq36 tf36_0 tf36_1 tz36 ts37 tb37 ta37 tc37 tB37 ti37 te37 tz37 ts38 tb38 ta38 tc38 tB38 ti38 tf38_0 tf38_1 tf38_2 tf38_3 tf38_4 tf38_5 tz38 ts39 tb39 ta39 tc39 tB39 ti39 tf39_0 tf39_1 tf39_2 tf39_3 tf39_4 tf39_5 tz39 ts40 tb40 ta40 tc40 tB40 ti40 tf40_0 tf40_1 tz40 ts41 tb41 ta41 tc41 tB41 ti41 tf41_0 tf41_1 tz41 ts44 tb44 ta44 tc44 tB44 ti44 tq44 tf44_0 tf44_1 tz44 ts45 tb45 ta45 tc45 tB45 ti45 tf45_0 tf45_1 tf45_2 tf45_3 tf45_4 tf45_5 tz45 ts46 tb46 ta46 tc46 tB46 ti46 tf46_0 tf46_1 tz46 ts47 tb47 ta47 tc47 tB47 ti47 tf47_0 tf47_1 tz47 ts49 tb49 ta49 tc49 tB49 ti49 te49 tz49 ts56 tb56 ta56 tc56 tB56 ti56 te56 tz56 ts62 tb62 ta62 tc62 tB62 ti62 tf62_0 tf62_1 tf62_2 tz62 ts63 tb63 ta63 tc63 tB63 ti63 tf63_0 tf63_1 tf63_2 tz63 ts91 tb91 ta91 tc91 tB91 ti91 tz91 ts100 tb100 ta100 tc100 tB100 ti100 tf100_0 tf100_1 tf100_2 tf100_3 tz100 ts101 tb101 ta101 tc101 tB101 ti101 tf101_0 tf101_1 tf101_2 tf101_3 tz101 ts103 tb103 ta103 tc103 tB103 ti103 tf103_0 ts104 tb104 ta104 tc104 tB104 ti104 tf104_0 ts106 tb106 ta106 tc106 tB106 ti106 tz106 ts107 tb107 ta107 tc107 tB107 ti107 tz107 ts108 tb108 ta108 tc108 tB108 ti108 tz108 ts110 tb110 ta110 tc110 tB110 ti110 tz110 ts111 tb111 ta111 tc111 tB111 ti111 tz111 ts112 tb112 ta112 tc112 tB112 ti112 tz112 ts113 tb113 ta113 tc113 tB113 ti113 tf113_0 tf113_1 tf113_2 tf113_3 tf113_4 tf113_5 tf113_6 tf113_7 tf113_8 tf113_9 tf113_10 ts114 tb114 ta114 tc114 tB114 ti114 tf114_0 tf114_1 tf114_2 tf114_3 tf114_4 tf114_5 tf114_6 tf114_7 tf114_8 tf114_9 tf114_10
end Go.V
