/- Facts on the types of the seat's program, each by reckoning. No conditions. -/
import Derived.Test.YtcmdgenpipojpaaGreatVh
import Derived.Test.YtcmdgenpipojpaaGreatProg
set_option linter.all false
namespace Go.V
open Go.Proofs
set_option maxRecDepth 10000
theorem h0:tsz Tryz.prog nilE = 0:=by kernel_rfl
theorem hm:Tryz.prog.follows .mixedOrders = true:=by kernel_rfl
theorem ts2:tsz Tryz.prog 2 = 1:=by kernel_rfl
theorem tb2:tby Tryz.prog 2 = 8:=by kernel_rfl
theorem ta2:tagg Tryz.prog 2 = some false:=by kernel_rfl
theorem tc2:Tryz.prog.cellsOf 2 = 1:=by kernel_rfl
theorem tB2:Tryz.prog.bytesOf 2 = 8:=by kernel_rfl
theorem ti2:(Tryz.prog.info? 2).isSome = true:=by kernel_rfl
theorem tz2:tzero Tryz.prog 2 = some (.int .i64 0):=by kernel_rfl
theorem ts3:tsz Tryz.prog 3 = 1:=by kernel_rfl
theorem tb3:tby Tryz.prog 3 = 8:=by kernel_rfl
theorem ta3:tagg Tryz.prog 3 = some false:=by kernel_rfl
theorem tc3:Tryz.prog.cellsOf 3 = 1:=by kernel_rfl
theorem tB3:Tryz.prog.bytesOf 3 = 8:=by kernel_rfl
theorem ti3:(Tryz.prog.info? 3).isSome = true:=by kernel_rfl
theorem tz3:tzero Tryz.prog 3 = some (.int .i64 0):=by kernel_rfl
theorem ts4:tsz Tryz.prog 4 = 1:=by kernel_rfl
theorem tb4:tby Tryz.prog 4 = 1:=by kernel_rfl
theorem ta4:tagg Tryz.prog 4 = some false:=by kernel_rfl
theorem tc4:Tryz.prog.cellsOf 4 = 1:=by kernel_rfl
theorem tB4:Tryz.prog.bytesOf 4 = 1:=by kernel_rfl
theorem ti4:(Tryz.prog.info? 4).isSome = true:=by kernel_rfl
theorem tz4:tzero Tryz.prog 4 = some (.bool false):=by kernel_rfl
theorem ts5:tsz Tryz.prog 5 = 1:=by kernel_rfl
theorem tb5:tby Tryz.prog 5 = 1:=by kernel_rfl
theorem ta5:tagg Tryz.prog 5 = some false:=by kernel_rfl
theorem tc5:Tryz.prog.cellsOf 5 = 1:=by kernel_rfl
theorem tB5:Tryz.prog.bytesOf 5 = 1:=by kernel_rfl
theorem ti5:(Tryz.prog.info? 5).isSome = true:=by kernel_rfl
theorem tz5:tzero Tryz.prog 5 = some (.int .u8 0):=by kernel_rfl
theorem ts6:tsz Tryz.prog 6 = 1:=by kernel_rfl
theorem tb6:tby Tryz.prog 6 = 1:=by kernel_rfl
theorem ta6:tagg Tryz.prog 6 = some false:=by kernel_rfl
theorem tc6:Tryz.prog.cellsOf 6 = 1:=by kernel_rfl
theorem tB6:Tryz.prog.bytesOf 6 = 1:=by kernel_rfl
theorem ti6:(Tryz.prog.info? 6).isSome = true:=by kernel_rfl
theorem tz6:tzero Tryz.prog 6 = some (.int .u8 0):=by kernel_rfl
theorem ts7:tsz Tryz.prog 7 = 4:=by kernel_rfl
theorem tb7:tby Tryz.prog 7 = 24:=by kernel_rfl
theorem ta7:tagg Tryz.prog 7 = some true:=by kernel_rfl
theorem tc7:Tryz.prog.cellsOf 7 = 4:=by kernel_rfl
theorem tB7:Tryz.prog.bytesOf 7 = 24:=by kernel_rfl
theorem ti7:(Tryz.prog.info? 7).isSome = true:=by kernel_rfl
theorem tf7_0:tfield Tryz.prog 7 0 = some (0,2):=by kernel_rfl
theorem tf7_1:tfield Tryz.prog 7 1 = some (1,3):=by kernel_rfl
theorem tf7_2:tfield Tryz.prog 7 2 = some (2,4):=by kernel_rfl
theorem tf7_3:tfield Tryz.prog 7 3 = some (3,6):=by kernel_rfl
theorem tz7:tzero Tryz.prog 7 = some (.agg #[.int .i64 0,.int .i64 0,.bool false,.int .u8 0]):=by kernel_rfl
theorem ts8:tsz Tryz.prog 8 = 4:=by kernel_rfl
theorem tb8:tby Tryz.prog 8 = 24:=by kernel_rfl
theorem ta8:tagg Tryz.prog 8 = some true:=by kernel_rfl
theorem tc8:Tryz.prog.cellsOf 8 = 4:=by kernel_rfl
theorem tB8:Tryz.prog.bytesOf 8 = 24:=by kernel_rfl
theorem ti8:(Tryz.prog.info? 8).isSome = true:=by kernel_rfl
theorem tf8_0:tfield Tryz.prog 8 0 = some (0,2):=by kernel_rfl
theorem tf8_1:tfield Tryz.prog 8 1 = some (1,3):=by kernel_rfl
theorem tf8_2:tfield Tryz.prog 8 2 = some (2,4):=by kernel_rfl
theorem tf8_3:tfield Tryz.prog 8 3 = some (3,6):=by kernel_rfl
theorem tz8:tzero Tryz.prog 8 = some (.agg #[.int .i64 0,.int .i64 0,.bool false,.int .u8 0]):=by kernel_rfl
theorem ts9:tsz Tryz.prog 9 = 1:=by kernel_rfl
theorem tb9:tby Tryz.prog 9 = 16:=by kernel_rfl
theorem ta9:tagg Tryz.prog 9 = some false:=by kernel_rfl
theorem tc9:Tryz.prog.cellsOf 9 = 1:=by kernel_rfl
theorem tB9:Tryz.prog.bytesOf 9 = 16:=by kernel_rfl
theorem ti9:(Tryz.prog.info? 9).isSome = true:=by kernel_rfl
theorem tz9:tzero Tryz.prog 9 = some (.string ByteArray.empty):=by kernel_rfl
theorem ts10:tsz Tryz.prog 10 = 1:=by kernel_rfl
theorem tb10:tby Tryz.prog 10 = 16:=by kernel_rfl
theorem ta10:tagg Tryz.prog 10 = some false:=by kernel_rfl
theorem tc10:Tryz.prog.cellsOf 10 = 1:=by kernel_rfl
theorem tB10:Tryz.prog.bytesOf 10 = 16:=by kernel_rfl
theorem ti10:(Tryz.prog.info? 10).isSome = true:=by kernel_rfl
theorem tz10:tzero Tryz.prog 10 = some (.string ByteArray.empty):=by kernel_rfl
theorem ts11:tsz Tryz.prog 11 = 1:=by kernel_rfl
theorem tb11:tby Tryz.prog 11 = 16:=by kernel_rfl
theorem ta11:tagg Tryz.prog 11 = some false:=by kernel_rfl
theorem tc11:Tryz.prog.cellsOf 11 = 1:=by kernel_rfl
theorem tB11:Tryz.prog.bytesOf 11 = 16:=by kernel_rfl
theorem ti11:(Tryz.prog.info? 11).isSome = true:=by kernel_rfl
theorem tz11:tzero Tryz.prog 11 = some (.string ByteArray.empty):=by kernel_rfl
theorem ts12:tsz Tryz.prog 12 = 1:=by kernel_rfl
theorem tb12:tby Tryz.prog 12 = 8:=by kernel_rfl
theorem ta12:tagg Tryz.prog 12 = some false:=by kernel_rfl
theorem tc12:Tryz.prog.cellsOf 12 = 1:=by kernel_rfl
theorem tB12:Tryz.prog.bytesOf 12 = 8:=by kernel_rfl
theorem ti12:(Tryz.prog.info? 12).isSome = true:=by kernel_rfl
theorem tz12:tzero Tryz.prog 12 = some (.int .u64 0):=by kernel_rfl
theorem ts13:tsz Tryz.prog 13 = 2:=by kernel_rfl
theorem tb13:tby Tryz.prog 13 = 24:=by kernel_rfl
theorem ta13:tagg Tryz.prog 13 = some true:=by kernel_rfl
theorem tc13:Tryz.prog.cellsOf 13 = 2:=by kernel_rfl
theorem tB13:Tryz.prog.bytesOf 13 = 24:=by kernel_rfl
theorem ti13:(Tryz.prog.info? 13).isSome = true:=by kernel_rfl
theorem tf13_0:tfield Tryz.prog 13 0 = some (0,9):=by kernel_rfl
theorem tf13_1:tfield Tryz.prog 13 1 = some (1,12):=by kernel_rfl
theorem tz13:tzero Tryz.prog 13 = some (.agg #[.string ByteArray.empty,.int .u64 0]):=by kernel_rfl
theorem ts14:tsz Tryz.prog 14 = 2:=by kernel_rfl
theorem tb14:tby Tryz.prog 14 = 24:=by kernel_rfl
theorem ta14:tagg Tryz.prog 14 = some true:=by kernel_rfl
theorem tc14:Tryz.prog.cellsOf 14 = 2:=by kernel_rfl
theorem tB14:Tryz.prog.bytesOf 14 = 24:=by kernel_rfl
theorem ti14:(Tryz.prog.info? 14).isSome = true:=by kernel_rfl
theorem tf14_0:tfield Tryz.prog 14 0 = some (0,9):=by kernel_rfl
theorem tf14_1:tfield Tryz.prog 14 1 = some (1,12):=by kernel_rfl
theorem tz14:tzero Tryz.prog 14 = some (.agg #[.string ByteArray.empty,.int .u64 0]):=by kernel_rfl
theorem ts15:tsz Tryz.prog 15 = 1:=by kernel_rfl
theorem tb15:tby Tryz.prog 15 = 8:=by kernel_rfl
theorem ta15:tagg Tryz.prog 15 = some false:=by kernel_rfl
theorem tc15:Tryz.prog.cellsOf 15 = 1:=by kernel_rfl
theorem tB15:Tryz.prog.bytesOf 15 = 8:=by kernel_rfl
theorem ti15:(Tryz.prog.info? 15).isSome = true:=by kernel_rfl
theorem tz15:tzero Tryz.prog 15 = some (.pointer none):=by kernel_rfl
theorem ts16:tsz Tryz.prog 16 = 1:=by kernel_rfl
theorem tb16:tby Tryz.prog 16 = 8:=by kernel_rfl
theorem ta16:tagg Tryz.prog 16 = some false:=by kernel_rfl
theorem tc16:Tryz.prog.cellsOf 16 = 1:=by kernel_rfl
theorem tB16:Tryz.prog.bytesOf 16 = 8:=by kernel_rfl
theorem ti16:(Tryz.prog.info? 16).isSome = true:=by kernel_rfl
theorem tz16:tzero Tryz.prog 16 = some (.pointer none):=by kernel_rfl
theorem ts17:tsz Tryz.prog 17 = 1:=by kernel_rfl
theorem tb17:tby Tryz.prog 17 = 8:=by kernel_rfl
theorem ta17:tagg Tryz.prog 17 = some false:=by kernel_rfl
theorem tc17:Tryz.prog.cellsOf 17 = 1:=by kernel_rfl
theorem tB17:Tryz.prog.bytesOf 17 = 8:=by kernel_rfl
theorem ti17:(Tryz.prog.info? 17).isSome = true:=by kernel_rfl
theorem tz17:tzero Tryz.prog 17 = some (.pointer none):=by kernel_rfl
theorem ts18:tsz Tryz.prog 18 = 1:=by kernel_rfl
theorem tb18:tby Tryz.prog 18 = 8:=by kernel_rfl
theorem ta18:tagg Tryz.prog 18 = some true:=by kernel_rfl
theorem tc18:Tryz.prog.cellsOf 18 = 1:=by kernel_rfl
theorem tB18:Tryz.prog.bytesOf 18 = 8:=by kernel_rfl
theorem ti18:(Tryz.prog.info? 18).isSome = true:=by kernel_rfl
theorem tf18_0:tfield Tryz.prog 18 0 = some (0,17):=by kernel_rfl
theorem tz18:tzero Tryz.prog 18 = some (.agg #[.pointer none]):=by kernel_rfl
theorem ts19:tsz Tryz.prog 19 = 1:=by kernel_rfl
theorem tb19:tby Tryz.prog 19 = 8:=by kernel_rfl
theorem ta19:tagg Tryz.prog 19 = some true:=by kernel_rfl
theorem tc19:Tryz.prog.cellsOf 19 = 1:=by kernel_rfl
theorem tB19:Tryz.prog.bytesOf 19 = 8:=by kernel_rfl
theorem ti19:(Tryz.prog.info? 19).isSome = true:=by kernel_rfl
theorem tf19_0:tfield Tryz.prog 19 0 = some (0,17):=by kernel_rfl
theorem tz19:tzero Tryz.prog 19 = some (.agg #[.pointer none]):=by kernel_rfl
theorem ts21:tsz Tryz.prog 21 = 1:=by kernel_rfl
theorem tb21:tby Tryz.prog 21 = 4:=by kernel_rfl
theorem ta21:tagg Tryz.prog 21 = some false:=by kernel_rfl
theorem tc21:Tryz.prog.cellsOf 21 = 1:=by kernel_rfl
theorem tB21:Tryz.prog.bytesOf 21 = 4:=by kernel_rfl
theorem ti21:(Tryz.prog.info? 21).isSome = true:=by kernel_rfl
theorem tz21:tzero Tryz.prog 21 = some (.int .i32 0):=by kernel_rfl
theorem ts22:tsz Tryz.prog 22 = 1:=by kernel_rfl
theorem tb22:tby Tryz.prog 22 = 24:=by kernel_rfl
theorem ta22:tagg Tryz.prog 22 = some false:=by kernel_rfl
theorem tc22:Tryz.prog.cellsOf 22 = 1:=by kernel_rfl
theorem tB22:Tryz.prog.bytesOf 22 = 24:=by kernel_rfl
theorem ti22:(Tryz.prog.info? 22).isSome = true:=by kernel_rfl
theorem te22:telem Tryz.prog 22 = some 5:=by kernel_rfl
theorem tz22:tzero Tryz.prog 22 = some (.slice none 0 0):=by kernel_rfl
theorem ts23:tsz Tryz.prog 23 = 1:=by kernel_rfl
theorem tb23:tby Tryz.prog 23 = 24:=by kernel_rfl
theorem ta23:tagg Tryz.prog 23 = some false:=by kernel_rfl
theorem tc23:Tryz.prog.cellsOf 23 = 1:=by kernel_rfl
theorem tB23:Tryz.prog.bytesOf 23 = 24:=by kernel_rfl
theorem ti23:(Tryz.prog.info? 23).isSome = true:=by kernel_rfl
theorem te23:telem Tryz.prog 23 = some 56:=by kernel_rfl
theorem tz23:tzero Tryz.prog 23 = some (.slice none 0 0):=by kernel_rfl
theorem ts26:tsz Tryz.prog 26 = 1:=by kernel_rfl
theorem tb26:tby Tryz.prog 26 = 24:=by kernel_rfl
theorem ta26:tagg Tryz.prog 26 = some false:=by kernel_rfl
theorem tc26:Tryz.prog.cellsOf 26 = 1:=by kernel_rfl
theorem tB26:Tryz.prog.bytesOf 26 = 24:=by kernel_rfl
theorem ti26:(Tryz.prog.info? 26).isSome = true:=by kernel_rfl
theorem te26:telem Tryz.prog 26 = some 38:=by kernel_rfl
theorem tz26:tzero Tryz.prog 26 = some (.slice none 0 0):=by kernel_rfl
theorem ts33:tsz Tryz.prog 33 = 1:=by kernel_rfl
theorem tb33:tby Tryz.prog 33 = 24:=by kernel_rfl
theorem ta33:tagg Tryz.prog 33 = some false:=by kernel_rfl
theorem tc33:Tryz.prog.cellsOf 33 = 1:=by kernel_rfl
theorem tB33:Tryz.prog.bytesOf 33 = 24:=by kernel_rfl
theorem ti33:(Tryz.prog.info? 33).isSome = true:=by kernel_rfl
theorem te33:telem Tryz.prog 33 = some 54:=by kernel_rfl
theorem tz33:tzero Tryz.prog 33 = some (.slice none 0 0):=by kernel_rfl
theorem ts34:tsz Tryz.prog 34 = 1:=by kernel_rfl
theorem tb34:tby Tryz.prog 34 = 24:=by kernel_rfl
theorem ta34:tagg Tryz.prog 34 = some false:=by kernel_rfl
theorem tc34:Tryz.prog.cellsOf 34 = 1:=by kernel_rfl
theorem tB34:Tryz.prog.bytesOf 34 = 24:=by kernel_rfl
theorem ti34:(Tryz.prog.info? 34).isSome = true:=by kernel_rfl
theorem te34:telem Tryz.prog 34 = some 3:=by kernel_rfl
theorem tz34:tzero Tryz.prog 34 = some (.slice none 0 0):=by kernel_rfl
theorem ts35:tsz Tryz.prog 35 = 6:=by kernel_rfl
theorem tb35:tby Tryz.prog 35 = 80:=by kernel_rfl
theorem ta35:tagg Tryz.prog 35 = some true:=by kernel_rfl
theorem tc35:Tryz.prog.cellsOf 35 = 6:=by kernel_rfl
theorem tB35:Tryz.prog.bytesOf 35 = 80:=by kernel_rfl
theorem ti35:(Tryz.prog.info? 35).isSome = true:=by kernel_rfl
theorem tf35_0:tfield Tryz.prog 35 0 = some (0,3):=by kernel_rfl
theorem tf35_1:tfield Tryz.prog 35 1 = some (1,34):=by kernel_rfl
theorem tf35_2:tfield Tryz.prog 35 2 = some (2,3):=by kernel_rfl
theorem tf35_3:tfield Tryz.prog 35 3 = some (3,3):=by kernel_rfl
theorem tf35_4:tfield Tryz.prog 35 4 = some (4,3):=by kernel_rfl
theorem tf35_5:tfield Tryz.prog 35 5 = some (5,34):=by kernel_rfl
theorem tz35:tzero Tryz.prog 35 = some (.agg #[.int .i64 0,.slice none 0 0,.int .i64 0,.int .i64 0,.int .i64 0,.slice none 0 0]):=by kernel_rfl
theorem ts36:tsz Tryz.prog 36 = 6:=by kernel_rfl
theorem tb36:tby Tryz.prog 36 = 80:=by kernel_rfl
theorem ta36:tagg Tryz.prog 36 = some true:=by kernel_rfl
theorem tc36:Tryz.prog.cellsOf 36 = 6:=by kernel_rfl
theorem tB36:Tryz.prog.bytesOf 36 = 80:=by kernel_rfl
theorem ti36:(Tryz.prog.info? 36).isSome = true:=by kernel_rfl
theorem tf36_0:tfield Tryz.prog 36 0 = some (0,3):=by kernel_rfl
theorem tf36_1:tfield Tryz.prog 36 1 = some (1,34):=by kernel_rfl
theorem tf36_2:tfield Tryz.prog 36 2 = some (2,3):=by kernel_rfl
theorem tf36_3:tfield Tryz.prog 36 3 = some (3,3):=by kernel_rfl
theorem tf36_4:tfield Tryz.prog 36 4 = some (4,3):=by kernel_rfl
theorem tf36_5:tfield Tryz.prog 36 5 = some (5,34):=by kernel_rfl
theorem tz36:tzero Tryz.prog 36 = some (.agg #[.int .i64 0,.slice none 0 0,.int .i64 0,.int .i64 0,.int .i64 0,.slice none 0 0]):=by kernel_rfl
theorem ts37:tsz Tryz.prog 37 = 8:=by kernel_rfl
theorem tb37:tby Tryz.prog 37 = 128:=by kernel_rfl
theorem ta37:tagg Tryz.prog 37 = some true:=by kernel_rfl
theorem tc37:Tryz.prog.cellsOf 37 = 8:=by kernel_rfl
theorem tB37:Tryz.prog.bytesOf 37 = 128:=by kernel_rfl
theorem ti37:(Tryz.prog.info? 37).isSome = true:=by kernel_rfl
theorem tf37_0:tfield Tryz.prog 37 0 = some (0,33):=by kernel_rfl
theorem tf37_1:tfield Tryz.prog 37 1 = some (1,36):=by kernel_rfl
theorem tf37_2:tfield Tryz.prog 37 2 = some (7,33):=by kernel_rfl
theorem tz37:tzero Tryz.prog 37 = some (.agg #[.slice none 0 0,.int .i64 0,.slice none 0 0,.int .i64 0,.int .i64 0,.int .i64 0,.slice none 0 0,.slice none 0 0]):=by kernel_rfl
theorem ts38:tsz Tryz.prog 38 = 8:=by kernel_rfl
theorem tb38:tby Tryz.prog 38 = 128:=by kernel_rfl
theorem ta38:tagg Tryz.prog 38 = some true:=by kernel_rfl
theorem tc38:Tryz.prog.cellsOf 38 = 8:=by kernel_rfl
theorem tB38:Tryz.prog.bytesOf 38 = 128:=by kernel_rfl
theorem ti38:(Tryz.prog.info? 38).isSome = true:=by kernel_rfl
theorem tf38_0:tfield Tryz.prog 38 0 = some (0,33):=by kernel_rfl
theorem tf38_1:tfield Tryz.prog 38 1 = some (1,36):=by kernel_rfl
theorem tf38_2:tfield Tryz.prog 38 2 = some (7,33):=by kernel_rfl
theorem tz38:tzero Tryz.prog 38 = some (.agg #[.slice none 0 0,.int .i64 0,.slice none 0 0,.int .i64 0,.int .i64 0,.int .i64 0,.slice none 0 0,.slice none 0 0]):=by kernel_rfl
theorem ts46:tsz Tryz.prog 46 = 1:=by kernel_rfl
theorem tb46:tby Tryz.prog 46 = 8:=by kernel_rfl
theorem ta46:tagg Tryz.prog 46 = some false:=by kernel_rfl
theorem tc46:Tryz.prog.cellsOf 46 = 1:=by kernel_rfl
theorem tB46:Tryz.prog.bytesOf 46 = 8:=by kernel_rfl
theorem ti46:(Tryz.prog.info? 46).isSome = true:=by kernel_rfl
theorem tz46:tzero Tryz.prog 46 = some (.pointer none):=by kernel_rfl
theorem ts47:tsz Tryz.prog 47 = 1:=by kernel_rfl
theorem tb47:tby Tryz.prog 47 = 8:=by kernel_rfl
theorem ta47:tagg Tryz.prog 47 = some false:=by kernel_rfl
theorem tc47:Tryz.prog.cellsOf 47 = 1:=by kernel_rfl
theorem tB47:Tryz.prog.bytesOf 47 = 8:=by kernel_rfl
theorem ti47:(Tryz.prog.info? 47).isSome = true:=by kernel_rfl
theorem tz47:tzero Tryz.prog 47 = some (.int .u64 0):=by kernel_rfl
theorem ts48:tsz Tryz.prog 48 = 3:=by kernel_rfl
theorem tb48:tby Tryz.prog 48 = 40:=by kernel_rfl
theorem ta48:tagg Tryz.prog 48 = some true:=by kernel_rfl
theorem tc48:Tryz.prog.cellsOf 48 = 3:=by kernel_rfl
theorem tB48:Tryz.prog.bytesOf 48 = 40:=by kernel_rfl
theorem ti48:(Tryz.prog.info? 48).isSome = true:=by kernel_rfl
theorem tf48_0:tfield Tryz.prog 48 0 = some (0,22):=by kernel_rfl
theorem tf48_1:tfield Tryz.prog 48 1 = some (1,3):=by kernel_rfl
theorem tf48_2:tfield Tryz.prog 48 2 = some (2,47):=by kernel_rfl
theorem tz48:tzero Tryz.prog 48 = some (.agg #[.slice none 0 0,.int .i64 0,.int .u64 0]):=by kernel_rfl
theorem ts49:tsz Tryz.prog 49 = 3:=by kernel_rfl
theorem tb49:tby Tryz.prog 49 = 40:=by kernel_rfl
theorem ta49:tagg Tryz.prog 49 = some true:=by kernel_rfl
theorem tc49:Tryz.prog.cellsOf 49 = 3:=by kernel_rfl
theorem tB49:Tryz.prog.bytesOf 49 = 40:=by kernel_rfl
theorem ti49:(Tryz.prog.info? 49).isSome = true:=by kernel_rfl
theorem tf49_0:tfield Tryz.prog 49 0 = some (0,22):=by kernel_rfl
theorem tf49_1:tfield Tryz.prog 49 1 = some (1,3):=by kernel_rfl
theorem tf49_2:tfield Tryz.prog 49 2 = some (2,47):=by kernel_rfl
theorem tz49:tzero Tryz.prog 49 = some (.agg #[.slice none 0 0,.int .i64 0,.int .u64 0]):=by kernel_rfl
theorem ts53:tsz Tryz.prog 53 = 2:=by kernel_rfl
theorem tb53:tby Tryz.prog 53 = 16:=by kernel_rfl
theorem ta53:tagg Tryz.prog 53 = some true:=by kernel_rfl
theorem tc53:Tryz.prog.cellsOf 53 = 2:=by kernel_rfl
theorem tB53:Tryz.prog.bytesOf 53 = 16:=by kernel_rfl
theorem ti53:(Tryz.prog.info? 53).isSome = true:=by kernel_rfl
theorem tq53:isPairT Tryz.prog 53 = true:=by kernel_rfl
theorem tf53_0:tfield Tryz.prog 53 0 = some (0,3):=by kernel_rfl
theorem tf53_1:tfield Tryz.prog 53 1 = some (1,3):=by kernel_rfl
theorem tz53:tzero Tryz.prog 53 = some (.agg #[.int .i64 0,.int .i64 0]):=by kernel_rfl
theorem ts54:tsz Tryz.prog 54 = 2:=by kernel_rfl
theorem tb54:tby Tryz.prog 54 = 16:=by kernel_rfl
theorem ta54:tagg Tryz.prog 54 = some true:=by kernel_rfl
theorem tc54:Tryz.prog.cellsOf 54 = 2:=by kernel_rfl
theorem tB54:Tryz.prog.bytesOf 54 = 16:=by kernel_rfl
theorem ti54:(Tryz.prog.info? 54).isSome = true:=by kernel_rfl
theorem tq54:isPairT Tryz.prog 54 = true:=by kernel_rfl
theorem tf54_0:tfield Tryz.prog 54 0 = some (0,3):=by kernel_rfl
theorem tf54_1:tfield Tryz.prog 54 1 = some (1,3):=by kernel_rfl
theorem tz54:tzero Tryz.prog 54 = some (.agg #[.int .i64 0,.int .i64 0]):=by kernel_rfl
theorem ts55:tsz Tryz.prog 55 = 8:=by kernel_rfl
theorem tb55:tby Tryz.prog 55 = 96:=by kernel_rfl
theorem ta55:tagg Tryz.prog 55 = some true:=by kernel_rfl
theorem tc55:Tryz.prog.cellsOf 55 = 8:=by kernel_rfl
theorem tB55:Tryz.prog.bytesOf 55 = 96:=by kernel_rfl
theorem ti55:(Tryz.prog.info? 55).isSome = true:=by kernel_rfl
theorem tf55_0:tfield Tryz.prog 55 0 = some (0,54):=by kernel_rfl
theorem tf55_1:tfield Tryz.prog 55 1 = some (2,36):=by kernel_rfl
theorem tz55:tzero Tryz.prog 55 = some (.agg #[.int .i64 0,.int .i64 0,.int .i64 0,.slice none 0 0,.int .i64 0,.int .i64 0,.int .i64 0,.slice none 0 0]):=by kernel_rfl
theorem ts56:tsz Tryz.prog 56 = 8:=by kernel_rfl
theorem tb56:tby Tryz.prog 56 = 96:=by kernel_rfl
theorem ta56:tagg Tryz.prog 56 = some true:=by kernel_rfl
theorem tc56:Tryz.prog.cellsOf 56 = 8:=by kernel_rfl
theorem tB56:Tryz.prog.bytesOf 56 = 96:=by kernel_rfl
theorem ti56:(Tryz.prog.info? 56).isSome = true:=by kernel_rfl
theorem tf56_0:tfield Tryz.prog 56 0 = some (0,54):=by kernel_rfl
theorem tf56_1:tfield Tryz.prog 56 1 = some (2,36):=by kernel_rfl
theorem tz56:tzero Tryz.prog 56 = some (.agg #[.int .i64 0,.int .i64 0,.int .i64 0,.slice none 0 0,.int .i64 0,.int .i64 0,.int .i64 0,.slice none 0 0]):=by kernel_rfl
theorem ts62:tsz Tryz.prog 62 = 1:=by kernel_rfl
theorem tb62:tby Tryz.prog 62 = 24:=by kernel_rfl
theorem ta62:tagg Tryz.prog 62 = some false:=by kernel_rfl
theorem tc62:Tryz.prog.cellsOf 62 = 1:=by kernel_rfl
theorem tB62:Tryz.prog.bytesOf 62 = 24:=by kernel_rfl
theorem ti62:(Tryz.prog.info? 62).isSome = true:=by kernel_rfl
theorem te62:telem Tryz.prog 62 = some 34:=by kernel_rfl
theorem tz62:tzero Tryz.prog 62 = some (.slice none 0 0):=by kernel_rfl
theorem ts112:tsz Tryz.prog 112 = 1:=by kernel_rfl
theorem tb112:tby Tryz.prog 112 = 8:=by kernel_rfl
theorem ta112:tagg Tryz.prog 112 = some false:=by kernel_rfl
theorem tc112:Tryz.prog.cellsOf 112 = 1:=by kernel_rfl
theorem tB112:Tryz.prog.bytesOf 112 = 8:=by kernel_rfl
theorem ti112:(Tryz.prog.info? 112).isSome = true:=by kernel_rfl
theorem tz112:tzero Tryz.prog 112 = some (.int .u64 0):=by kernel_rfl
theorem ts119:tsz Tryz.prog 119 = 4:=by kernel_rfl
theorem tb119:tby Tryz.prog 119 = 40:=by kernel_rfl
theorem ta119:tagg Tryz.prog 119 = some true:=by kernel_rfl
theorem tc119:Tryz.prog.cellsOf 119 = 4:=by kernel_rfl
theorem tB119:Tryz.prog.bytesOf 119 = 40:=by kernel_rfl
theorem ti119:(Tryz.prog.info? 119).isSome = true:=by kernel_rfl
theorem tf119_0:tfield Tryz.prog 119 0 = some (0,17):=by kernel_rfl
theorem tf119_1:tfield Tryz.prog 119 1 = some (1,17):=by kernel_rfl
theorem tf119_2:tfield Tryz.prog 119 2 = some (2,17):=by kernel_rfl
theorem tf119_3:tfield Tryz.prog 119 3 = some (3,9):=by kernel_rfl
theorem tz119:tzero Tryz.prog 119 = some (.agg #[.pointer none,.pointer none,.pointer none,.string ByteArray.empty]):=by kernel_rfl
theorem ts120:tsz Tryz.prog 120 = 4:=by kernel_rfl
theorem tb120:tby Tryz.prog 120 = 40:=by kernel_rfl
theorem ta120:tagg Tryz.prog 120 = some true:=by kernel_rfl
theorem tc120:Tryz.prog.cellsOf 120 = 4:=by kernel_rfl
theorem tB120:Tryz.prog.bytesOf 120 = 40:=by kernel_rfl
theorem ti120:(Tryz.prog.info? 120).isSome = true:=by kernel_rfl
theorem tf120_0:tfield Tryz.prog 120 0 = some (0,17):=by kernel_rfl
theorem tf120_1:tfield Tryz.prog 120 1 = some (1,17):=by kernel_rfl
theorem tf120_2:tfield Tryz.prog 120 2 = some (2,17):=by kernel_rfl
theorem tf120_3:tfield Tryz.prog 120 3 = some (3,9):=by kernel_rfl
theorem tz120:tzero Tryz.prog 120 = some (.agg #[.pointer none,.pointer none,.pointer none,.string ByteArray.empty]):=by kernel_rfl
theorem ts122:tsz Tryz.prog 122 = 0:=by kernel_rfl
theorem tb122:tby Tryz.prog 122 = 0:=by kernel_rfl
theorem ta122:tagg Tryz.prog 122 = some true:=by kernel_rfl
theorem tc122:Tryz.prog.cellsOf 122 = 0:=by kernel_rfl
theorem tB122:Tryz.prog.bytesOf 122 = 0:=by kernel_rfl
theorem ti122:(Tryz.prog.info? 122).isSome = true:=by kernel_rfl
theorem tf122_0:tfield Tryz.prog 122 0 = some (0,121):=by kernel_rfl
theorem ts123:tsz Tryz.prog 123 = 0:=by kernel_rfl
theorem tb123:tby Tryz.prog 123 = 0:=by kernel_rfl
theorem ta123:tagg Tryz.prog 123 = some true:=by kernel_rfl
theorem tc123:Tryz.prog.cellsOf 123 = 0:=by kernel_rfl
theorem tB123:Tryz.prog.bytesOf 123 = 0:=by kernel_rfl
theorem ti123:(Tryz.prog.info? 123).isSome = true:=by kernel_rfl
theorem tf123_0:tfield Tryz.prog 123 0 = some (0,121):=by kernel_rfl
theorem ts124:tsz Tryz.prog 124 = 1:=by kernel_rfl
theorem tb124:tby Tryz.prog 124 = 4:=by kernel_rfl
theorem ta124:tagg Tryz.prog 124 = some false:=by kernel_rfl
theorem tc124:Tryz.prog.cellsOf 124 = 1:=by kernel_rfl
theorem tB124:Tryz.prog.bytesOf 124 = 4:=by kernel_rfl
theorem ti124:(Tryz.prog.info? 124).isSome = true:=by kernel_rfl
theorem tz124:tzero Tryz.prog 124 = some (.int .u32 0):=by kernel_rfl
theorem ts125:tsz Tryz.prog 125 = 1:=by kernel_rfl
theorem tb125:tby Tryz.prog 125 = 1:=by kernel_rfl
theorem ta125:tagg Tryz.prog 125 = some false:=by kernel_rfl
theorem tc125:Tryz.prog.cellsOf 125 = 1:=by kernel_rfl
theorem tB125:Tryz.prog.bytesOf 125 = 1:=by kernel_rfl
theorem ti125:(Tryz.prog.info? 125).isSome = true:=by kernel_rfl
theorem tz125:tzero Tryz.prog 125 = some (.int .u8 0):=by kernel_rfl
theorem ts126:tsz Tryz.prog 126 = 1:=by kernel_rfl
theorem tb126:tby Tryz.prog 126 = 1:=by kernel_rfl
theorem ta126:tagg Tryz.prog 126 = some false:=by kernel_rfl
theorem tc126:Tryz.prog.cellsOf 126 = 1:=by kernel_rfl
theorem tB126:Tryz.prog.bytesOf 126 = 1:=by kernel_rfl
theorem ti126:(Tryz.prog.info? 126).isSome = true:=by kernel_rfl
theorem tz126:tzero Tryz.prog 126 = some (.int .u8 0):=by kernel_rfl
theorem ts128:tsz Tryz.prog 128 = 1:=by kernel_rfl
theorem tb128:tby Tryz.prog 128 = 8:=by kernel_rfl
theorem ta128:tagg Tryz.prog 128 = some false:=by kernel_rfl
theorem tc128:Tryz.prog.cellsOf 128 = 1:=by kernel_rfl
theorem tB128:Tryz.prog.bytesOf 128 = 8:=by kernel_rfl
theorem ti128:(Tryz.prog.info? 128).isSome = true:=by kernel_rfl
theorem tz128:tzero Tryz.prog 128 = some (.pointer none):=by kernel_rfl
theorem ts129:tsz Tryz.prog 129 = 1:=by kernel_rfl
theorem tb129:tby Tryz.prog 129 = 4:=by kernel_rfl
theorem ta129:tagg Tryz.prog 129 = some false:=by kernel_rfl
theorem tc129:Tryz.prog.cellsOf 129 = 1:=by kernel_rfl
theorem tB129:Tryz.prog.bytesOf 129 = 4:=by kernel_rfl
theorem ti129:(Tryz.prog.info? 129).isSome = true:=by kernel_rfl
theorem tz129:tzero Tryz.prog 129 = some (.int .i32 0):=by kernel_rfl
theorem ts130:tsz Tryz.prog 130 = 1:=by kernel_rfl
theorem tb130:tby Tryz.prog 130 = 4:=by kernel_rfl
theorem ta130:tagg Tryz.prog 130 = some false:=by kernel_rfl
theorem tc130:Tryz.prog.cellsOf 130 = 1:=by kernel_rfl
theorem tB130:Tryz.prog.bytesOf 130 = 4:=by kernel_rfl
theorem ti130:(Tryz.prog.info? 130).isSome = true:=by kernel_rfl
theorem tz130:tzero Tryz.prog 130 = some (.int .i32 0):=by kernel_rfl
theorem ts131:tsz Tryz.prog 131 = 11:=by kernel_rfl
theorem tb131:tby Tryz.prog 131 = 48:=by kernel_rfl
theorem ta131:tagg Tryz.prog 131 = some true:=by kernel_rfl
theorem tc131:Tryz.prog.cellsOf 131 = 11:=by kernel_rfl
theorem tB131:Tryz.prog.bytesOf 131 = 48:=by kernel_rfl
theorem ti131:(Tryz.prog.info? 131).isSome = true:=by kernel_rfl
theorem tf131_0:tfield Tryz.prog 131 0 = some (0,12):=by kernel_rfl
theorem tf131_1:tfield Tryz.prog 131 1 = some (1,12):=by kernel_rfl
theorem tf131_2:tfield Tryz.prog 131 2 = some (2,124):=by kernel_rfl
theorem tf131_3:tfield Tryz.prog 131 3 = some (3,125):=by kernel_rfl
theorem tf131_4:tfield Tryz.prog 131 4 = some (4,5):=by kernel_rfl
theorem tf131_5:tfield Tryz.prog 131 5 = some (5,5):=by kernel_rfl
theorem tf131_6:tfield Tryz.prog 131 6 = some (6,126):=by kernel_rfl
theorem tf131_7:tfield Tryz.prog 131 7 = some (7,127):=by kernel_rfl
theorem tf131_8:tfield Tryz.prog 131 8 = some (8,128):=by kernel_rfl
theorem tf131_9:tfield Tryz.prog 131 9 = some (9,129):=by kernel_rfl
theorem tf131_10:tfield Tryz.prog 131 10 = some (10,130):=by kernel_rfl
theorem ts132:tsz Tryz.prog 132 = 11:=by kernel_rfl
theorem tb132:tby Tryz.prog 132 = 48:=by kernel_rfl
theorem ta132:tagg Tryz.prog 132 = some true:=by kernel_rfl
theorem tc132:Tryz.prog.cellsOf 132 = 11:=by kernel_rfl
theorem tB132:Tryz.prog.bytesOf 132 = 48:=by kernel_rfl
theorem ti132:(Tryz.prog.info? 132).isSome = true:=by kernel_rfl
theorem tf132_0:tfield Tryz.prog 132 0 = some (0,12):=by kernel_rfl
theorem tf132_1:tfield Tryz.prog 132 1 = some (1,12):=by kernel_rfl
theorem tf132_2:tfield Tryz.prog 132 2 = some (2,124):=by kernel_rfl
theorem tf132_3:tfield Tryz.prog 132 3 = some (3,125):=by kernel_rfl
theorem tf132_4:tfield Tryz.prog 132 4 = some (4,5):=by kernel_rfl
theorem tf132_5:tfield Tryz.prog 132 5 = some (5,5):=by kernel_rfl
theorem tf132_6:tfield Tryz.prog 132 6 = some (6,126):=by kernel_rfl
theorem tf132_7:tfield Tryz.prog 132 7 = some (7,127):=by kernel_rfl
theorem tf132_8:tfield Tryz.prog 132 8 = some (8,128):=by kernel_rfl
theorem tf132_9:tfield Tryz.prog 132 9 = some (9,129):=by kernel_rfl
theorem tf132_10:tfield Tryz.prog 132 10 = some (10,130):=by kernel_rfl
attribute [simp] ts2 tb2 ta2 tc2 tB2 ti2 tz2 ts3 tb3 ta3 tc3 tB3 ti3 tz3 ts4 tb4 ta4 tc4 tB4 ti4 tz4 ts5 tb5 ta5 tc5 tB5 ti5 tz5 ts6 tb6 ta6 tc6 tB6 ti6 tz6 ts7 tb7 ta7 tc7 tB7 ti7 tf7_0 tf7_1 tf7_2 tf7_3 tz7 ts8 tb8 ta8 tc8 tB8 ti8 tf8_0 tf8_1 tf8_2 tf8_3 tz8 ts9 tb9 ta9 tc9 tB9 ti9 tz9 ts10 tb10 ta10 tc10 tB10 ti10 tz10 ts11 tb11 ta11 tc11 tB11 ti11 tz11 ts12 tb12 ta12 tc12 tB12 ti12 tz12 ts13 tb13 ta13 tc13 tB13 ti13 tf13_0 tf13_1 tz13 ts14 tb14 ta14 tc14 tB14 ti14 tf14_0 tf14_1 tz14 ts15 tb15 ta15 tc15 tB15 ti15 tz15 ts16 tb16 ta16 tc16 tB16 ti16 tz16 ts17 tb17 ta17 tc17 tB17 ti17 tz17 ts18 tb18 ta18 tc18 tB18 ti18 tf18_0 tz18 ts19 tb19 ta19 tc19 tB19 ti19 tf19_0 tz19 ts21 tb21 ta21 tc21 tB21 ti21 tz21 ts22 tb22 ta22 tc22 tB22 ti22 te22 tz22 ts23 tb23 ta23 tc23 tB23 ti23 te23 tz23 ts26 tb26 ta26 tc26 tB26 ti26 te26 tz26 ts33 tb33 ta33 tc33 tB33 ti33 te33 tz33 ts34 tb34 ta34 tc34 tB34 ti34 te34 tz34 ts35 tb35 ta35 tc35 tB35 ti35 tf35_0 tf35_1 tf35_2 tf35_3 tf35_4 tf35_5 tz35 ts36 tb36 ta36 tc36 tB36 ti36 tf36_0 tf36_1 tf36_2 tf36_3 tf36_4 tf36_5 tz36 ts37 tb37 ta37 tc37 tB37 ti37 tf37_0 tf37_1 tf37_2 tz37 ts38 tb38 ta38 tc38 tB38 ti38 tf38_0 tf38_1 tf38_2 tz38 ts46 tb46 ta46 tc46 tB46 ti46 tz46 ts47 tb47 ta47 tc47 tB47 ti47 tz47 ts48 tb48 ta48 tc48 tB48 ti48 tf48_0 tf48_1 tf48_2 tz48 ts49 tb49 ta49 tc49 tB49 ti49 tf49_0 tf49_1 tf49_2 tz49 ts53 tb53 ta53 tc53 tB53 ti53 tq53 tf53_0 tf53_1 tz53 ts54 tb54 ta54 tc54 tB54 ti54 tq54 tf54_0 tf54_1 tz54 ts55 tb55 ta55 tc55 tB55 ti55 tf55_0 tf55_1 tz55 ts56 tb56 ta56 tc56 tB56 ti56 tf56_0 tf56_1 tz56 ts62 tb62 ta62 tc62 tB62 ti62 te62 tz62 ts112 tb112 ta112 tc112 tB112 ti112 tz112 ts119 tb119 ta119 tc119 tB119 ti119 tf119_0 tf119_1 tf119_2 tf119_3 tz119 ts120 tb120 ta120 tc120 tB120 ti120 tf120_0 tf120_1 tf120_2 tf120_3 tz120 ts122 tb122 ta122 tc122 tB122 ti122 tf122_0 ts123 tb123 ta123 tc123 tB123 ti123 tf123_0 ts124 tb124 ta124 tc124 tB124 ti124 tz124 ts125 tb125 ta125 tc125 tB125 ti125 tz125 ts126 tb126 ta126 tc126 tB126 ti126 tz126 ts128 tb128 ta128 tc128 tB128 ti128 tz128 ts129 tb129 ta129 tc129 tB129 ti129 tz129 ts130 tb130 ta130 tc130 tB130 ti130 tz130 ts131 tb131 ta131 tc131 tB131 ti131 tf131_0 tf131_1 tf131_2 tf131_3 tf131_4 tf131_5 tf131_6 tf131_7 tf131_8 tf131_9 tf131_10 ts132 tb132 ta132 tc132 tB132 ti132 tf132_0 tf132_1 tf132_2 tf132_3 tf132_4 tf132_5 tf132_6 tf132_7 tf132_8 tf132_9 tf132_10
end Go.V
