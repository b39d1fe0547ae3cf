/- Facts on the types of the seat's program, each by reckoning. No conditions. -/
import Derived.Test.YtdelgkhoahmnfaaGreatVh
import Derived.Test.YtdelgkhoahmnfaaGreatProg
set_option linter.all false
namespace Go.V
open Go.Proofs
set_option maxRecDepth 10000
theorem h0:tsz Tryz.prog nilE = 0:=by kernel_rfl
theorem hm:Tryz.prog.follows .mixedOrders = true:=by kernel_rfl
theorem ts2:tsz Tryz.prog 2 = 1:=by kernel_rfl
theorem tb2:tby Tryz.prog 2 = 8:=by kernel_rfl
theorem ta2:tagg Tryz.prog 2 = some false:=by kernel_rfl
theorem tc2:Tryz.prog.cellsOf 2 = 1:=by kernel_rfl
theorem tB2:Tryz.prog.bytesOf 2 = 8:=by kernel_rfl
theorem ti2:(Tryz.prog.info? 2).isSome = true:=by kernel_rfl
theorem tz2:tzero Tryz.prog 2 = some (.int .i64 0):=by kernel_rfl
theorem ts3:tsz Tryz.prog 3 = 1:=by kernel_rfl
theorem tb3:tby Tryz.prog 3 = 8:=by kernel_rfl
theorem ta3:tagg Tryz.prog 3 = some false:=by kernel_rfl
theorem tc3:Tryz.prog.cellsOf 3 = 1:=by kernel_rfl
theorem tB3:Tryz.prog.bytesOf 3 = 8:=by kernel_rfl
theorem ti3:(Tryz.prog.info? 3).isSome = true:=by kernel_rfl
theorem tz3:tzero Tryz.prog 3 = some (.int .i64 0):=by kernel_rfl
theorem ts4:tsz Tryz.prog 4 = 1:=by kernel_rfl
theorem tb4:tby Tryz.prog 4 = 1:=by kernel_rfl
theorem ta4:tagg Tryz.prog 4 = some false:=by kernel_rfl
theorem tc4:Tryz.prog.cellsOf 4 = 1:=by kernel_rfl
theorem tB4:Tryz.prog.bytesOf 4 = 1:=by kernel_rfl
theorem ti4:(Tryz.prog.info? 4).isSome = true:=by kernel_rfl
theorem tz4:tzero Tryz.prog 4 = some (.bool false):=by kernel_rfl
theorem ts5:tsz Tryz.prog 5 = 1:=by kernel_rfl
theorem tb5:tby Tryz.prog 5 = 1:=by kernel_rfl
theorem ta5:tagg Tryz.prog 5 = some false:=by kernel_rfl
theorem tc5:Tryz.prog.cellsOf 5 = 1:=by kernel_rfl
theorem tB5:Tryz.prog.bytesOf 5 = 1:=by kernel_rfl
theorem ti5:(Tryz.prog.info? 5).isSome = true:=by kernel_rfl
theorem tz5:tzero Tryz.prog 5 = some (.int .u8 0):=by kernel_rfl
theorem ts6:tsz Tryz.prog 6 = 1:=by kernel_rfl
theorem tb6:tby Tryz.prog 6 = 1:=by kernel_rfl
theorem ta6:tagg Tryz.prog 6 = some false:=by kernel_rfl
theorem tc6:Tryz.prog.cellsOf 6 = 1:=by kernel_rfl
theorem tB6:Tryz.prog.bytesOf 6 = 1:=by kernel_rfl
theorem ti6:(Tryz.prog.info? 6).isSome = true:=by kernel_rfl
theorem tz6:tzero Tryz.prog 6 = some (.int .u8 0):=by kernel_rfl
theorem ts7:tsz Tryz.prog 7 = 4:=by kernel_rfl
theorem tb7:tby Tryz.prog 7 = 24:=by kernel_rfl
theorem ta7:tagg Tryz.prog 7 = some true:=by kernel_rfl
theorem tc7:Tryz.prog.cellsOf 7 = 4:=by kernel_rfl
theorem tB7:Tryz.prog.bytesOf 7 = 24:=by kernel_rfl
theorem ti7:(Tryz.prog.info? 7).isSome = true:=by kernel_rfl
theorem tf7_0:tfield Tryz.prog 7 0 = some (0,2):=by kernel_rfl
theorem tf7_1:tfield Tryz.prog 7 1 = some (1,3):=by kernel_rfl
theorem tf7_2:tfield Tryz.prog 7 2 = some (2,4):=by kernel_rfl
theorem tf7_3:tfield Tryz.prog 7 3 = some (3,6):=by kernel_rfl
theorem tz7:tzero Tryz.prog 7 = some (.agg #[.int .i64 0,.int .i64 0,.bool false,.int .u8 0]):=by kernel_rfl
theorem ts8:tsz Tryz.prog 8 = 4:=by kernel_rfl
theorem tb8:tby Tryz.prog 8 = 24:=by kernel_rfl
theorem ta8:tagg Tryz.prog 8 = some true:=by kernel_rfl
theorem tc8:Tryz.prog.cellsOf 8 = 4:=by kernel_rfl
theorem tB8:Tryz.prog.bytesOf 8 = 24:=by kernel_rfl
theorem ti8:(Tryz.prog.info? 8).isSome = true:=by kernel_rfl
theorem tf8_0:tfield Tryz.prog 8 0 = some (0,2):=by kernel_rfl
theorem tf8_1:tfield Tryz.prog 8 1 = some (1,3):=by kernel_rfl
theorem tf8_2:tfield Tryz.prog 8 2 = some (2,4):=by kernel_rfl
theorem tf8_3:tfield Tryz.prog 8 3 = some (3,6):=by kernel_rfl
theorem tz8:tzero Tryz.prog 8 = some (.agg #[.int .i64 0,.int .i64 0,.bool false,.int .u8 0]):=by kernel_rfl
theorem ts9:tsz Tryz.prog 9 = 1:=by kernel_rfl
theorem tb9:tby Tryz.prog 9 = 16:=by kernel_rfl
theorem ta9:tagg Tryz.prog 9 = some false:=by kernel_rfl
theorem tc9:Tryz.prog.cellsOf 9 = 1:=by kernel_rfl
theorem tB9:Tryz.prog.bytesOf 9 = 16:=by kernel_rfl
theorem ti9:(Tryz.prog.info? 9).isSome = true:=by kernel_rfl
theorem tz9:tzero Tryz.prog 9 = some (.string ByteArray.empty):=by kernel_rfl
theorem ts10:tsz Tryz.prog 10 = 1:=by kernel_rfl
theorem tb10:tby Tryz.prog 10 = 16:=by kernel_rfl
theorem ta10:tagg Tryz.prog 10 = some false:=by kernel_rfl
theorem tc10:Tryz.prog.cellsOf 10 = 1:=by kernel_rfl
theorem tB10:Tryz.prog.bytesOf 10 = 16:=by kernel_rfl
theorem ti10:(Tryz.prog.info? 10).isSome = true:=by kernel_rfl
theorem tz10:tzero Tryz.prog 10 = some (.string ByteArray.empty):=by kernel_rfl
theorem ts11:tsz Tryz.prog 11 = 1:=by kernel_rfl
theorem tb11:tby Tryz.prog 11 = 16:=by kernel_rfl
theorem ta11:tagg Tryz.prog 11 = some false:=by kernel_rfl
theorem tc11:Tryz.prog.cellsOf 11 = 1:=by kernel_rfl
theorem tB11:Tryz.prog.bytesOf 11 = 16:=by kernel_rfl
theorem ti11:(Tryz.prog.info? 11).isSome = true:=by kernel_rfl
theorem tz11:tzero Tryz.prog 11 = some (.string ByteArray.empty):=by kernel_rfl
theorem ts12:tsz Tryz.prog 12 = 1:=by kernel_rfl
theorem tb12:tby Tryz.prog 12 = 8:=by kernel_rfl
theorem ta12:tagg Tryz.prog 12 = some false:=by kernel_rfl
theorem tc12:Tryz.prog.cellsOf 12 = 1:=by kernel_rfl
theorem tB12:Tryz.prog.bytesOf 12 = 8:=by kernel_rfl
theorem ti12:(Tryz.prog.info? 12).isSome = true:=by kernel_rfl
theorem tz12:tzero Tryz.prog 12 = some (.int .u64 0):=by kernel_rfl
theorem ts13:tsz Tryz.prog 13 = 2:=by kernel_rfl
theorem tb13:tby Tryz.prog 13 = 24:=by kernel_rfl
theorem ta13:tagg Tryz.prog 13 = some true:=by kernel_rfl
theorem tc13:Tryz.prog.cellsOf 13 = 2:=by kernel_rfl
theorem tB13:Tryz.prog.bytesOf 13 = 24:=by kernel_rfl
theorem ti13:(Tryz.prog.info? 13).isSome = true:=by kernel_rfl
theorem tf13_0:tfield Tryz.prog 13 0 = some (0,9):=by kernel_rfl
theorem tf13_1:tfield Tryz.prog 13 1 = some (1,12):=by kernel_rfl
theorem tz13:tzero Tryz.prog 13 = some (.agg #[.string ByteArray.empty,.int .u64 0]):=by kernel_rfl
theorem ts14:tsz Tryz.prog 14 = 2:=by kernel_rfl
theorem tb14:tby Tryz.prog 14 = 24:=by kernel_rfl
theorem ta14:tagg Tryz.prog 14 = some true:=by kernel_rfl
theorem tc14:Tryz.prog.cellsOf 14 = 2:=by kernel_rfl
theorem tB14:Tryz.prog.bytesOf 14 = 24:=by kernel_rfl
theorem ti14:(Tryz.prog.info? 14).isSome = true:=by kernel_rfl
theorem tf14_0:tfield Tryz.prog 14 0 = some (0,9):=by kernel_rfl
theorem tf14_1:tfield Tryz.prog 14 1 = some (1,12):=by kernel_rfl
theorem tz14:tzero Tryz.prog 14 = some (.agg #[.string ByteArray.empty,.int .u64 0]):=by kernel_rfl
theorem ts15:tsz Tryz.prog 15 = 1:=by kernel_rfl
theorem tb15:tby Tryz.prog 15 = 8:=by kernel_rfl
theorem ta15:tagg Tryz.prog 15 = some false:=by kernel_rfl
theorem tc15:Tryz.prog.cellsOf 15 = 1:=by kernel_rfl
theorem tB15:Tryz.prog.bytesOf 15 = 8:=by kernel_rfl
theorem ti15:(Tryz.prog.info? 15).isSome = true:=by kernel_rfl
theorem tz15:tzero Tryz.prog 15 = some (.pointer none):=by kernel_rfl
theorem ts16:tsz Tryz.prog 16 = 1:=by kernel_rfl
theorem tb16:tby Tryz.prog 16 = 8:=by kernel_rfl
theorem ta16:tagg Tryz.prog 16 = some false:=by kernel_rfl
theorem tc16:Tryz.prog.cellsOf 16 = 1:=by kernel_rfl
theorem tB16:Tryz.prog.bytesOf 16 = 8:=by kernel_rfl
theorem ti16:(Tryz.prog.info? 16).isSome = true:=by kernel_rfl
theorem tz16:tzero Tryz.prog 16 = some (.pointer none):=by kernel_rfl
theorem ts17:tsz Tryz.prog 17 = 1:=by kernel_rfl
theorem tb17:tby Tryz.prog 17 = 8:=by kernel_rfl
theorem ta17:tagg Tryz.prog 17 = some false:=by kernel_rfl
theorem tc17:Tryz.prog.cellsOf 17 = 1:=by kernel_rfl
theorem tB17:Tryz.prog.bytesOf 17 = 8:=by kernel_rfl
theorem ti17:(Tryz.prog.info? 17).isSome = true:=by kernel_rfl
theorem tz17:tzero Tryz.prog 17 = some (.pointer none):=by kernel_rfl
theorem ts18:tsz Tryz.prog 18 = 1:=by kernel_rfl
theorem tb18:tby Tryz.prog 18 = 8:=by kernel_rfl
theorem ta18:tagg Tryz.prog 18 = some true:=by kernel_rfl
theorem tc18:Tryz.prog.cellsOf 18 = 1:=by kernel_rfl
theorem tB18:Tryz.prog.bytesOf 18 = 8:=by kernel_rfl
theorem ti18:(Tryz.prog.info? 18).isSome = true:=by kernel_rfl
theorem tf18_0:tfield Tryz.prog 18 0 = some (0,17):=by kernel_rfl
theorem tz18:tzero Tryz.prog 18 = some (.agg #[.pointer none]):=by kernel_rfl
theorem ts19:tsz Tryz.prog 19 = 1:=by kernel_rfl
theorem tb19:tby Tryz.prog 19 = 8:=by kernel_rfl
theorem ta19:tagg Tryz.prog 19 = some true:=by kernel_rfl
theorem tc19:Tryz.prog.cellsOf 19 = 1:=by kernel_rfl
theorem tB19:Tryz.prog.bytesOf 19 = 8:=by kernel_rfl
theorem ti19:(Tryz.prog.info? 19).isSome = true:=by kernel_rfl
theorem tf19_0:tfield Tryz.prog 19 0 = some (0,17):=by kernel_rfl
theorem tz19:tzero Tryz.prog 19 = some (.agg #[.pointer none]):=by kernel_rfl
theorem ts21:tsz Tryz.prog 21 = 1:=by kernel_rfl
theorem tb21:tby Tryz.prog 21 = 4:=by kernel_rfl
theorem ta21:tagg Tryz.prog 21 = some false:=by kernel_rfl
theorem tc21:Tryz.prog.cellsOf 21 = 1:=by kernel_rfl
theorem tB21:Tryz.prog.bytesOf 21 = 4:=by kernel_rfl
theorem ti21:(Tryz.prog.info? 21).isSome = true:=by kernel_rfl
theorem tz21:tzero Tryz.prog 21 = some (.int .i32 0):=by kernel_rfl
theorem ts22:tsz Tryz.prog 22 = 1:=by kernel_rfl
theorem tb22:tby Tryz.prog 22 = 24:=by kernel_rfl
theorem ta22:tagg Tryz.prog 22 = some false:=by kernel_rfl
theorem tc22:Tryz.prog.cellsOf 22 = 1:=by kernel_rfl
theorem tB22:Tryz.prog.bytesOf 22 = 24:=by kernel_rfl
theorem ti22:(Tryz.prog.info? 22).isSome = true:=by kernel_rfl
theorem te22:telem Tryz.prog 22 = some 148:=by kernel_rfl
theorem tz22:tzero Tryz.prog 22 = some (.slice none 0 0):=by kernel_rfl
theorem ts23:tsz Tryz.prog 23 = 2:=by kernel_rfl
theorem tb23:tby Tryz.prog 23 = 32:=by kernel_rfl
theorem ta23:tagg Tryz.prog 23 = some true:=by kernel_rfl
theorem tc23:Tryz.prog.cellsOf 23 = 2:=by kernel_rfl
theorem tB23:Tryz.prog.bytesOf 23 = 32:=by kernel_rfl
theorem ti23:(Tryz.prog.info? 23).isSome = true:=by kernel_rfl
theorem tf23_0:tfield Tryz.prog 23 0 = some (0,3):=by kernel_rfl
theorem tf23_1:tfield Tryz.prog 23 1 = some (1,22):=by kernel_rfl
theorem tz23:tzero Tryz.prog 23 = some (.agg #[.int .i64 0,.slice none 0 0]):=by kernel_rfl
theorem ts24:tsz Tryz.prog 24 = 2:=by kernel_rfl
theorem tb24:tby Tryz.prog 24 = 32:=by kernel_rfl
theorem ta24:tagg Tryz.prog 24 = some true:=by kernel_rfl
theorem tc24:Tryz.prog.cellsOf 24 = 2:=by kernel_rfl
theorem tB24:Tryz.prog.bytesOf 24 = 32:=by kernel_rfl
theorem ti24:(Tryz.prog.info? 24).isSome = true:=by kernel_rfl
theorem tf24_0:tfield Tryz.prog 24 0 = some (0,3):=by kernel_rfl
theorem tf24_1:tfield Tryz.prog 24 1 = some (1,22):=by kernel_rfl
theorem tz24:tzero Tryz.prog 24 = some (.agg #[.int .i64 0,.slice none 0 0]):=by kernel_rfl
theorem ts26:tsz Tryz.prog 26 = 1:=by kernel_rfl
theorem tb26:tby Tryz.prog 26 = 24:=by kernel_rfl
theorem ta26:tagg Tryz.prog 26 = some false:=by kernel_rfl
theorem tc26:Tryz.prog.cellsOf 26 = 1:=by kernel_rfl
theorem tB26:Tryz.prog.bytesOf 26 = 24:=by kernel_rfl
theorem ti26:(Tryz.prog.info? 26).isSome = true:=by kernel_rfl
theorem te26:telem Tryz.prog 26 = some 81:=by kernel_rfl
theorem tz26:tzero Tryz.prog 26 = some (.slice none 0 0):=by kernel_rfl
theorem ts27:tsz Tryz.prog 27 = 1:=by kernel_rfl
theorem tb27:tby Tryz.prog 27 = 24:=by kernel_rfl
theorem ta27:tagg Tryz.prog 27 = some false:=by kernel_rfl
theorem tc27:Tryz.prog.cellsOf 27 = 1:=by kernel_rfl
theorem tB27:Tryz.prog.bytesOf 27 = 24:=by kernel_rfl
theorem ti27:(Tryz.prog.info? 27).isSome = true:=by kernel_rfl
theorem te27:telem Tryz.prog 27 = some 77:=by kernel_rfl
theorem tz27:tzero Tryz.prog 27 = some (.slice none 0 0):=by kernel_rfl
theorem ts30:tsz Tryz.prog 30 = 1:=by kernel_rfl
theorem tb30:tby Tryz.prog 30 = 24:=by kernel_rfl
theorem ta30:tagg Tryz.prog 30 = some false:=by kernel_rfl
theorem tc30:Tryz.prog.cellsOf 30 = 1:=by kernel_rfl
theorem tB30:Tryz.prog.bytesOf 30 = 24:=by kernel_rfl
theorem ti30:(Tryz.prog.info? 30).isSome = true:=by kernel_rfl
theorem te30:telem Tryz.prog 30 = some 79:=by kernel_rfl
theorem tz30:tzero Tryz.prog 30 = some (.slice none 0 0):=by kernel_rfl
theorem ts31:tsz Tryz.prog 31 = 2:=by kernel_rfl
theorem tb31:tby Tryz.prog 31 = 32:=by kernel_rfl
theorem ta31:tagg Tryz.prog 31 = some true:=by kernel_rfl
theorem tc31:Tryz.prog.cellsOf 31 = 2:=by kernel_rfl
theorem tB31:Tryz.prog.bytesOf 31 = 32:=by kernel_rfl
theorem ti31:(Tryz.prog.info? 31).isSome = true:=by kernel_rfl
theorem tf31_0:tfield Tryz.prog 31 0 = some (0,3):=by kernel_rfl
theorem tf31_1:tfield Tryz.prog 31 1 = some (1,30):=by kernel_rfl
theorem tz31:tzero Tryz.prog 31 = some (.agg #[.int .i64 0,.slice none 0 0]):=by kernel_rfl
theorem ts32:tsz Tryz.prog 32 = 2:=by kernel_rfl
theorem tb32:tby Tryz.prog 32 = 32:=by kernel_rfl
theorem ta32:tagg Tryz.prog 32 = some true:=by kernel_rfl
theorem tc32:Tryz.prog.cellsOf 32 = 2:=by kernel_rfl
theorem tB32:Tryz.prog.bytesOf 32 = 32:=by kernel_rfl
theorem ti32:(Tryz.prog.info? 32).isSome = true:=by kernel_rfl
theorem tf32_0:tfield Tryz.prog 32 0 = some (0,3):=by kernel_rfl
theorem tf32_1:tfield Tryz.prog 32 1 = some (1,30):=by kernel_rfl
theorem tz32:tzero Tryz.prog 32 = some (.agg #[.int .i64 0,.slice none 0 0]):=by kernel_rfl
theorem ts44:tsz Tryz.prog 44 = 1:=by kernel_rfl
theorem tb44:tby Tryz.prog 44 = 24:=by kernel_rfl
theorem ta44:tagg Tryz.prog 44 = some false:=by kernel_rfl
theorem tc44:Tryz.prog.cellsOf 44 = 1:=by kernel_rfl
theorem tB44:Tryz.prog.bytesOf 44 = 24:=by kernel_rfl
theorem ti44:(Tryz.prog.info? 44).isSome = true:=by kernel_rfl
theorem te44:telem Tryz.prog 44 = some 145:=by kernel_rfl
theorem tz44:tzero Tryz.prog 44 = some (.slice none 0 0):=by kernel_rfl
theorem ts45:tsz Tryz.prog 45 = 1:=by kernel_rfl
theorem tb45:tby Tryz.prog 45 = 24:=by kernel_rfl
theorem ta45:tagg Tryz.prog 45 = some false:=by kernel_rfl
theorem tc45:Tryz.prog.cellsOf 45 = 1:=by kernel_rfl
theorem tB45:Tryz.prog.bytesOf 45 = 24:=by kernel_rfl
theorem ti45:(Tryz.prog.info? 45).isSome = true:=by kernel_rfl
theorem te45:telem Tryz.prog 45 = some 3:=by kernel_rfl
theorem tz45:tzero Tryz.prog 45 = some (.slice none 0 0):=by kernel_rfl
theorem ts46:tsz Tryz.prog 46 = 6:=by kernel_rfl
theorem tb46:tby Tryz.prog 46 = 80:=by kernel_rfl
theorem ta46:tagg Tryz.prog 46 = some true:=by kernel_rfl
theorem tc46:Tryz.prog.cellsOf 46 = 6:=by kernel_rfl
theorem tB46:Tryz.prog.bytesOf 46 = 80:=by kernel_rfl
theorem ti46:(Tryz.prog.info? 46).isSome = true:=by kernel_rfl
theorem tf46_0:tfield Tryz.prog 46 0 = some (0,3):=by kernel_rfl
theorem tf46_1:tfield Tryz.prog 46 1 = some (1,45):=by kernel_rfl
theorem tf46_2:tfield Tryz.prog 46 2 = some (2,3):=by kernel_rfl
theorem tf46_3:tfield Tryz.prog 46 3 = some (3,3):=by kernel_rfl
theorem tf46_4:tfield Tryz.prog 46 4 = some (4,3):=by kernel_rfl
theorem tf46_5:tfield Tryz.prog 46 5 = some (5,45):=by kernel_rfl
theorem tz46:tzero Tryz.prog 46 = some (.agg #[.int .i64 0,.slice none 0 0,.int .i64 0,.int .i64 0,.int .i64 0,.slice none 0 0]):=by kernel_rfl
theorem ts47:tsz Tryz.prog 47 = 6:=by kernel_rfl
theorem tb47:tby Tryz.prog 47 = 80:=by kernel_rfl
theorem ta47:tagg Tryz.prog 47 = some true:=by kernel_rfl
theorem tc47:Tryz.prog.cellsOf 47 = 6:=by kernel_rfl
theorem tB47:Tryz.prog.bytesOf 47 = 80:=by kernel_rfl
theorem ti47:(Tryz.prog.info? 47).isSome = true:=by kernel_rfl
theorem tf47_0:tfield Tryz.prog 47 0 = some (0,3):=by kernel_rfl
theorem tf47_1:tfield Tryz.prog 47 1 = some (1,45):=by kernel_rfl
theorem tf47_2:tfield Tryz.prog 47 2 = some (2,3):=by kernel_rfl
theorem tf47_3:tfield Tryz.prog 47 3 = some (3,3):=by kernel_rfl
theorem tf47_4:tfield Tryz.prog 47 4 = some (4,3):=by kernel_rfl
theorem tf47_5:tfield Tryz.prog 47 5 = some (5,45):=by kernel_rfl
theorem tz47:tzero Tryz.prog 47 = some (.agg #[.int .i64 0,.slice none 0 0,.int .i64 0,.int .i64 0,.int .i64 0,.slice none 0 0]):=by kernel_rfl
theorem ts48:tsz Tryz.prog 48 = 8:=by kernel_rfl
theorem tb48:tby Tryz.prog 48 = 128:=by kernel_rfl
theorem ta48:tagg Tryz.prog 48 = some true:=by kernel_rfl
theorem tc48:Tryz.prog.cellsOf 48 = 8:=by kernel_rfl
theorem tB48:Tryz.prog.bytesOf 48 = 128:=by kernel_rfl
theorem ti48:(Tryz.prog.info? 48).isSome = true:=by kernel_rfl
theorem tf48_0:tfield Tryz.prog 48 0 = some (0,44):=by kernel_rfl
theorem tf48_1:tfield Tryz.prog 48 1 = some (1,47):=by kernel_rfl
theorem tf48_2:tfield Tryz.prog 48 2 = some (7,44):=by kernel_rfl
theorem tz48:tzero Tryz.prog 48 = some (.agg #[.slice none 0 0,.int .i64 0,.slice none 0 0,.int .i64 0,.int .i64 0,.int .i64 0,.slice none 0 0,.slice none 0 0]):=by kernel_rfl
theorem ts49:tsz Tryz.prog 49 = 8:=by kernel_rfl
theorem tb49:tby Tryz.prog 49 = 128:=by kernel_rfl
theorem ta49:tagg Tryz.prog 49 = some true:=by kernel_rfl
theorem tc49:Tryz.prog.cellsOf 49 = 8:=by kernel_rfl
theorem tB49:Tryz.prog.bytesOf 49 = 128:=by kernel_rfl
theorem ti49:(Tryz.prog.info? 49).isSome = true:=by kernel_rfl
theorem tf49_0:tfield Tryz.prog 49 0 = some (0,44):=by kernel_rfl
theorem tf49_1:tfield Tryz.prog 49 1 = some (1,47):=by kernel_rfl
theorem tf49_2:tfield Tryz.prog 49 2 = some (7,44):=by kernel_rfl
theorem tz49:tzero Tryz.prog 49 = some (.agg #[.slice none 0 0,.int .i64 0,.slice none 0 0,.int .i64 0,.int .i64 0,.int .i64 0,.slice none 0 0,.slice none 0 0]):=by kernel_rfl
theorem ts52:tsz Tryz.prog 52 = 6:=by kernel_rfl
theorem tb52:tby Tryz.prog 52 = 80:=by kernel_rfl
theorem ta52:tagg Tryz.prog 52 = some true:=by kernel_rfl
theorem tc52:Tryz.prog.cellsOf 52 = 6:=by kernel_rfl
theorem tB52:Tryz.prog.bytesOf 52 = 80:=by kernel_rfl
theorem ti52:(Tryz.prog.info? 52).isSome = true:=by kernel_rfl
theorem tf52_0:tfield Tryz.prog 52 0 = some (0,3):=by kernel_rfl
theorem tf52_1:tfield Tryz.prog 52 1 = some (1,45):=by kernel_rfl
theorem tf52_2:tfield Tryz.prog 52 2 = some (2,3):=by kernel_rfl
theorem tf52_3:tfield Tryz.prog 52 3 = some (3,3):=by kernel_rfl
theorem tf52_4:tfield Tryz.prog 52 4 = some (4,3):=by kernel_rfl
theorem tf52_5:tfield Tryz.prog 52 5 = some (5,45):=by kernel_rfl
theorem tz52:tzero Tryz.prog 52 = some (.agg #[.int .i64 0,.slice none 0 0,.int .i64 0,.int .i64 0,.int .i64 0,.slice none 0 0]):=by kernel_rfl
theorem ts53:tsz Tryz.prog 53 = 8:=by kernel_rfl
theorem tb53:tby Tryz.prog 53 = 128:=by kernel_rfl
theorem ta53:tagg Tryz.prog 53 = some true:=by kernel_rfl
theorem tc53:Tryz.prog.cellsOf 53 = 8:=by kernel_rfl
theorem tB53:Tryz.prog.bytesOf 53 = 128:=by kernel_rfl
theorem ti53:(Tryz.prog.info? 53).isSome = true:=by kernel_rfl
theorem tf53_0:tfield Tryz.prog 53 0 = some (0,27):=by kernel_rfl
theorem tf53_1:tfield Tryz.prog 53 1 = some (1,52):=by kernel_rfl
theorem tf53_2:tfield Tryz.prog 53 2 = some (7,27):=by kernel_rfl
theorem tz53:tzero Tryz.prog 53 = some (.agg #[.slice none 0 0,.int .i64 0,.slice none 0 0,.int .i64 0,.int .i64 0,.int .i64 0,.slice none 0 0,.slice none 0 0]):=by kernel_rfl
theorem ts54:tsz Tryz.prog 54 = 8:=by kernel_rfl
theorem tb54:tby Tryz.prog 54 = 128:=by kernel_rfl
theorem ta54:tagg Tryz.prog 54 = some true:=by kernel_rfl
theorem tc54:Tryz.prog.cellsOf 54 = 8:=by kernel_rfl
theorem tB54:Tryz.prog.bytesOf 54 = 128:=by kernel_rfl
theorem ti54:(Tryz.prog.info? 54).isSome = true:=by kernel_rfl
theorem tf54_0:tfield Tryz.prog 54 0 = some (0,27):=by kernel_rfl
theorem tf54_1:tfield Tryz.prog 54 1 = some (1,52):=by kernel_rfl
theorem tf54_2:tfield Tryz.prog 54 2 = some (7,27):=by kernel_rfl
theorem tz54:tzero Tryz.prog 54 = some (.agg #[.slice none 0 0,.int .i64 0,.slice none 0 0,.int .i64 0,.int .i64 0,.int .i64 0,.slice none 0 0,.slice none 0 0]):=by kernel_rfl
theorem ts59:tsz Tryz.prog 59 = 1:=by kernel_rfl
theorem tb59:tby Tryz.prog 59 = 24:=by kernel_rfl
theorem ta59:tagg Tryz.prog 59 = some false:=by kernel_rfl
theorem tc59:Tryz.prog.cellsOf 59 = 1:=by kernel_rfl
theorem tB59:Tryz.prog.bytesOf 59 = 24:=by kernel_rfl
theorem ti59:(Tryz.prog.info? 59).isSome = true:=by kernel_rfl
theorem te59:telem Tryz.prog 59 = some 49:=by kernel_rfl
theorem tz59:tzero Tryz.prog 59 = some (.slice none 0 0):=by kernel_rfl
theorem ts64:tsz Tryz.prog 64 = 1:=by kernel_rfl
theorem tb64:tby Tryz.prog 64 = 24:=by kernel_rfl
theorem ta64:tagg Tryz.prog 64 = some false:=by kernel_rfl
theorem tc64:Tryz.prog.cellsOf 64 = 1:=by kernel_rfl
theorem tB64:Tryz.prog.bytesOf 64 = 24:=by kernel_rfl
theorem ti64:(Tryz.prog.info? 64).isSome = true:=by kernel_rfl
theorem te64:telem Tryz.prog 64 = some 54:=by kernel_rfl
theorem tz64:tzero Tryz.prog 64 = some (.slice none 0 0):=by kernel_rfl
theorem ts71:tsz Tryz.prog 71 = 1:=by kernel_rfl
theorem tb71:tby Tryz.prog 71 = 24:=by kernel_rfl
theorem ta71:tagg Tryz.prog 71 = some false:=by kernel_rfl
theorem tc71:Tryz.prog.cellsOf 71 = 1:=by kernel_rfl
theorem tB71:Tryz.prog.bytesOf 71 = 24:=by kernel_rfl
theorem ti71:(Tryz.prog.info? 71).isSome = true:=by kernel_rfl
theorem te71:telem Tryz.prog 71 = some 5:=by kernel_rfl
theorem tz71:tzero Tryz.prog 71 = some (.slice none 0 0):=by kernel_rfl
theorem ts75:tsz Tryz.prog 75 = 1:=by kernel_rfl
theorem tb75:tby Tryz.prog 75 = 24:=by kernel_rfl
theorem ta75:tagg Tryz.prog 75 = some false:=by kernel_rfl
theorem tc75:Tryz.prog.cellsOf 75 = 1:=by kernel_rfl
theorem tB75:Tryz.prog.bytesOf 75 = 24:=by kernel_rfl
theorem ti75:(Tryz.prog.info? 75).isSome = true:=by kernel_rfl
theorem te75:telem Tryz.prog 75 = some 32:=by kernel_rfl
theorem tz75:tzero Tryz.prog 75 = some (.slice none 0 0):=by kernel_rfl
theorem ts76:tsz Tryz.prog 76 = 2:=by kernel_rfl
theorem tb76:tby Tryz.prog 76 = 16:=by kernel_rfl
theorem ta76:tagg Tryz.prog 76 = some true:=by kernel_rfl
theorem tc76:Tryz.prog.cellsOf 76 = 2:=by kernel_rfl
theorem tB76:Tryz.prog.bytesOf 76 = 16:=by kernel_rfl
theorem ti76:(Tryz.prog.info? 76).isSome = true:=by kernel_rfl
theorem tq76:isPairT Tryz.prog 76 = true:=by kernel_rfl
theorem tf76_0:tfield Tryz.prog 76 0 = some (0,3):=by kernel_rfl
theorem tf76_1:tfield Tryz.prog 76 1 = some (1,3):=by kernel_rfl
theorem tz76:tzero Tryz.prog 76 = some (.agg #[.int .i64 0,.int .i64 0]):=by kernel_rfl
theorem ts77:tsz Tryz.prog 77 = 2:=by kernel_rfl
theorem tb77:tby Tryz.prog 77 = 16:=by kernel_rfl
theorem ta77:tagg Tryz.prog 77 = some true:=by kernel_rfl
theorem tc77:Tryz.prog.cellsOf 77 = 2:=by kernel_rfl
theorem tB77:Tryz.prog.bytesOf 77 = 16:=by kernel_rfl
theorem ti77:(Tryz.prog.info? 77).isSome = true:=by kernel_rfl
theorem tq77:isPairT Tryz.prog 77 = true:=by kernel_rfl
theorem tf77_0:tfield Tryz.prog 77 0 = some (0,3):=by kernel_rfl
theorem tf77_1:tfield Tryz.prog 77 1 = some (1,3):=by kernel_rfl
theorem tz77:tzero Tryz.prog 77 = some (.agg #[.int .i64 0,.int .i64 0]):=by kernel_rfl
theorem ts78:tsz Tryz.prog 78 = 3:=by kernel_rfl
theorem tb78:tby Tryz.prog 78 = 40:=by kernel_rfl
theorem ta78:tagg Tryz.prog 78 = some true:=by kernel_rfl
theorem tc78:Tryz.prog.cellsOf 78 = 3:=by kernel_rfl
theorem tB78:Tryz.prog.bytesOf 78 = 40:=by kernel_rfl
theorem ti78:(Tryz.prog.info? 78).isSome = true:=by kernel_rfl
theorem tf78_0:tfield Tryz.prog 78 0 = some (0,77):=by kernel_rfl
theorem tf78_1:tfield Tryz.prog 78 1 = some (2,26):=by kernel_rfl
theorem tz78:tzero Tryz.prog 78 = some (.agg #[.int .i64 0,.int .i64 0,.slice none 0 0]):=by kernel_rfl
theorem ts79:tsz Tryz.prog 79 = 3:=by kernel_rfl
theorem tb79:tby Tryz.prog 79 = 40:=by kernel_rfl
theorem ta79:tagg Tryz.prog 79 = some true:=by kernel_rfl
theorem tc79:Tryz.prog.cellsOf 79 = 3:=by kernel_rfl
theorem tB79:Tryz.prog.bytesOf 79 = 40:=by kernel_rfl
theorem ti79:(Tryz.prog.info? 79).isSome = true:=by kernel_rfl
theorem tf79_0:tfield Tryz.prog 79 0 = some (0,77):=by kernel_rfl
theorem tf79_1:tfield Tryz.prog 79 1 = some (2,26):=by kernel_rfl
theorem tz79:tzero Tryz.prog 79 = some (.agg #[.int .i64 0,.int .i64 0,.slice none 0 0]):=by kernel_rfl
theorem ts80:tsz Tryz.prog 80 = 7:=by kernel_rfl
theorem tb80:tby Tryz.prog 80 = 88:=by kernel_rfl
theorem ta80:tagg Tryz.prog 80 = some true:=by kernel_rfl
theorem tc80:Tryz.prog.cellsOf 80 = 7:=by kernel_rfl
theorem tB80:Tryz.prog.bytesOf 80 = 88:=by kernel_rfl
theorem ti80:(Tryz.prog.info? 80).isSome = true:=by kernel_rfl
theorem tf80_0:tfield Tryz.prog 80 0 = some (0,3):=by kernel_rfl
theorem tf80_1:tfield Tryz.prog 80 1 = some (1,52):=by kernel_rfl
theorem tz80:tzero Tryz.prog 80 = some (.agg #[.int .i64 0,.int .i64 0,.slice none 0 0,.int .i64 0,.int .i64 0,.int .i64 0,.slice none 0 0]):=by kernel_rfl
theorem ts81:tsz Tryz.prog 81 = 7:=by kernel_rfl
theorem tb81:tby Tryz.prog 81 = 88:=by kernel_rfl
theorem ta81:tagg Tryz.prog 81 = some true:=by kernel_rfl
theorem tc81:Tryz.prog.cellsOf 81 = 7:=by kernel_rfl
theorem tB81:Tryz.prog.bytesOf 81 = 88:=by kernel_rfl
theorem ti81:(Tryz.prog.info? 81).isSome = true:=by kernel_rfl
theorem tf81_0:tfield Tryz.prog 81 0 = some (0,3):=by kernel_rfl
theorem tf81_1:tfield Tryz.prog 81 1 = some (1,52):=by kernel_rfl
theorem tz81:tzero Tryz.prog 81 = some (.agg #[.int .i64 0,.int .i64 0,.slice none 0 0,.int .i64 0,.int .i64 0,.int .i64 0,.slice none 0 0]):=by kernel_rfl
theorem ts86:tsz Tryz.prog 86 = 1:=by kernel_rfl
theorem tb86:tby Tryz.prog 86 = 24:=by kernel_rfl
theorem ta86:tagg Tryz.prog 86 = some false:=by kernel_rfl
theorem tc86:Tryz.prog.cellsOf 86 = 1:=by kernel_rfl
theorem tB86:Tryz.prog.bytesOf 86 = 24:=by kernel_rfl
theorem ti86:(Tryz.prog.info? 86).isSome = true:=by kernel_rfl
theorem te86:telem Tryz.prog 86 = some 90:=by kernel_rfl
theorem tz86:tzero Tryz.prog 86 = some (.slice none 0 0):=by kernel_rfl
theorem ts89:tsz Tryz.prog 89 = 8:=by kernel_rfl
theorem tb89:tby Tryz.prog 89 = 96:=by kernel_rfl
theorem ta89:tagg Tryz.prog 89 = some true:=by kernel_rfl
theorem tc89:Tryz.prog.cellsOf 89 = 8:=by kernel_rfl
theorem tB89:Tryz.prog.bytesOf 89 = 96:=by kernel_rfl
theorem ti89:(Tryz.prog.info? 89).isSome = true:=by kernel_rfl
theorem tf89_0:tfield Tryz.prog 89 0 = some (0,77):=by kernel_rfl
theorem tf89_1:tfield Tryz.prog 89 1 = some (2,52):=by kernel_rfl
theorem tz89:tzero Tryz.prog 89 = some (.agg #[.int .i64 0,.int .i64 0,.int .i64 0,.slice none 0 0,.int .i64 0,.int .i64 0,.int .i64 0,.slice none 0 0]):=by kernel_rfl
theorem ts90:tsz Tryz.prog 90 = 8:=by kernel_rfl
theorem tb90:tby Tryz.prog 90 = 96:=by kernel_rfl
theorem ta90:tagg Tryz.prog 90 = some true:=by kernel_rfl
theorem tc90:Tryz.prog.cellsOf 90 = 8:=by kernel_rfl
theorem tB90:Tryz.prog.bytesOf 90 = 96:=by kernel_rfl
theorem ti90:(Tryz.prog.info? 90).isSome = true:=by kernel_rfl
theorem tf90_0:tfield Tryz.prog 90 0 = some (0,77):=by kernel_rfl
theorem tf90_1:tfield Tryz.prog 90 1 = some (2,52):=by kernel_rfl
theorem tz90:tzero Tryz.prog 90 = some (.agg #[.int .i64 0,.int .i64 0,.int .i64 0,.slice none 0 0,.int .i64 0,.int .i64 0,.int .i64 0,.slice none 0 0]):=by kernel_rfl
theorem ts126:tsz Tryz.prog 126 = 1:=by kernel_rfl
theorem tb126:tby Tryz.prog 126 = 8:=by kernel_rfl
theorem ta126:tagg Tryz.prog 126 = some false:=by kernel_rfl
theorem tc126:Tryz.prog.cellsOf 126 = 1:=by kernel_rfl
theorem tB126:Tryz.prog.bytesOf 126 = 8:=by kernel_rfl
theorem ti126:(Tryz.prog.info? 126).isSome = true:=by kernel_rfl
theorem tz126:tzero Tryz.prog 126 = some (.pointer none):=by kernel_rfl
theorem ts127:tsz Tryz.prog 127 = 1:=by kernel_rfl
theorem tb127:tby Tryz.prog 127 = 8:=by kernel_rfl
theorem ta127:tagg Tryz.prog 127 = some false:=by kernel_rfl
theorem tc127:Tryz.prog.cellsOf 127 = 1:=by kernel_rfl
theorem tB127:Tryz.prog.bytesOf 127 = 8:=by kernel_rfl
theorem ti127:(Tryz.prog.info? 127).isSome = true:=by kernel_rfl
theorem tz127:tzero Tryz.prog 127 = some (.int .u64 0):=by kernel_rfl
theorem ts128:tsz Tryz.prog 128 = 3:=by kernel_rfl
theorem tb128:tby Tryz.prog 128 = 40:=by kernel_rfl
theorem ta128:tagg Tryz.prog 128 = some true:=by kernel_rfl
theorem tc128:Tryz.prog.cellsOf 128 = 3:=by kernel_rfl
theorem tB128:Tryz.prog.bytesOf 128 = 40:=by kernel_rfl
theorem ti128:(Tryz.prog.info? 128).isSome = true:=by kernel_rfl
theorem tf128_0:tfield Tryz.prog 128 0 = some (0,71):=by kernel_rfl
theorem tf128_1:tfield Tryz.prog 128 1 = some (1,3):=by kernel_rfl
theorem tf128_2:tfield Tryz.prog 128 2 = some (2,127):=by kernel_rfl
theorem tz128:tzero Tryz.prog 128 = some (.agg #[.slice none 0 0,.int .i64 0,.int .u64 0]):=by kernel_rfl
theorem ts129:tsz Tryz.prog 129 = 3:=by kernel_rfl
theorem tb129:tby Tryz.prog 129 = 40:=by kernel_rfl
theorem ta129:tagg Tryz.prog 129 = some true:=by kernel_rfl
theorem tc129:Tryz.prog.cellsOf 129 = 3:=by kernel_rfl
theorem tB129:Tryz.prog.bytesOf 129 = 40:=by kernel_rfl
theorem ti129:(Tryz.prog.info? 129).isSome = true:=by kernel_rfl
theorem tf129_0:tfield Tryz.prog 129 0 = some (0,71):=by kernel_rfl
theorem tf129_1:tfield Tryz.prog 129 1 = some (1,3):=by kernel_rfl
theorem tf129_2:tfield Tryz.prog 129 2 = some (2,127):=by kernel_rfl
theorem tz129:tzero Tryz.prog 129 = some (.agg #[.slice none 0 0,.int .i64 0,.int .u64 0]):=by kernel_rfl
theorem ts145:tsz Tryz.prog 145 = 2:=by kernel_rfl
theorem tb145:tby Tryz.prog 145 = 16:=by kernel_rfl
theorem ta145:tagg Tryz.prog 145 = some true:=by kernel_rfl
theorem tc145:Tryz.prog.cellsOf 145 = 2:=by kernel_rfl
theorem tB145:Tryz.prog.bytesOf 145 = 16:=by kernel_rfl
theorem ti145:(Tryz.prog.info? 145).isSome = true:=by kernel_rfl
theorem tq145:isPairT Tryz.prog 145 = true:=by kernel_rfl
theorem tf145_0:tfield Tryz.prog 145 0 = some (0,3):=by kernel_rfl
theorem tf145_1:tfield Tryz.prog 145 1 = some (1,3):=by kernel_rfl
theorem tz145:tzero Tryz.prog 145 = some (.agg #[.int .i64 0,.int .i64 0]):=by kernel_rfl
theorem ts146:tsz Tryz.prog 146 = 1:=by kernel_rfl
theorem tb146:tby Tryz.prog 146 = 24:=by kernel_rfl
theorem ta146:tagg Tryz.prog 146 = some false:=by kernel_rfl
theorem tc146:Tryz.prog.cellsOf 146 = 1:=by kernel_rfl
theorem tB146:Tryz.prog.bytesOf 146 = 24:=by kernel_rfl
theorem ti146:(Tryz.prog.info? 146).isSome = true:=by kernel_rfl
theorem te146:telem Tryz.prog 146 = some 195:=by kernel_rfl
theorem tz146:tzero Tryz.prog 146 = some (.slice none 0 0):=by kernel_rfl
theorem ts147:tsz Tryz.prog 147 = 3:=by kernel_rfl
theorem tb147:tby Tryz.prog 147 = 40:=by kernel_rfl
theorem ta147:tagg Tryz.prog 147 = some true:=by kernel_rfl
theorem tc147:Tryz.prog.cellsOf 147 = 3:=by kernel_rfl
theorem tB147:Tryz.prog.bytesOf 147 = 40:=by kernel_rfl
theorem ti147:(Tryz.prog.info? 147).isSome = true:=by kernel_rfl
theorem tf147_0:tfield Tryz.prog 147 0 = some (0,145):=by kernel_rfl
theorem tf147_1:tfield Tryz.prog 147 1 = some (2,146):=by kernel_rfl
theorem tz147:tzero Tryz.prog 147 = some (.agg #[.int .i64 0,.int .i64 0,.slice none 0 0]):=by kernel_rfl
theorem ts148:tsz Tryz.prog 148 = 3:=by kernel_rfl
theorem tb148:tby Tryz.prog 148 = 40:=by kernel_rfl
theorem ta148:tagg Tryz.prog 148 = some true:=by kernel_rfl
theorem tc148:Tryz.prog.cellsOf 148 = 3:=by kernel_rfl
theorem tB148:Tryz.prog.bytesOf 148 = 40:=by kernel_rfl
theorem ti148:(Tryz.prog.info? 148).isSome = true:=by kernel_rfl
theorem tf148_0:tfield Tryz.prog 148 0 = some (0,145):=by kernel_rfl
theorem tf148_1:tfield Tryz.prog 148 1 = some (2,146):=by kernel_rfl
theorem tz148:tzero Tryz.prog 148 = some (.agg #[.int .i64 0,.int .i64 0,.slice none 0 0]):=by kernel_rfl
theorem ts157:tsz Tryz.prog 157 = 1:=by kernel_rfl
theorem tb157:tby Tryz.prog 157 = 8:=by kernel_rfl
theorem ta157:tagg Tryz.prog 157 = some false:=by kernel_rfl
theorem tc157:Tryz.prog.cellsOf 157 = 1:=by kernel_rfl
theorem tB157:Tryz.prog.bytesOf 157 = 8:=by kernel_rfl
theorem ti157:(Tryz.prog.info? 157).isSome = true:=by kernel_rfl
theorem tz157:tzero Tryz.prog 157 = some (.pointer none):=by kernel_rfl
theorem ts187:tsz Tryz.prog 187 = 1:=by kernel_rfl
theorem tb187:tby Tryz.prog 187 = 8:=by kernel_rfl
theorem ta187:tagg Tryz.prog 187 = some false:=by kernel_rfl
theorem tc187:Tryz.prog.cellsOf 187 = 1:=by kernel_rfl
theorem tB187:Tryz.prog.bytesOf 187 = 8:=by kernel_rfl
theorem ti187:(Tryz.prog.info? 187).isSome = true:=by kernel_rfl
theorem tz187:tzero Tryz.prog 187 = some (.int .u64 0):=by kernel_rfl
theorem ts194:tsz Tryz.prog 194 = 7:=by kernel_rfl
theorem tb194:tby Tryz.prog 194 = 88:=by kernel_rfl
theorem ta194:tagg Tryz.prog 194 = some true:=by kernel_rfl
theorem tc194:Tryz.prog.cellsOf 194 = 7:=by kernel_rfl
theorem tB194:Tryz.prog.bytesOf 194 = 88:=by kernel_rfl
theorem ti194:(Tryz.prog.info? 194).isSome = true:=by kernel_rfl
theorem tf194_0:tfield Tryz.prog 194 0 = some (0,3):=by kernel_rfl
theorem tf194_1:tfield Tryz.prog 194 1 = some (1,47):=by kernel_rfl
theorem tz194:tzero Tryz.prog 194 = some (.agg #[.int .i64 0,.int .i64 0,.slice none 0 0,.int .i64 0,.int .i64 0,.int .i64 0,.slice none 0 0]):=by kernel_rfl
theorem ts195:tsz Tryz.prog 195 = 7:=by kernel_rfl
theorem tb195:tby Tryz.prog 195 = 88:=by kernel_rfl
theorem ta195:tagg Tryz.prog 195 = some true:=by kernel_rfl
theorem tc195:Tryz.prog.cellsOf 195 = 7:=by kernel_rfl
theorem tB195:Tryz.prog.bytesOf 195 = 88:=by kernel_rfl
theorem ti195:(Tryz.prog.info? 195).isSome = true:=by kernel_rfl
theorem tf195_0:tfield Tryz.prog 195 0 = some (0,3):=by kernel_rfl
theorem tf195_1:tfield Tryz.prog 195 1 = some (1,47):=by kernel_rfl
theorem tz195:tzero Tryz.prog 195 = some (.agg #[.int .i64 0,.int .i64 0,.slice none 0 0,.int .i64 0,.int .i64 0,.int .i64 0,.slice none 0 0]):=by kernel_rfl
theorem ts200:tsz Tryz.prog 200 = 1:=by kernel_rfl
theorem tb200:tby Tryz.prog 200 = 8:=by kernel_rfl
theorem ta200:tagg Tryz.prog 200 = some false:=by kernel_rfl
theorem tc200:Tryz.prog.cellsOf 200 = 1:=by kernel_rfl
theorem tB200:Tryz.prog.bytesOf 200 = 8:=by kernel_rfl
theorem ti200:(Tryz.prog.info? 200).isSome = true:=by kernel_rfl
theorem tz200:tzero Tryz.prog 200 = some (.int .i64 0):=by kernel_rfl
theorem ts207:tsz Tryz.prog 207 = 1:=by kernel_rfl
theorem tb207:tby Tryz.prog 207 = 4:=by kernel_rfl
theorem ta207:tagg Tryz.prog 207 = some false:=by kernel_rfl
theorem tc207:Tryz.prog.cellsOf 207 = 1:=by kernel_rfl
theorem tB207:Tryz.prog.bytesOf 207 = 4:=by kernel_rfl
theorem ti207:(Tryz.prog.info? 207).isSome = true:=by kernel_rfl
theorem tz207:tzero Tryz.prog 207 = some (.int .u32 0):=by kernel_rfl
theorem ts215:tsz Tryz.prog 215 = 1:=by kernel_rfl
theorem tb215:tby Tryz.prog 215 = 8:=by kernel_rfl
theorem ta215:tagg Tryz.prog 215 = some false:=by kernel_rfl
theorem tc215:Tryz.prog.cellsOf 215 = 1:=by kernel_rfl
theorem tB215:Tryz.prog.bytesOf 215 = 8:=by kernel_rfl
theorem ti215:(Tryz.prog.info? 215).isSome = true:=by kernel_rfl
theorem tz215:tzero Tryz.prog 215 = some (.int .u64 0):=by kernel_rfl
theorem ts219:tsz Tryz.prog 219 = 1:=by kernel_rfl
theorem tb219:tby Tryz.prog 219 = 8:=by kernel_rfl
theorem ta219:tagg Tryz.prog 219 = some false:=by kernel_rfl
theorem tc219:Tryz.prog.cellsOf 219 = 1:=by kernel_rfl
theorem tB219:Tryz.prog.bytesOf 219 = 8:=by kernel_rfl
theorem ti219:(Tryz.prog.info? 219).isSome = true:=by kernel_rfl
theorem tz219:tzero Tryz.prog 219 = some (.pointer none):=by kernel_rfl
theorem ts225:tsz Tryz.prog 225 = 1:=by kernel_rfl
theorem tb225:tby Tryz.prog 225 = 8:=by kernel_rfl
theorem ta225:tagg Tryz.prog 225 = some false:=by kernel_rfl
theorem tc225:Tryz.prog.cellsOf 225 = 1:=by kernel_rfl
theorem tB225:Tryz.prog.bytesOf 225 = 8:=by kernel_rfl
theorem ti225:(Tryz.prog.info? 225).isSome = true:=by kernel_rfl
theorem tz225:tzero Tryz.prog 225 = some (.pointer none):=by kernel_rfl
theorem ts240:tsz Tryz.prog 240 = 4:=by kernel_rfl
theorem tb240:tby Tryz.prog 240 = 40:=by kernel_rfl
theorem ta240:tagg Tryz.prog 240 = some true:=by kernel_rfl
theorem tc240:Tryz.prog.cellsOf 240 = 4:=by kernel_rfl
theorem tB240:Tryz.prog.bytesOf 240 = 40:=by kernel_rfl
theorem ti240:(Tryz.prog.info? 240).isSome = true:=by kernel_rfl
theorem tf240_0:tfield Tryz.prog 240 0 = some (0,17):=by kernel_rfl
theorem tf240_1:tfield Tryz.prog 240 1 = some (1,17):=by kernel_rfl
theorem tf240_2:tfield Tryz.prog 240 2 = some (2,17):=by kernel_rfl
theorem tf240_3:tfield Tryz.prog 240 3 = some (3,9):=by kernel_rfl
theorem tz240:tzero Tryz.prog 240 = some (.agg #[.pointer none,.pointer none,.pointer none,.string ByteArray.empty]):=by kernel_rfl
theorem ts241:tsz Tryz.prog 241 = 4:=by kernel_rfl
theorem tb241:tby Tryz.prog 241 = 40:=by kernel_rfl
theorem ta241:tagg Tryz.prog 241 = some true:=by kernel_rfl
theorem tc241:Tryz.prog.cellsOf 241 = 4:=by kernel_rfl
theorem tB241:Tryz.prog.bytesOf 241 = 40:=by kernel_rfl
theorem ti241:(Tryz.prog.info? 241).isSome = true:=by kernel_rfl
theorem tf241_0:tfield Tryz.prog 241 0 = some (0,17):=by kernel_rfl
theorem tf241_1:tfield Tryz.prog 241 1 = some (1,17):=by kernel_rfl
theorem tf241_2:tfield Tryz.prog 241 2 = some (2,17):=by kernel_rfl
theorem tf241_3:tfield Tryz.prog 241 3 = some (3,9):=by kernel_rfl
theorem tz241:tzero Tryz.prog 241 = some (.agg #[.pointer none,.pointer none,.pointer none,.string ByteArray.empty]):=by kernel_rfl
theorem ts243:tsz Tryz.prog 243 = 0:=by kernel_rfl
theorem tb243:tby Tryz.prog 243 = 0:=by kernel_rfl
theorem ta243:tagg Tryz.prog 243 = some true:=by kernel_rfl
theorem tc243:Tryz.prog.cellsOf 243 = 0:=by kernel_rfl
theorem tB243:Tryz.prog.bytesOf 243 = 0:=by kernel_rfl
theorem ti243:(Tryz.prog.info? 243).isSome = true:=by kernel_rfl
theorem tf243_0:tfield Tryz.prog 243 0 = some (0,242):=by kernel_rfl
theorem ts244:tsz Tryz.prog 244 = 0:=by kernel_rfl
theorem tb244:tby Tryz.prog 244 = 0:=by kernel_rfl
theorem ta244:tagg Tryz.prog 244 = some true:=by kernel_rfl
theorem tc244:Tryz.prog.cellsOf 244 = 0:=by kernel_rfl
theorem tB244:Tryz.prog.bytesOf 244 = 0:=by kernel_rfl
theorem ti244:(Tryz.prog.info? 244).isSome = true:=by kernel_rfl
theorem tf244_0:tfield Tryz.prog 244 0 = some (0,242):=by kernel_rfl
theorem ts245:tsz Tryz.prog 245 = 1:=by kernel_rfl
theorem tb245:tby Tryz.prog 245 = 1:=by kernel_rfl
theorem ta245:tagg Tryz.prog 245 = some false:=by kernel_rfl
theorem tc245:Tryz.prog.cellsOf 245 = 1:=by kernel_rfl
theorem tB245:Tryz.prog.bytesOf 245 = 1:=by kernel_rfl
theorem ti245:(Tryz.prog.info? 245).isSome = true:=by kernel_rfl
theorem tz245:tzero Tryz.prog 245 = some (.int .u8 0):=by kernel_rfl
theorem ts246:tsz Tryz.prog 246 = 1:=by kernel_rfl
theorem tb246:tby Tryz.prog 246 = 1:=by kernel_rfl
theorem ta246:tagg Tryz.prog 246 = some false:=by kernel_rfl
theorem tc246:Tryz.prog.cellsOf 246 = 1:=by kernel_rfl
theorem tB246:Tryz.prog.bytesOf 246 = 1:=by kernel_rfl
theorem ti246:(Tryz.prog.info? 246).isSome = true:=by kernel_rfl
theorem tz246:tzero Tryz.prog 246 = some (.int .u8 0):=by kernel_rfl
theorem ts248:tsz Tryz.prog 248 = 1:=by kernel_rfl
theorem tb248:tby Tryz.prog 248 = 8:=by kernel_rfl
theorem ta248:tagg Tryz.prog 248 = some false:=by kernel_rfl
theorem tc248:Tryz.prog.cellsOf 248 = 1:=by kernel_rfl
theorem tB248:Tryz.prog.bytesOf 248 = 8:=by kernel_rfl
theorem ti248:(Tryz.prog.info? 248).isSome = true:=by kernel_rfl
theorem tz248:tzero Tryz.prog 248 = some (.pointer none):=by kernel_rfl
theorem ts249:tsz Tryz.prog 249 = 1:=by kernel_rfl
theorem tb249:tby Tryz.prog 249 = 4:=by kernel_rfl
theorem ta249:tagg Tryz.prog 249 = some false:=by kernel_rfl
theorem tc249:Tryz.prog.cellsOf 249 = 1:=by kernel_rfl
theorem tB249:Tryz.prog.bytesOf 249 = 4:=by kernel_rfl
theorem ti249:(Tryz.prog.info? 249).isSome = true:=by kernel_rfl
theorem tz249:tzero Tryz.prog 249 = some (.int .i32 0):=by kernel_rfl
theorem ts250:tsz Tryz.prog 250 = 1:=by kernel_rfl
theorem tb250:tby Tryz.prog 250 = 4:=by kernel_rfl
theorem ta250:tagg Tryz.prog 250 = some false:=by kernel_rfl
theorem tc250:Tryz.prog.cellsOf 250 = 1:=by kernel_rfl
theorem tB250:Tryz.prog.bytesOf 250 = 4:=by kernel_rfl
theorem ti250:(Tryz.prog.info? 250).isSome = true:=by kernel_rfl
theorem tz250:tzero Tryz.prog 250 = some (.int .i32 0):=by kernel_rfl
theorem ts251:tsz Tryz.prog 251 = 11:=by kernel_rfl
theorem tb251:tby Tryz.prog 251 = 48:=by kernel_rfl
theorem ta251:tagg Tryz.prog 251 = some true:=by kernel_rfl
theorem tc251:Tryz.prog.cellsOf 251 = 11:=by kernel_rfl
theorem tB251:Tryz.prog.bytesOf 251 = 48:=by kernel_rfl
theorem ti251:(Tryz.prog.info? 251).isSome = true:=by kernel_rfl
theorem tf251_0:tfield Tryz.prog 251 0 = some (0,12):=by kernel_rfl
theorem tf251_1:tfield Tryz.prog 251 1 = some (1,12):=by kernel_rfl
theorem tf251_2:tfield Tryz.prog 251 2 = some (2,207):=by kernel_rfl
theorem tf251_3:tfield Tryz.prog 251 3 = some (3,245):=by kernel_rfl
theorem tf251_4:tfield Tryz.prog 251 4 = some (4,5):=by kernel_rfl
theorem tf251_5:tfield Tryz.prog 251 5 = some (5,5):=by kernel_rfl
theorem tf251_6:tfield Tryz.prog 251 6 = some (6,246):=by kernel_rfl
theorem tf251_7:tfield Tryz.prog 251 7 = some (7,247):=by kernel_rfl
theorem tf251_8:tfield Tryz.prog 251 8 = some (8,248):=by kernel_rfl
theorem tf251_9:tfield Tryz.prog 251 9 = some (9,249):=by kernel_rfl
theorem tf251_10:tfield Tryz.prog 251 10 = some (10,250):=by kernel_rfl
theorem ts252:tsz Tryz.prog 252 = 11:=by kernel_rfl
theorem tb252:tby Tryz.prog 252 = 48:=by kernel_rfl
theorem ta252:tagg Tryz.prog 252 = some true:=by kernel_rfl
theorem tc252:Tryz.prog.cellsOf 252 = 11:=by kernel_rfl
theorem tB252:Tryz.prog.bytesOf 252 = 48:=by kernel_rfl
theorem ti252:(Tryz.prog.info? 252).isSome = true:=by kernel_rfl
theorem tf252_0:tfield Tryz.prog 252 0 = some (0,12):=by kernel_rfl
theorem tf252_1:tfield Tryz.prog 252 1 = some (1,12):=by kernel_rfl
theorem tf252_2:tfield Tryz.prog 252 2 = some (2,207):=by kernel_rfl
theorem tf252_3:tfield Tryz.prog 252 3 = some (3,245):=by kernel_rfl
theorem tf252_4:tfield Tryz.prog 252 4 = some (4,5):=by kernel_rfl
theorem tf252_5:tfield Tryz.prog 252 5 = some (5,5):=by kernel_rfl
theorem tf252_6:tfield Tryz.prog 252 6 = some (6,246):=by kernel_rfl
theorem tf252_7:tfield Tryz.prog 252 7 = some (7,247):=by kernel_rfl
theorem tf252_8:tfield Tryz.prog 252 8 = some (8,248):=by kernel_rfl
theorem tf252_9:tfield Tryz.prog 252 9 = some (9,249):=by kernel_rfl
theorem tf252_10:tfield Tryz.prog 252 10 = some (10,250):=by kernel_rfl
attribute [simp] ts2 tb2 ta2 tc2 tB2 ti2 tz2 ts3 tb3 ta3 tc3 tB3 ti3 tz3 ts4 tb4 ta4 tc4 tB4 ti4 tz4 ts5 tb5 ta5 tc5 tB5 ti5 tz5 ts6 tb6 ta6 tc6 tB6 ti6 tz6 ts7 tb7 ta7 tc7 tB7 ti7 tf7_0 tf7_1 tf7_2 tf7_3 tz7 ts8 tb8 ta8 tc8 tB8 ti8 tf8_0 tf8_1 tf8_2 tf8_3 tz8 ts9 tb9 ta9 tc9 tB9 ti9 tz9 ts10 tb10 ta10 tc10 tB10 ti10 tz10 ts11 tb11 ta11 tc11 tB11 ti11 tz11 ts12 tb12 ta12 tc12 tB12 ti12 tz12 ts13 tb13 ta13 tc13 tB13 ti13 tf13_0 tf13_1 tz13 ts14 tb14 ta14 tc14 tB14 ti14 tf14_0 tf14_1 tz14 ts15 tb15 ta15 tc15 tB15 ti15 tz15 ts16 tb16 ta16 tc16 tB16 ti16 tz16 ts17 tb17 ta17 tc17 tB17 ti17 tz17 ts18 tb18 ta18 tc18 tB18 ti18 tf18_0 tz18 ts19 tb19 ta19 tc19 tB19 ti19 tf19_0 tz19 ts21 tb21 ta21 tc21 tB21 ti21 tz21 ts22 tb22 ta22 tc22 tB22 ti22 te22 tz22 ts23 tb23 ta23 tc23 tB23 ti23 tf23_0 tf23_1 tz23 ts24 tb24 ta24 tc24 tB24 ti24 tf24_0 tf24_1 tz24 ts26 tb26 ta26 tc26 tB26 ti26 te26 tz26 ts27 tb27 ta27 tc27 tB27 ti27 te27 tz27 ts30 tb30 ta30 tc30 tB30 ti30 te30 tz30 ts31 tb31 ta31 tc31 tB31 ti31 tf31_0 tf31_1 tz31 ts32 tb32 ta32 tc32 tB32 ti32 tf32_0 tf32_1 tz32 ts44 tb44 ta44 tc44 tB44 ti44 te44 tz44 ts45 tb45 ta45 tc45 tB45 ti45 te45 tz45 ts46 tb46 ta46 tc46 tB46 ti46 tf46_0 tf46_1 tf46_2 tf46_3 tf46_4 tf46_5 tz46 ts47 tb47 ta47 tc47 tB47 ti47 tf47_0 tf47_1 tf47_2 tf47_3 tf47_4 tf47_5 tz47 ts48 tb48 ta48 tc48 tB48 ti48 tf48_0 tf48_1 tf48_2 tz48 ts49 tb49 ta49 tc49 tB49 ti49 tf49_0 tf49_1 tf49_2 tz49 ts52 tb52 ta52 tc52 tB52 ti52 tf52_0 tf52_1 tf52_2 tf52_3 tf52_4 tf52_5 tz52 ts53 tb53 ta53 tc53 tB53 ti53 tf53_0 tf53_1 tf53_2 tz53 ts54 tb54 ta54 tc54 tB54 ti54 tf54_0 tf54_1 tf54_2 tz54 ts59 tb59 ta59 tc59 tB59 ti59 te59 tz59 ts64 tb64 ta64 tc64 tB64 ti64 te64 tz64 ts71 tb71 ta71 tc71 tB71 ti71 te71 tz71 ts75 tb75 ta75 tc75 tB75 ti75 te75 tz75 ts76 tb76 ta76 tc76 tB76 ti76 tq76 tf76_0 tf76_1 tz76 ts77 tb77 ta77 tc77 tB77 ti77 tq77 tf77_0 tf77_1 tz77 ts78 tb78 ta78 tc78 tB78 ti78 tf78_0 tf78_1 tz78 ts79 tb79 ta79 tc79 tB79 ti79 tf79_0 tf79_1 tz79 ts80 tb80 ta80 tc80 tB80 ti80 tf80_0 tf80_1 tz80 ts81 tb81 ta81 tc81 tB81 ti81 tf81_0 tf81_1 tz81 ts86 tb86 ta86 tc86 tB86 ti86 te86 tz86 ts89 tb89 ta89 tc89 tB89 ti89 tf89_0 tf89_1 tz89 ts90 tb90 ta90 tc90 tB90 ti90 tf90_0 tf90_1 tz90 ts126 tb126 ta126 tc126 tB126 ti126 tz126 ts127 tb127 ta127 tc127 tB127 ti127 tz127 ts128 tb128 ta128 tc128 tB128 ti128 tf128_0 tf128_1 tf128_2 tz128 ts129 tb129 ta129 tc129 tB129 ti129 tf129_0 tf129_1 tf129_2 tz129 ts145 tb145 ta145 tc145 tB145 ti145 tq145 tf145_0 tf145_1 tz145 ts146 tb146 ta146 tc146 tB146 ti146 te146 tz146 ts147 tb147 ta147 tc147 tB147 ti147 tf147_0 tf147_1 tz147 ts148 tb148 ta148 tc148 tB148 ti148 tf148_0 tf148_1 tz148 ts157 tb157 ta157 tc157 tB157 ti157 tz157 ts187 tb187 ta187 tc187 tB187 ti187 tz187 ts194 tb194 ta194 tc194 tB194 ti194 tf194_0 tf194_1 tz194 ts195 tb195 ta195 tc195 tB195 ti195 tf195_0 tf195_1 tz195 ts200 tb200 ta200 tc200 tB200 ti200 tz200 ts207 tb207 ta207 tc207 tB207 ti207 tz207 ts215 tb215 ta215 tc215 tB215 ti215 tz215 ts219 tb219 ta219 tc219 tB219 ti219 tz219 ts225 tb225 ta225 tc225 tB225 ti225 tz225 ts240 tb240 ta240 tc240 tB240 ti240 tf240_0 tf240_1 tf240_2 tf240_3 tz240 ts241 tb241 ta241 tc241 tB241 ti241 tf241_0 tf241_1 tf241_2 tf241_3 tz241 ts243 tb243 ta243 tc243 tB243 ti243 tf243_0 ts244 tb244 ta244 tc244 tB244 ti244 tf244_0 ts245 tb245 ta245 tc245 tB245 ti245 tz245 ts246 tb246 ta246 tc246 tB246 ti246 tz246 ts248 tb248 ta248 tc248 tB248 ti248 tz248 ts249 tb249 ta249 tc249 tB249 ti249 tz249 ts250 tb250 ta250 tc250 tB250 ti250 tz250 ts251 tb251 ta251 tc251 tB251 ti251 tf251_0 tf251_1 tf251_2 tf251_3 tf251_4 tf251_5 tf251_6 tf251_7 tf251_8 tf251_9 tf251_10 ts252 tb252 ta252 tc252 tB252 ti252 tf252_0 tf252_1 tf252_2 tf252_3 tf252_4 tf252_5 tf252_6 tf252_7 tf252_8 tf252_9 tf252_10
end Go.V
