/- What the types of this seat are. Written by a program (wip/lay.py). -/
import Derived.Test.YtmcejlhkohbdfaaProg
import Derived.Test.YtmcejlhkohbdfaaAb8
import Derived.KernelRfl
namespace Go.Proofs.Ytmcejlhkohbdfaa
open Go.Ab
theorem follows_mixed : Try.prog.follows .mixedOrders = true := by kernel_rfl
theorem ts_2 : tsize Try.prog 2 = some 1 := by kernel_rfl
theorem tb_2 : tbytes Try.prog 2 = some 8 := by kernel_rfl
theorem tg_2 : tagg Try.prog 2 = some false := by kernel_rfl
theorem tz_2 : zcells Try.prog 2 = some [.int .i64 0] := by kernel_rfl
theorem ts_3 : tsize Try.prog 3 = some 1 := by kernel_rfl
theorem tb_3 : tbytes Try.prog 3 = some 8 := by kernel_rfl
theorem tg_3 : tagg Try.prog 3 = some false := by kernel_rfl
theorem tz_3 : zcells Try.prog 3 = some [.int .i64 0] := by kernel_rfl
theorem ts_4 : tsize Try.prog 4 = some 1 := by kernel_rfl
theorem tb_4 : tbytes Try.prog 4 = some 1 := by kernel_rfl
theorem tg_4 : tagg Try.prog 4 = some false := by kernel_rfl
theorem tz_4 : zcells Try.prog 4 = some [.bool false] := by kernel_rfl
theorem ts_5 : tsize Try.prog 5 = some 1 := by kernel_rfl
theorem tb_5 : tbytes Try.prog 5 = some 1 := by kernel_rfl
theorem tg_5 : tagg Try.prog 5 = some false := by kernel_rfl
theorem tz_5 : zcells Try.prog 5 = some [.int .u8 0] := by kernel_rfl
theorem ts_9 : tsize Try.prog 9 = some 1 := by kernel_rfl
theorem tb_9 : tbytes Try.prog 9 = some 16 := by kernel_rfl
theorem tg_9 : tagg Try.prog 9 = some false := by kernel_rfl
theorem tz_9 : zcells Try.prog 9 = some [.str ⟨#[]⟩] := by kernel_rfl
theorem ts_12 : tsize Try.prog 12 = some 1 := by kernel_rfl
theorem tb_12 : tbytes Try.prog 12 = some 8 := by kernel_rfl
theorem tg_12 : tagg Try.prog 12 = some false := by kernel_rfl
theorem tz_12 : zcells Try.prog 12 = some [.int .u64 0] := by kernel_rfl
theorem ts_13 : tsize Try.prog 13 = some 2 := by kernel_rfl
theorem tb_13 : tbytes Try.prog 13 = some 24 := by kernel_rfl
theorem tg_13 : tagg Try.prog 13 = some true := by kernel_rfl
theorem tz_13 : zcells Try.prog 13 = some [.str ⟨#[]⟩, .int .u64 0] := by kernel_rfl
theorem ts_21 : tsize Try.prog 21 = some 1 := by kernel_rfl
theorem tb_21 : tbytes Try.prog 21 = some 4 := by kernel_rfl
theorem tg_21 : tagg Try.prog 21 = some false := by kernel_rfl
theorem tz_21 : zcells Try.prog 21 = some [.int .i32 0] := by kernel_rfl
theorem ts_22 : tsize Try.prog 22 = some 1 := by kernel_rfl
theorem tb_22 : tbytes Try.prog 22 = some 24 := by kernel_rfl
theorem tg_22 : tagg Try.prog 22 = some false := by kernel_rfl
theorem tz_22 : zcells Try.prog 22 = some [.nilsl] := by kernel_rfl
theorem te_22 : telem Try.prog 22 = some 59 := by kernel_rfl
theorem ts_25 : tsize Try.prog 25 = some 1 := by kernel_rfl
theorem tb_25 : tbytes Try.prog 25 = some 24 := by kernel_rfl
theorem tg_25 : tagg Try.prog 25 = some false := by kernel_rfl
theorem tz_25 : zcells Try.prog 25 = some [.nilsl] := by kernel_rfl
theorem te_25 : telem Try.prog 25 = some 41 := by kernel_rfl
theorem ts_27 : tsize Try.prog 27 = some 1 := by kernel_rfl
theorem tb_27 : tbytes Try.prog 27 = some 24 := by kernel_rfl
theorem tg_27 : tagg Try.prog 27 = some false := by kernel_rfl
theorem tz_27 : zcells Try.prog 27 = some [.nilsl] := by kernel_rfl
theorem te_27 : telem Try.prog 27 = some 25 := by kernel_rfl
theorem ts_34 : tsize Try.prog 34 = some 1 := by kernel_rfl
theorem tb_34 : tbytes Try.prog 34 = some 24 := by kernel_rfl
theorem tg_34 : tagg Try.prog 34 = some false := by kernel_rfl
theorem tz_34 : zcells Try.prog 34 = some [.nilsl] := by kernel_rfl
theorem te_34 : telem Try.prog 34 = some 22 := by kernel_rfl
theorem ts_39 : tsize Try.prog 39 = some 1 := by kernel_rfl
theorem tb_39 : tbytes Try.prog 39 = some 24 := by kernel_rfl
theorem tg_39 : tagg Try.prog 39 = some false := by kernel_rfl
theorem tz_39 : zcells Try.prog 39 = some [.nilsl] := by kernel_rfl
theorem te_39 : telem Try.prog 39 = some 72 := by kernel_rfl
theorem ts_40 : tsize Try.prog 40 = some 3 := by kernel_rfl
theorem tb_40 : tbytes Try.prog 40 = some 40 := by kernel_rfl
theorem tg_40 : tagg Try.prog 40 = some true := by kernel_rfl
theorem tz_40 : zcells Try.prog 40 = some [.int .i64 0, .int .i64 0, .nilsl] := by kernel_rfl
theorem ts_41 : tsize Try.prog 41 = some 3 := by kernel_rfl
theorem tb_41 : tbytes Try.prog 41 = some 40 := by kernel_rfl
theorem tg_41 : tagg Try.prog 41 = some true := by kernel_rfl
theorem tz_41 : zcells Try.prog 41 = some [.int .i64 0, .int .i64 0, .nilsl] := by kernel_rfl
theorem ts_45 : tsize Try.prog 45 = some 1 := by kernel_rfl
theorem tb_45 : tbytes Try.prog 45 = some 24 := by kernel_rfl
theorem tg_45 : tagg Try.prog 45 = some false := by kernel_rfl
theorem tz_45 : zcells Try.prog 45 = some [.nilsl] := by kernel_rfl
theorem te_45 : telem Try.prog 45 = some 69 := by kernel_rfl
theorem ts_46 : tsize Try.prog 46 = some 2 := by kernel_rfl
theorem tb_46 : tbytes Try.prog 46 = some 48 := by kernel_rfl
theorem tg_46 : tagg Try.prog 46 = some true := by kernel_rfl
theorem tz_46 : zcells Try.prog 46 = some [.nilsl, .nilsl] := by kernel_rfl
theorem ts_47 : tsize Try.prog 47 = some 2 := by kernel_rfl
theorem tb_47 : tbytes Try.prog 47 = some 48 := by kernel_rfl
theorem tg_47 : tagg Try.prog 47 = some true := by kernel_rfl
theorem tz_47 : zcells Try.prog 47 = some [.nilsl, .nilsl] := by kernel_rfl
theorem ts_49 : tsize Try.prog 49 = some 1 := by kernel_rfl
theorem tb_49 : tbytes Try.prog 49 = some 24 := by kernel_rfl
theorem tg_49 : tagg Try.prog 49 = some false := by kernel_rfl
theorem tz_49 : zcells Try.prog 49 = some [.nilsl] := by kernel_rfl
theorem te_49 : telem Try.prog 49 = some 71 := by kernel_rfl
theorem ts_50 : tsize Try.prog 50 = some 2 := by kernel_rfl
theorem tb_50 : tbytes Try.prog 50 = some 48 := by kernel_rfl
theorem tg_50 : tagg Try.prog 50 = some true := by kernel_rfl
theorem tz_50 : zcells Try.prog 50 = some [.nilsl, .nilsl] := by kernel_rfl
theorem ts_51 : tsize Try.prog 51 = some 2 := by kernel_rfl
theorem tb_51 : tbytes Try.prog 51 = some 48 := by kernel_rfl
theorem tg_51 : tagg Try.prog 51 = some true := by kernel_rfl
theorem tz_51 : zcells Try.prog 51 = some [.nilsl, .nilsl] := by kernel_rfl
theorem ts_59 : tsize Try.prog 59 = some 3 := by kernel_rfl
theorem tb_59 : tbytes Try.prog 59 = some 40 := by kernel_rfl
theorem tg_59 : tagg Try.prog 59 = some true := by kernel_rfl
theorem tz_59 : zcells Try.prog 59 = some [.int .i64 0, .int .i64 0, .nilsl] := by kernel_rfl
theorem ts_62 : tsize Try.prog 62 = some 1 := by kernel_rfl
theorem tb_62 : tbytes Try.prog 62 = some 24 := by kernel_rfl
theorem tg_62 : tagg Try.prog 62 = some false := by kernel_rfl
theorem tz_62 : zcells Try.prog 62 = some [.nilsl] := by kernel_rfl
theorem te_62 : telem Try.prog 62 = some 3 := by kernel_rfl
theorem ts_66 : tsize Try.prog 66 = some 2 := by kernel_rfl
theorem tb_66 : tbytes Try.prog 66 = some 16 := by kernel_rfl
theorem tg_66 : tagg Try.prog 66 = some true := by kernel_rfl
theorem tz_66 : zcells Try.prog 66 = some [.int .i64 0, .int .i64 0] := by kernel_rfl
theorem ts_67 : tsize Try.prog 67 = some 2 := by kernel_rfl
theorem tb_67 : tbytes Try.prog 67 = some 16 := by kernel_rfl
theorem tg_67 : tagg Try.prog 67 = some true := by kernel_rfl
theorem tz_67 : zcells Try.prog 67 = some [.int .i64 0, .int .i64 0] := by kernel_rfl
theorem tf_67 : flatTs Try.prog 67 = some [3, 3] := by kernel_rfl
theorem ts_68 : tsize Try.prog 68 = some 2 := by kernel_rfl
theorem tb_68 : tbytes Try.prog 68 = some 40 := by kernel_rfl
theorem tg_68 : tagg Try.prog 68 = some true := by kernel_rfl
theorem tz_68 : zcells Try.prog 68 = some [.str ⟨#[]⟩, .nilsl] := by kernel_rfl
theorem ts_69 : tsize Try.prog 69 = some 2 := by kernel_rfl
theorem tb_69 : tbytes Try.prog 69 = some 40 := by kernel_rfl
theorem tg_69 : tagg Try.prog 69 = some true := by kernel_rfl
theorem tz_69 : zcells Try.prog 69 = some [.str ⟨#[]⟩, .nilsl] := by kernel_rfl
theorem ts_70 : tsize Try.prog 70 = some 2 := by kernel_rfl
theorem tb_70 : tbytes Try.prog 70 = some 40 := by kernel_rfl
theorem tg_70 : tagg Try.prog 70 = some true := by kernel_rfl
theorem tz_70 : zcells Try.prog 70 = some [.str ⟨#[]⟩, .nilsl] := by kernel_rfl
theorem ts_71 : tsize Try.prog 71 = some 2 := by kernel_rfl
theorem tb_71 : tbytes Try.prog 71 = some 40 := by kernel_rfl
theorem tg_71 : tagg Try.prog 71 = some true := by kernel_rfl
theorem tz_71 : zcells Try.prog 71 = some [.str ⟨#[]⟩, .nilsl] := by kernel_rfl
theorem ts_72 : tsize Try.prog 72 = some 1 := by kernel_rfl
theorem tb_72 : tbytes Try.prog 72 = some 4 := by kernel_rfl
theorem tg_72 : tagg Try.prog 72 = some false := by kernel_rfl
theorem tz_72 : zcells Try.prog 72 = some [.int .u32 0] := by kernel_rfl
theorem ts_85 : tsize Try.prog 85 = some 1 := by kernel_rfl
theorem tb_85 : tbytes Try.prog 85 = some 8 := by kernel_rfl
theorem tg_85 : tagg Try.prog 85 = some false := by kernel_rfl
theorem tz_85 : zcells Try.prog 85 = some [.nilp] := by kernel_rfl
attribute [go_sem] ts_2 tb_2 tg_2 tz_2 Try.underlying2 ts_3 tb_3 tg_3 tz_3 Try.underlying3 ts_4 tb_4 tg_4 tz_4 Try.underlying4 ts_5 tb_5 tg_5 tz_5 Try.underlying5 ts_9 tb_9 tg_9 tz_9 Try.underlying9 ts_12 tb_12 tg_12 tz_12 Try.underlying12 ts_13 tb_13 tg_13 tz_13 Try.underlying13 ts_21 tb_21 tg_21 tz_21 Try.underlying21 ts_22 tb_22 tg_22 tz_22 te_22 Try.underlying22 ts_25 tb_25 tg_25 tz_25 te_25 Try.underlying25 ts_27 tb_27 tg_27 tz_27 te_27 Try.underlying27 ts_34 tb_34 tg_34 tz_34 te_34 Try.underlying34 ts_39 tb_39 tg_39 tz_39 te_39 Try.underlying39 ts_40 tb_40 tg_40 tz_40 Try.underlying40 ts_41 tb_41 tg_41 tz_41 Try.underlying41 ts_45 tb_45 tg_45 tz_45 te_45 Try.underlying45 ts_46 tb_46 tg_46 tz_46 Try.underlying46 ts_47 tb_47 tg_47 tz_47 Try.underlying47 ts_49 tb_49 tg_49 tz_49 te_49 Try.underlying49 ts_50 tb_50 tg_50 tz_50 Try.underlying50 ts_51 tb_51 tg_51 tz_51 Try.underlying51 ts_59 tb_59 tg_59 tz_59 Try.underlying59 ts_62 tb_62 tg_62 tz_62 te_62 Try.underlying62 ts_66 tb_66 tg_66 tz_66 Try.underlying66 ts_67 tb_67 tg_67 tz_67 tf_67 Try.underlying67 ts_68 tb_68 tg_68 tz_68 Try.underlying68 ts_69 tb_69 tg_69 tz_69 Try.underlying69 ts_70 tb_70 tg_70 tz_70 Try.underlying70 ts_71 tb_71 tg_71 tz_71 Try.underlying71 ts_72 tb_72 tg_72 tz_72 Try.underlying72 ts_85 tb_85 tg_85 tz_85 Try.underlying85
end Go.Proofs.Ytmcejlhkohbdfaa
