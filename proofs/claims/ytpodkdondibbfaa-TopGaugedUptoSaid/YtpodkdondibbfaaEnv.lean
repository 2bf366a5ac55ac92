/- The types of the seat, told to the abstract layer. Written by program. -/
import Derived.Test.YtpodkdondibbfaaMu3
import Derived.Test.YtpodkdondibbfaaProg
import Derived.KernelRfl
set_option linter.unusedSimpArgs false
set_option linter.unusedVariables false
set_option maxRecDepth 100000
namespace Go.Proofs
open Go Go.Mu
def Try.ti2 : TI := { sz := 1, bytes := 8, kd := .int .i64, zero := .int .i64 0, eqn := false }
def Try.ti3 : TI := { sz := 1, bytes := 8, kd := .int .i64, zero := .int .i64 0, eqn := false }
def Try.ti4 : TI := { sz := 1, bytes := 1, kd := .bool, zero := .bool false, eqn := false }
def Try.ti5 : TI := { sz := 1, bytes := 1, kd := .int .u8, zero := .int .u8 0, eqn := false }
def Try.ti6 : TI := { sz := 1, bytes := 1, kd := .int .u8, zero := .int .u8 0, eqn := false }
def Try.ti8 : TI := { sz := 4, bytes := 24, kd := .strct [(0, 2), (1, 3), (2, 4), (3, 6)], zero := .agg [.int .i64 0, .int .i64 0, .bool false, .int .u8 0], eqn := false }
def Try.ti9 : TI := { sz := 1, bytes := 16, kd := .str, zero := .str ByteArray.empty, eqn := false }
def Try.ti10 : TI := { sz := 1, bytes := 16, kd := .str, zero := .str ByteArray.empty, eqn := false }
def Try.ti11 : TI := { sz := 1, bytes := 16, kd := .str, zero := .str ByteArray.empty, eqn := false }
def Try.ti12 : TI := { sz := 1, bytes := 8, kd := .int .u64, zero := .int .u64 0, eqn := false }
def Try.ti14 : TI := { sz := 2, bytes := 24, kd := .strct [(0, 9), (1, 12)], zero := .agg [.str ByteArray.empty, .int .u64 0], eqn := false }
def Try.ti15 : TI := { sz := 1, bytes := 8, kd := .ptr 143, zero := .nilptr, eqn := false }
def Try.ti16 : TI := { sz := 1, bytes := 8, kd := .ptr 146, zero := .nilptr, eqn := false }
def Try.ti17 : TI := { sz := 1, bytes := 8, kd := .ptr 155, zero := .nilptr, eqn := false }
def Try.ti19 : TI := { sz := 1, bytes := 8, kd := .strct [(0, 17)], zero := .agg [.nilptr], eqn := false }
def Try.ti22 : TI := { sz := 1, bytes := 24, kd := .slice 3, zero := .list .full 0 [], eqn := false }
def Try.ti23 : TI := { sz := 1, bytes := 8, kd := .ptr 69, zero := .nilptr, eqn := false }
def Try.ti26 : TI := { sz := 2, bytes := 16, kd := .strct [(0, 3), (1, 3)], zero := .agg [.int .i64 0, .int .i64 0], eqn := true }
def Try.ti28 : TI := { sz := 6, bytes := 48, kd := .strct [(0, 26), (2, 26), (4, 26)], zero := .agg [.int .i64 0, .int .i64 0, .int .i64 0, .int .i64 0, .int .i64 0, .int .i64 0], eqn := false }
def Try.ti30 : TI := { sz := 9, bytes := 72, kd := .strct [(0, 26), (2, 26), (4, 26), (6, 26), (8, 3)], zero := .agg [.int .i64 0, .int .i64 0, .int .i64 0, .int .i64 0, .int .i64 0, .int .i64 0, .int .i64 0, .int .i64 0, .int .i64 0], eqn := false }
def Try.ti31 : TI := { sz := 1, bytes := 24, kd := .slice 26, zero := .list .full 0 [], eqn := false }
def Try.ti33 : TI := { sz := 18, bytes := 160, kd := .strct [(0, 28), (6, 30), (15, 31), (16, 3), (17, 3)], zero := .agg [.int .i64 0, .int .i64 0, .int .i64 0, .int .i64 0, .int .i64 0, .int .i64 0, .int .i64 0, .int .i64 0, .int .i64 0, .int .i64 0, .int .i64 0, .int .i64 0, .int .i64 0, .int .i64 0, .int .i64 0, .list .full 0 [], .int .i64 0, .int .i64 0], eqn := false }
def Try.ti38 : TI := { sz := 1, bytes := 24, kd := .slice 42, zero := .list .full 0 [], eqn := false }
def Try.ti40 : TI := { sz := 3, bytes := 56, kd := .strct [(0, 3), (1, 31), (2, 38)], zero := .agg [.int .i64 0, .list .full 0 [], .list .full 0 []], eqn := false }
def Try.ti42 : TI := { sz := 6, bytes := 48, kd := .strct [(0, 3), (1, 3), (2, 3), (3, 3), (4, 26)], zero := .agg [.int .i64 0, .int .i64 0, .int .i64 0, .int .i64 0, .int .i64 0, .int .i64 0], eqn := false }
def Try.ti44 : TI := { sz := 1, bytes := 8, kd := .int .i64, zero := .int .i64 0, eqn := false }
def Try.ti56 : TI := { sz := 3, bytes := 24, kd := .strct [(0, 3), (1, 3), (2, 3)], zero := .agg [.int .i64 0, .int .i64 0, .int .i64 0], eqn := false }
def Try.ti67 : TI := { sz := 1, bytes := 8, kd := .int .u64, zero := .int .u64 0, eqn := false }
def Try.ti69 : TI := { sz := 1, bytes := 8, kd := .strct [(0, 67)], zero := .agg [.int .u64 0], eqn := false }
def Try.ti80 : TI := { sz := 1, bytes := 8, kd := .func, zero := .nilfn, eqn := false }
def Try.ti82 : TI := { sz := 21, bytes := 184, kd := .strct [(0, 33), (18, 26), (20, 80)], zero := .agg [.int .i64 0, .int .i64 0, .int .i64 0, .int .i64 0, .int .i64 0, .int .i64 0, .int .i64 0, .int .i64 0, .int .i64 0, .int .i64 0, .int .i64 0, .int .i64 0, .int .i64 0, .int .i64 0, .int .i64 0, .list .full 0 [], .int .i64 0, .int .i64 0, .int .i64 0, .int .i64 0, .nilfn], eqn := false }
def Try.ti87 : TI := { sz := 5, bytes := 40, kd := .strct [(0, 26), (2, 3), (3, 3), (4, 3)], zero := .agg [.int .i64 0, .int .i64 0, .int .i64 0, .int .i64 0, .int .i64 0], eqn := false, keyn := true }
def Try.ti88 : TI := { sz := 1, bytes := 8, kd := .func, zero := .nilfn, eqn := false }
def Try.ti93 : TI := { sz := 1, bytes := 24, kd := .slice 103, zero := .list .full 0 [], eqn := false }
def Try.ti97 : TI := { sz := 1, bytes := 16, kd := .iface, zero := .niliface, eqn := false }
def Try.ti99 : TI := { sz := 1, bytes := 8, kd := .map 3 93, zero := .nilmap, eqn := false }
def Try.ti103 : TI := { sz := 3, bytes := 24, kd := .arr 3 3, zero := .agg [.int .i64 0, .int .i64 0, .int .i64 0], eqn := false }
def Try.ti104 : TI := { sz := 1, bytes := 8, kd := .func, zero := .nilfn, eqn := false }
def Try.ti109 : TI := { sz := 15, bytes := 120, kd := .strct [(0, 28), (6, 30)], zero := .agg [.int .i64 0, .int .i64 0, .int .i64 0, .int .i64 0, .int .i64 0, .int .i64 0, .int .i64 0, .int .i64 0, .int .i64 0, .int .i64 0, .int .i64 0, .int .i64 0, .int .i64 0, .int .i64 0, .int .i64 0], eqn := false }
def Try.ti112 : TI := { sz := 1, bytes := 8, kd := .func, zero := .nilfn, eqn := false }
def Try.ti113 : TI := { sz := 1, bytes := 8, kd := .func, zero := .nilfn, eqn := false }
def Try.ti120 : TI := { sz := 1, bytes := 8, kd := .map 87 4, zero := .nilmap, eqn := false }
def Try.ti122 : TI := { sz := 1, bytes := 8, kd := .func, zero := .nilfn, eqn := false }
def Try.ti125 : TI := { sz := 7, bytes := 56, kd := .strct [(0, 42), (6, 3)], zero := .agg [.int .i64 0, .int .i64 0, .int .i64 0, .int .i64 0, .int .i64 0, .int .i64 0, .int .i64 0], eqn := false }
def Try.ti127 : TI := { sz := 6, bytes := 48, kd := .strct [(0, 42)], zero := .agg [.int .i64 0, .int .i64 0, .int .i64 0, .int .i64 0, .int .i64 0, .int .i64 0], eqn := false }
def Try.ti128 : TI := { sz := 6, bytes := 48, kd := .strct [(0, 42)], zero := .agg [.int .i64 0, .int .i64 0, .int .i64 0, .int .i64 0, .int .i64 0, .int .i64 0], eqn := false }
def Try.ti133 : TI := { sz := 1, bytes := 8, kd := .func, zero := .nilfn, eqn := false }
def Try.ti134 : TI := { sz := 1, bytes := 24, kd := .slice 97, zero := .list .full 0 [], eqn := false }
def Try.ti135 : TI := { sz := 1, bytes := 8, kd := .func, zero := .nilfn, eqn := false }
def Try.ti136 : TI := { sz := 1, bytes := 8, kd := .func, zero := .nilfn, eqn := false }
def Try.ti137 : TI := { sz := 1, bytes := 8, kd := .func, zero := .nilfn, eqn := false }
def Try.ti143 : TI := { sz := 4, bytes := 40, kd := .strct [(0, 17), (1, 17), (2, 17), (3, 9)], zero := .agg [.nilptr, .nilptr, .nilptr, .str ByteArray.empty], eqn := false }
def Try.ti144 : TI := { sz := 0, bytes := 0, kd := .arr 0 16, zero := .agg [], eqn := false }
def Try.ti146 : TI := { sz := 0, bytes := 0, kd := .strct [(0, 144)], zero := .agg [], eqn := false }
def Try.ti147 : TI := { sz := 1, bytes := 4, kd := .int .u32, zero := .int .u32 0, eqn := false }
def Try.ti148 : TI := { sz := 1, bytes := 1, kd := .int .u8, zero := .int .u8 0, eqn := false }
def Try.ti149 : TI := { sz := 1, bytes := 1, kd := .int .u8, zero := .int .u8 0, eqn := false }
def Try.ti150 : TI := { sz := 1, bytes := 8, kd := .func, zero := .nilfn, eqn := false }
def Try.ti151 : TI := { sz := 1, bytes := 8, kd := .ptr 5, zero := .nilptr, eqn := false }
def Try.ti152 : TI := { sz := 1, bytes := 4, kd := .int .i32, zero := .int .i32 0, eqn := false }
def Try.ti153 : TI := { sz := 1, bytes := 4, kd := .int .i32, zero := .int .i32 0, eqn := false }
def Try.ti155 : TI := { sz := 11, bytes := 48, kd := .strct [(0, 12), (1, 12), (2, 147), (3, 148), (4, 5), (5, 5), (6, 149), (7, 150), (8, 151), (9, 152), (10, 153)], zero := .agg [.int .u64 0, .int .u64 0, .int .u32 0, .int .u8 0, .int .u8 0, .int .u8 0, .int .u8 0, .nilfn, .nilptr, .int .i32 0, .int .i32 0], eqn := false }
def Try.tyl : List (Nat × TI) := [(2, Try.ti2), (3, Try.ti3), (4, Try.ti4), (5, Try.ti5), (6, Try.ti6), (8, Try.ti8), (9, Try.ti9), (10, Try.ti10), (11, Try.ti11), (12, Try.ti12), (14, Try.ti14), (15, Try.ti15), (16, Try.ti16), (17, Try.ti17), (19, Try.ti19), (22, Try.ti22), (23, Try.ti23), (26, Try.ti26), (28, Try.ti28), (30, Try.ti30), (31, Try.ti31), (33, Try.ti33), (38, Try.ti38), (40, Try.ti40), (42, Try.ti42), (44, Try.ti44), (56, Try.ti56), (67, Try.ti67), (69, Try.ti69), (80, Try.ti80), (82, Try.ti82), (87, Try.ti87), (88, Try.ti88), (93, Try.ti93), (97, Try.ti97), (99, Try.ti99), (103, Try.ti103), (104, Try.ti104), (109, Try.ti109), (112, Try.ti112), (113, Try.ti113), (120, Try.ti120), (122, Try.ti122), (125, Try.ti125), (127, Try.ti127), (128, Try.ti128), (133, Try.ti133), (134, Try.ti134), (135, Try.ti135), (136, Try.ti136), (137, Try.ti137), (143, Try.ti143), (144, Try.ti144), (146, Try.ti146), (147, Try.ti147), (148, Try.ti148), (149, Try.ti149), (150, Try.ti150), (151, Try.ti151), (152, Try.ti152), (153, Try.ti153), (155, Try.ti155)]
def Try.ty (t : Nat) : TI := tyOf Try.tyl t
theorem Try.ty2 : Try.ty 2 = { sz := 1, bytes := 8, kd := .int .i64, zero := .int .i64 0, eqn := false } := rfl
theorem Try.ty3 : Try.ty 3 = { sz := 1, bytes := 8, kd := .int .i64, zero := .int .i64 0, eqn := false } := rfl
theorem Try.ty4 : Try.ty 4 = { sz := 1, bytes := 1, kd := .bool, zero := .bool false, eqn := false } := rfl
theorem Try.ty5 : Try.ty 5 = { sz := 1, bytes := 1, kd := .int .u8, zero := .int .u8 0, eqn := false } := rfl
theorem Try.ty6 : Try.ty 6 = { sz := 1, bytes := 1, kd := .int .u8, zero := .int .u8 0, eqn := false } := rfl
theorem Try.ty8 : Try.ty 8 = { sz := 4, bytes := 24, kd := .strct [(0, 2), (1, 3), (2, 4), (3, 6)], zero := .agg [.int .i64 0, .int .i64 0, .bool false, .int .u8 0], eqn := false } := rfl
theorem Try.ty9 : Try.ty 9 = { sz := 1, bytes := 16, kd := .str, zero := .str ByteArray.empty, eqn := false } := rfl
theorem Try.ty10 : Try.ty 10 = { sz := 1, bytes := 16, kd := .str, zero := .str ByteArray.empty, eqn := false } := rfl
theorem Try.ty11 : Try.ty 11 = { sz := 1, bytes := 16, kd := .str, zero := .str ByteArray.empty, eqn := false } := rfl
theorem Try.ty12 : Try.ty 12 = { sz := 1, bytes := 8, kd := .int .u64, zero := .int .u64 0, eqn := false } := rfl
theorem Try.ty14 : Try.ty 14 = { sz := 2, bytes := 24, kd := .strct [(0, 9), (1, 12)], zero := .agg [.str ByteArray.empty, .int .u64 0], eqn := false } := rfl
theorem Try.ty15 : Try.ty 15 = { sz := 1, bytes := 8, kd := .ptr 143, zero := .nilptr, eqn := false } := rfl
theorem Try.ty16 : Try.ty 16 = { sz := 1, bytes := 8, kd := .ptr 146, zero := .nilptr, eqn := false } := rfl
theorem Try.ty17 : Try.ty 17 = { sz := 1, bytes := 8, kd := .ptr 155, zero := .nilptr, eqn := false } := rfl
theorem Try.ty19 : Try.ty 19 = { sz := 1, bytes := 8, kd := .strct [(0, 17)], zero := .agg [.nilptr], eqn := false } := rfl
theorem Try.ty22 : Try.ty 22 = { sz := 1, bytes := 24, kd := .slice 3, zero := .list .full 0 [], eqn := false } := rfl
theorem Try.ty23 : Try.ty 23 = { sz := 1, bytes := 8, kd := .ptr 69, zero := .nilptr, eqn := false } := rfl
theorem Try.ty26 : Try.ty 26 = { sz := 2, bytes := 16, kd := .strct [(0, 3), (1, 3)], zero := .agg [.int .i64 0, .int .i64 0], eqn := true } := rfl
theorem Try.ty28 : Try.ty 28 = { sz := 6, bytes := 48, kd := .strct [(0, 26), (2, 26), (4, 26)], zero := .agg [.int .i64 0, .int .i64 0, .int .i64 0, .int .i64 0, .int .i64 0, .int .i64 0], eqn := false } := rfl
theorem Try.ty30 : Try.ty 30 = { sz := 9, bytes := 72, kd := .strct [(0, 26), (2, 26), (4, 26), (6, 26), (8, 3)], zero := .agg [.int .i64 0, .int .i64 0, .int .i64 0, .int .i64 0, .int .i64 0, .int .i64 0, .int .i64 0, .int .i64 0, .int .i64 0], eqn := false } := rfl
theorem Try.ty31 : Try.ty 31 = { sz := 1, bytes := 24, kd := .slice 26, zero := .list .full 0 [], eqn := false } := rfl
theorem Try.ty33 : Try.ty 33 = { sz := 18, bytes := 160, kd := .strct [(0, 28), (6, 30), (15, 31), (16, 3), (17, 3)], zero := .agg [.int .i64 0, .int .i64 0, .int .i64 0, .int .i64 0, .int .i64 0, .int .i64 0, .int .i64 0, .int .i64 0, .int .i64 0, .int .i64 0, .int .i64 0, .int .i64 0, .int .i64 0, .int .i64 0, .int .i64 0, .list .full 0 [], .int .i64 0, .int .i64 0], eqn := false } := rfl
theorem Try.ty38 : Try.ty 38 = { sz := 1, bytes := 24, kd := .slice 42, zero := .list .full 0 [], eqn := false } := rfl
theorem Try.ty40 : Try.ty 40 = { sz := 3, bytes := 56, kd := .strct [(0, 3), (1, 31), (2, 38)], zero := .agg [.int .i64 0, .list .full 0 [], .list .full 0 []], eqn := false } := rfl
theorem Try.ty42 : Try.ty 42 = { sz := 6, bytes := 48, kd := .strct [(0, 3), (1, 3), (2, 3), (3, 3), (4, 26)], zero := .agg [.int .i64 0, .int .i64 0, .int .i64 0, .int .i64 0, .int .i64 0, .int .i64 0], eqn := false } := rfl
theorem Try.ty44 : Try.ty 44 = { sz := 1, bytes := 8, kd := .int .i64, zero := .int .i64 0, eqn := false } := rfl
theorem Try.ty56 : Try.ty 56 = { sz := 3, bytes := 24, kd := .strct [(0, 3), (1, 3), (2, 3)], zero := .agg [.int .i64 0, .int .i64 0, .int .i64 0], eqn := false } := rfl
theorem Try.ty67 : Try.ty 67 = { sz := 1, bytes := 8, kd := .int .u64, zero := .int .u64 0, eqn := false } := rfl
theorem Try.ty69 : Try.ty 69 = { sz := 1, bytes := 8, kd := .strct [(0, 67)], zero := .agg [.int .u64 0], eqn := false } := rfl
theorem Try.ty80 : Try.ty 80 = { sz := 1, bytes := 8, kd := .func, zero := .nilfn, eqn := false } := rfl
theorem Try.ty82 : Try.ty 82 = { sz := 21, bytes := 184, kd := .strct [(0, 33), (18, 26), (20, 80)], zero := .agg [.int .i64 0, .int .i64 0, .int .i64 0, .int .i64 0, .int .i64 0, .int .i64 0, .int .i64 0, .int .i64 0, .int .i64 0, .int .i64 0, .int .i64 0, .int .i64 0, .int .i64 0, .int .i64 0, .int .i64 0, .list .full 0 [], .int .i64 0, .int .i64 0, .int .i64 0, .int .i64 0, .nilfn], eqn := false } := rfl
theorem Try.ty87 : Try.ty 87 = { sz := 5, bytes := 40, kd := .strct [(0, 26), (2, 3), (3, 3), (4, 3)], zero := .agg [.int .i64 0, .int .i64 0, .int .i64 0, .int .i64 0, .int .i64 0], eqn := false, keyn := true } := rfl
theorem Try.ty88 : Try.ty 88 = { sz := 1, bytes := 8, kd := .func, zero := .nilfn, eqn := false } := rfl
theorem Try.ty93 : Try.ty 93 = { sz := 1, bytes := 24, kd := .slice 103, zero := .list .full 0 [], eqn := false } := rfl
theorem Try.ty97 : Try.ty 97 = { sz := 1, bytes := 16, kd := .iface, zero := .niliface, eqn := false } := rfl
theorem Try.ty99 : Try.ty 99 = { sz := 1, bytes := 8, kd := .map 3 93, zero := .nilmap, eqn := false } := rfl
theorem Try.ty103 : Try.ty 103 = { sz := 3, bytes := 24, kd := .arr 3 3, zero := .agg [.int .i64 0, .int .i64 0, .int .i64 0], eqn := false } := rfl
theorem Try.ty104 : Try.ty 104 = { sz := 1, bytes := 8, kd := .func, zero := .nilfn, eqn := false } := rfl
theorem Try.ty109 : Try.ty 109 = { sz := 15, bytes := 120, kd := .strct [(0, 28), (6, 30)], zero := .agg [.int .i64 0, .int .i64 0, .int .i64 0, .int .i64 0, .int .i64 0, .int .i64 0, .int .i64 0, .int .i64 0, .int .i64 0, .int .i64 0, .int .i64 0, .int .i64 0, .int .i64 0, .int .i64 0, .int .i64 0], eqn := false } := rfl
theorem Try.ty112 : Try.ty 112 = { sz := 1, bytes := 8, kd := .func, zero := .nilfn, eqn := false } := rfl
theorem Try.ty113 : Try.ty 113 = { sz := 1, bytes := 8, kd := .func, zero := .nilfn, eqn := false } := rfl
theorem Try.ty120 : Try.ty 120 = { sz := 1, bytes := 8, kd := .map 87 4, zero := .nilmap, eqn := false } := rfl
theorem Try.ty122 : Try.ty 122 = { sz := 1, bytes := 8, kd := .func, zero := .nilfn, eqn := false } := rfl
theorem Try.ty125 : Try.ty 125 = { sz := 7, bytes := 56, kd := .strct [(0, 42), (6, 3)], zero := .agg [.int .i64 0, .int .i64 0, .int .i64 0, .int .i64 0, .int .i64 0, .int .i64 0, .int .i64 0], eqn := false } := rfl
theorem Try.ty127 : Try.ty 127 = { sz := 6, bytes := 48, kd := .strct [(0, 42)], zero := .agg [.int .i64 0, .int .i64 0, .int .i64 0, .int .i64 0, .int .i64 0, .int .i64 0], eqn := false } := rfl
theorem Try.ty128 : Try.ty 128 = { sz := 6, bytes := 48, kd := .strct [(0, 42)], zero := .agg [.int .i64 0, .int .i64 0, .int .i64 0, .int .i64 0, .int .i64 0, .int .i64 0], eqn := false } := rfl
theorem Try.ty133 : Try.ty 133 = { sz := 1, bytes := 8, kd := .func, zero := .nilfn, eqn := false } := rfl
theorem Try.ty134 : Try.ty 134 = { sz := 1, bytes := 24, kd := .slice 97, zero := .list .full 0 [], eqn := false } := rfl
theorem Try.ty135 : Try.ty 135 = { sz := 1, bytes := 8, kd := .func, zero := .nilfn, eqn := false } := rfl
theorem Try.ty136 : Try.ty 136 = { sz := 1, bytes := 8, kd := .func, zero := .nilfn, eqn := false } := rfl
theorem Try.ty137 : Try.ty 137 = { sz := 1, bytes := 8, kd := .func, zero := .nilfn, eqn := false } := rfl
theorem Try.ty143 : Try.ty 143 = { sz := 4, bytes := 40, kd := .strct [(0, 17), (1, 17), (2, 17), (3, 9)], zero := .agg [.nilptr, .nilptr, .nilptr, .str ByteArray.empty], eqn := false } := rfl
theorem Try.ty144 : Try.ty 144 = { sz := 0, bytes := 0, kd := .arr 0 16, zero := .agg [], eqn := false } := rfl
theorem Try.ty146 : Try.ty 146 = { sz := 0, bytes := 0, kd := .strct [(0, 144)], zero := .agg [], eqn := false } := rfl
theorem Try.ty147 : Try.ty 147 = { sz := 1, bytes := 4, kd := .int .u32, zero := .int .u32 0, eqn := false } := rfl
theorem Try.ty148 : Try.ty 148 = { sz := 1, bytes := 1, kd := .int .u8, zero := .int .u8 0, eqn := false } := rfl
theorem Try.ty149 : Try.ty 149 = { sz := 1, bytes := 1, kd := .int .u8, zero := .int .u8 0, eqn := false } := rfl
theorem Try.ty150 : Try.ty 150 = { sz := 1, bytes := 8, kd := .func, zero := .nilfn, eqn := false } := rfl
theorem Try.ty151 : Try.ty 151 = { sz := 1, bytes := 8, kd := .ptr 5, zero := .nilptr, eqn := false } := rfl
theorem Try.ty152 : Try.ty 152 = { sz := 1, bytes := 4, kd := .int .i32, zero := .int .i32 0, eqn := false } := rfl
theorem Try.ty153 : Try.ty 153 = { sz := 1, bytes := 4, kd := .int .i32, zero := .int .i32 0, eqn := false } := rfl
theorem Try.ty155 : Try.ty 155 = { sz := 11, bytes := 48, kd := .strct [(0, 12), (1, 12), (2, 147), (3, 148), (4, 5), (5, 5), (6, 149), (7, 150), (8, 151), (9, 152), (10, 153)], zero := .agg [.int .u64 0, .int .u64 0, .int .u32 0, .int .u8 0, .int .u8 0, .int .u8 0, .int .u8 0, .nilfn, .nilptr, .int .i32 0, .int .i32 0], eqn := false } := rfl
theorem Try.tyok2 : TyOK Try.prog 2 Try.ti2 := TyOK.of _ (by kernel_rfl) (by kernel_rfl) rfl Try.underlying2 rfl
theorem Try.tyok3 : TyOK Try.prog 3 Try.ti3 := TyOK.of _ (by kernel_rfl) (by kernel_rfl) rfl Try.underlying3 rfl
theorem Try.tyok4 : TyOK Try.prog 4 Try.ti4 := TyOK.of _ (by kernel_rfl) (by kernel_rfl) rfl Try.underlying4 rfl
theorem Try.tyok5 : TyOK Try.prog 5 Try.ti5 := TyOK.of _ (by kernel_rfl) (by kernel_rfl) rfl Try.underlying5 rfl
theorem Try.tyok6 : TyOK Try.prog 6 Try.ti6 := TyOK.of _ (by kernel_rfl) (by kernel_rfl) rfl Try.underlying6 rfl
theorem Try.tyok8 : TyOK Try.prog 8 Try.ti8 := TyOK.of _ (by kernel_rfl) (by kernel_rfl) rfl Try.underlying8 ⟨_, rfl, rfl⟩
theorem Try.tyok9 : TyOK Try.prog 9 Try.ti9 := TyOK.of _ (by kernel_rfl) (by kernel_rfl) rfl Try.underlying9 rfl
theorem Try.tyok10 : TyOK Try.prog 10 Try.ti10 := TyOK.of _ (by kernel_rfl) (by kernel_rfl) rfl Try.underlying10 rfl
theorem Try.tyok11 : TyOK Try.prog 11 Try.ti11 := TyOK.of _ (by kernel_rfl) (by kernel_rfl) rfl Try.underlying11 rfl
theorem Try.tyok12 : TyOK Try.prog 12 Try.ti12 := TyOK.of _ (by kernel_rfl) (by kernel_rfl) rfl Try.underlying12 rfl
theorem Try.tyok14 : TyOK Try.prog 14 Try.ti14 := TyOK.of _ (by kernel_rfl) (by kernel_rfl) rfl Try.underlying14 ⟨_, rfl, rfl⟩
theorem Try.tyok15 : TyOK Try.prog 15 Try.ti15 := TyOK.of _ (by kernel_rfl) (by kernel_rfl) rfl Try.underlying15 rfl
theorem Try.tyok16 : TyOK Try.prog 16 Try.ti16 := TyOK.of _ (by kernel_rfl) (by kernel_rfl) rfl Try.underlying16 rfl
theorem Try.tyok17 : TyOK Try.prog 17 Try.ti17 := TyOK.of _ (by kernel_rfl) (by kernel_rfl) rfl Try.underlying17 rfl
theorem Try.tyok19 : TyOK Try.prog 19 Try.ti19 := TyOK.of _ (by kernel_rfl) (by kernel_rfl) rfl Try.underlying19 ⟨_, rfl, rfl⟩
theorem Try.tyok22 : TyOK Try.prog 22 Try.ti22 := TyOK.of _ (by kernel_rfl) (by kernel_rfl) rfl Try.underlying22 rfl
theorem Try.tyok23 : TyOK Try.prog 23 Try.ti23 := TyOK.of _ (by kernel_rfl) (by kernel_rfl) rfl Try.underlying23 rfl
theorem Try.tyok26 : TyOK Try.prog 26 Try.ti26 := TyOK.of _ (by kernel_rfl) (by kernel_rfl) rfl Try.underlying26 ⟨_, rfl, rfl⟩
theorem Try.tyok28 : TyOK Try.prog 28 Try.ti28 := TyOK.of _ (by kernel_rfl) (by kernel_rfl) rfl Try.underlying28 ⟨_, rfl, rfl⟩
theorem Try.tyok30 : TyOK Try.prog 30 Try.ti30 := TyOK.of _ (by kernel_rfl) (by kernel_rfl) rfl Try.underlying30 ⟨_, rfl, rfl⟩
theorem Try.tyok31 : TyOK Try.prog 31 Try.ti31 := TyOK.of _ (by kernel_rfl) (by kernel_rfl) rfl Try.underlying31 rfl
theorem Try.tyok33 : TyOK Try.prog 33 Try.ti33 := TyOK.of _ (by kernel_rfl) (by kernel_rfl) rfl Try.underlying33 ⟨_, rfl, rfl⟩
theorem Try.tyok38 : TyOK Try.prog 38 Try.ti38 := TyOK.of _ (by kernel_rfl) (by kernel_rfl) rfl Try.underlying38 rfl
theorem Try.tyok40 : TyOK Try.prog 40 Try.ti40 := TyOK.of _ (by kernel_rfl) (by kernel_rfl) rfl Try.underlying40 ⟨_, rfl, rfl⟩
theorem Try.tyok42 : TyOK Try.prog 42 Try.ti42 := TyOK.of _ (by kernel_rfl) (by kernel_rfl) rfl Try.underlying42 ⟨_, rfl, rfl⟩
theorem Try.tyok44 : TyOK Try.prog 44 Try.ti44 := TyOK.of _ (by kernel_rfl) (by kernel_rfl) rfl Try.underlying44 rfl
theorem Try.tyok56 : TyOK Try.prog 56 Try.ti56 := TyOK.of _ (by kernel_rfl) (by kernel_rfl) rfl Try.underlying56 ⟨_, rfl, rfl⟩
theorem Try.tyok67 : TyOK Try.prog 67 Try.ti67 := TyOK.of _ (by kernel_rfl) (by kernel_rfl) rfl Try.underlying67 rfl
theorem Try.tyok69 : TyOK Try.prog 69 Try.ti69 := TyOK.of _ (by kernel_rfl) (by kernel_rfl) rfl Try.underlying69 ⟨_, rfl, rfl⟩
theorem Try.tyok80 : TyOK Try.prog 80 Try.ti80 := TyOK.of _ (by kernel_rfl) (by kernel_rfl) rfl Try.underlying80 ⟨_, _, _, rfl⟩
theorem Try.tyok82 : TyOK Try.prog 82 Try.ti82 := TyOK.of _ (by kernel_rfl) (by kernel_rfl) rfl Try.underlying82 ⟨_, rfl, rfl⟩
theorem Try.tyok87 : TyOK Try.prog 87 Try.ti87 := TyOK.of _ (by kernel_rfl) (by kernel_rfl) rfl Try.underlying87 ⟨_, rfl, rfl⟩
theorem Try.tyok88 : TyOK Try.prog 88 Try.ti88 := TyOK.of _ (by kernel_rfl) (by kernel_rfl) rfl Try.underlying88 ⟨_, _, _, rfl⟩
theorem Try.tyok93 : TyOK Try.prog 93 Try.ti93 := TyOK.of _ (by kernel_rfl) (by kernel_rfl) rfl Try.underlying93 rfl
theorem Try.tyok97 : TyOK Try.prog 97 Try.ti97 := TyOK.of _ (by kernel_rfl) (by kernel_rfl) rfl Try.underlying97 ⟨_, rfl⟩
theorem Try.tyok99 : TyOK Try.prog 99 Try.ti99 := TyOK.of _ (by kernel_rfl) (by kernel_rfl) rfl Try.underlying99 rfl
theorem Try.tyok103 : TyOK Try.prog 103 Try.ti103 := TyOK.of _ (by kernel_rfl) (by kernel_rfl) rfl Try.underlying103 rfl
theorem Try.tyok104 : TyOK Try.prog 104 Try.ti104 := TyOK.of _ (by kernel_rfl) (by kernel_rfl) rfl Try.underlying104 ⟨_, _, _, rfl⟩
theorem Try.tyok109 : TyOK Try.prog 109 Try.ti109 := TyOK.of _ (by kernel_rfl) (by kernel_rfl) rfl Try.underlying109 ⟨_, rfl, rfl⟩
theorem Try.tyok112 : TyOK Try.prog 112 Try.ti112 := TyOK.of _ (by kernel_rfl) (by kernel_rfl) rfl Try.underlying112 ⟨_, _, _, rfl⟩
theorem Try.tyok113 : TyOK Try.prog 113 Try.ti113 := TyOK.of _ (by kernel_rfl) (by kernel_rfl) rfl Try.underlying113 ⟨_, _, _, rfl⟩
theorem Try.tyok120 : TyOK Try.prog 120 Try.ti120 := TyOK.of _ (by kernel_rfl) (by kernel_rfl) rfl Try.underlying120 rfl
theorem Try.tyok122 : TyOK Try.prog 122 Try.ti122 := TyOK.of _ (by kernel_rfl) (by kernel_rfl) rfl Try.underlying122 ⟨_, _, _, rfl⟩
theorem Try.tyok125 : TyOK Try.prog 125 Try.ti125 := TyOK.of _ (by kernel_rfl) (by kernel_rfl) rfl Try.underlying125 ⟨_, rfl, rfl⟩
theorem Try.tyok127 : TyOK Try.prog 127 Try.ti127 := TyOK.of _ (by kernel_rfl) (by kernel_rfl) rfl Try.underlying127 ⟨_, rfl, rfl⟩
theorem Try.tyok128 : TyOK Try.prog 128 Try.ti128 := TyOK.of _ (by kernel_rfl) (by kernel_rfl) rfl Try.underlying128 ⟨_, rfl, rfl⟩
theorem Try.tyok133 : TyOK Try.prog 133 Try.ti133 := TyOK.of _ (by kernel_rfl) (by kernel_rfl) rfl Try.underlying133 ⟨_, _, _, rfl⟩
theorem Try.tyok134 : TyOK Try.prog 134 Try.ti134 := TyOK.of _ (by kernel_rfl) (by kernel_rfl) rfl Try.underlying134 rfl
theorem Try.tyok135 : TyOK Try.prog 135 Try.ti135 := TyOK.of _ (by kernel_rfl) (by kernel_rfl) rfl Try.underlying135 ⟨_, _, _, rfl⟩
theorem Try.tyok136 : TyOK Try.prog 136 Try.ti136 := TyOK.of _ (by kernel_rfl) (by kernel_rfl) rfl Try.underlying136 ⟨_, _, _, rfl⟩
theorem Try.tyok137 : TyOK Try.prog 137 Try.ti137 := TyOK.of _ (by kernel_rfl) (by kernel_rfl) rfl Try.underlying137 ⟨_, _, _, rfl⟩
theorem Try.tyok143 : TyOK Try.prog 143 Try.ti143 := TyOK.of _ (by kernel_rfl) (by kernel_rfl) rfl Try.underlying143 ⟨_, rfl, rfl⟩
theorem Try.tyok144 : TyOK Try.prog 144 Try.ti144 := TyOK.of _ (by kernel_rfl) (by kernel_rfl) rfl Try.underlying144 rfl
theorem Try.tyok146 : TyOK Try.prog 146 Try.ti146 := TyOK.of _ (by kernel_rfl) (by kernel_rfl) rfl Try.underlying146 ⟨_, rfl, rfl⟩
theorem Try.tyok147 : TyOK Try.prog 147 Try.ti147 := TyOK.of _ (by kernel_rfl) (by kernel_rfl) rfl Try.underlying147 rfl
theorem Try.tyok148 : TyOK Try.prog 148 Try.ti148 := TyOK.of _ (by kernel_rfl) (by kernel_rfl) rfl Try.underlying148 rfl
theorem Try.tyok149 : TyOK Try.prog 149 Try.ti149 := TyOK.of _ (by kernel_rfl) (by kernel_rfl) rfl Try.underlying149 rfl
theorem Try.tyok150 : TyOK Try.prog 150 Try.ti150 := TyOK.of _ (by kernel_rfl) (by kernel_rfl) rfl Try.underlying150 ⟨_, _, _, rfl⟩
theorem Try.tyok151 : TyOK Try.prog 151 Try.ti151 := TyOK.of _ (by kernel_rfl) (by kernel_rfl) rfl Try.underlying151 rfl
theorem Try.tyok152 : TyOK Try.prog 152 Try.ti152 := TyOK.of _ (by kernel_rfl) (by kernel_rfl) rfl Try.underlying152 rfl
theorem Try.tyok153 : TyOK Try.prog 153 Try.ti153 := TyOK.of _ (by kernel_rfl) (by kernel_rfl) rfl Try.underlying153 rfl
theorem Try.tyok155 : TyOK Try.prog 155 Try.ti155 := TyOK.of _ (by kernel_rfl) (by kernel_rfl) rfl Try.underlying155 ⟨_, rfl, rfl⟩
theorem Try.tysOK : TysOK Try.prog Try.ty := tys_of (by
  simp only [Try.tyl, List.forall_mem_cons, List.not_mem_nil, false_implies, implies_true, and_true]
  exact ⟨Try.tyok2, Try.tyok3, Try.tyok4, Try.tyok5, Try.tyok6, Try.tyok8, Try.tyok9, Try.tyok10, Try.tyok11, Try.tyok12, Try.tyok14, Try.tyok15, Try.tyok16, Try.tyok17, Try.tyok19, Try.tyok22, Try.tyok23, Try.tyok26, Try.tyok28, Try.tyok30, Try.tyok31, Try.tyok33, Try.tyok38, Try.tyok40, Try.tyok42, Try.tyok44, Try.tyok56, Try.tyok67, Try.tyok69, Try.tyok80, Try.tyok82, Try.tyok87, Try.tyok88, Try.tyok93, Try.tyok97, Try.tyok99, Try.tyok103, Try.tyok104, Try.tyok109, Try.tyok112, Try.tyok113, Try.tyok120, Try.tyok122, Try.tyok125, Try.tyok127, Try.tyok128, Try.tyok133, Try.tyok134, Try.tyok135, Try.tyok136, Try.tyok137, Try.tyok143, Try.tyok144, Try.tyok146, Try.tyok147, Try.tyok148, Try.tyok149, Try.tyok150, Try.tyok151, Try.tyok152, Try.tyok153, Try.tyok155⟩)
-- equalities at [26] keys [87]
end Go.Proofs
