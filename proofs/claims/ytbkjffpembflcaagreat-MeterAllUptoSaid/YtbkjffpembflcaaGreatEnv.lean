/- The types of the seat, told to the abstract layer. Written by program. -/
import Derived.Test.YtbkjffpembflcaaGreatMu3
import Derived.Test.YtbkjffpembflcaaGreatProg
import Derived.KernelRfl
set_option linter.unusedSimpArgs false
set_option linter.unusedVariables false
set_option maxRecDepth 100000
namespace Go.Proofs
open Go Go.Mu
def Tryz.ti2 : TI := { sz := 1, bytes := 8, kd := .int .i64, zero := .int .i64 0, eqn := false }
def Tryz.ti3 : TI := { sz := 1, bytes := 8, kd := .int .i64, zero := .int .i64 0, eqn := false }
def Tryz.ti4 : TI := { sz := 1, bytes := 1, kd := .bool, zero := .bool false, eqn := false }
def Tryz.ti5 : TI := { sz := 1, bytes := 1, kd := .int .u8, zero := .int .u8 0, eqn := false }
def Tryz.ti6 : TI := { sz := 1, bytes := 1, kd := .int .u8, zero := .int .u8 0, eqn := false }
def Tryz.ti8 : TI := { sz := 4, bytes := 24, kd := .strct [(0, 2), (1, 3), (2, 4), (3, 6)], zero := .agg [.int .i64 0, .int .i64 0, .bool false, .int .u8 0], eqn := false }
def Tryz.ti9 : TI := { sz := 1, bytes := 16, kd := .str, zero := .str ByteArray.empty, eqn := false }
def Tryz.ti10 : TI := { sz := 1, bytes := 16, kd := .str, zero := .str ByteArray.empty, eqn := false }
def Tryz.ti11 : TI := { sz := 1, bytes := 16, kd := .str, zero := .str ByteArray.empty, eqn := false }
def Tryz.ti12 : TI := { sz := 1, bytes := 8, kd := .int .u64, zero := .int .u64 0, eqn := false }
def Tryz.ti14 : TI := { sz := 2, bytes := 24, kd := .strct [(0, 9), (1, 12)], zero := .agg [.str ByteArray.empty, .int .u64 0], eqn := false }
def Tryz.ti15 : TI := { sz := 1, bytes := 8, kd := .ptr 172, zero := .nilptr, eqn := false }
def Tryz.ti16 : TI := { sz := 1, bytes := 8, kd := .ptr 175, zero := .nilptr, eqn := false }
def Tryz.ti17 : TI := { sz := 1, bytes := 8, kd := .ptr 184, zero := .nilptr, eqn := false }
def Tryz.ti19 : TI := { sz := 1, bytes := 8, kd := .strct [(0, 17)], zero := .agg [.nilptr], eqn := false }
def Tryz.ti20 : TI := { sz := 1, bytes := 16, kd := .iface, zero := .niliface, eqn := false }
def Tryz.ti22 : TI := { sz := 1, bytes := 24, kd := .slice 27, zero := .list .full 0 [], eqn := false }
def Tryz.ti23 : TI := { sz := 1, bytes := 24, kd := .slice 29, zero := .list .full 0 [], eqn := false }
def Tryz.ti25 : TI := { sz := 3, bytes := 56, kd := .strct [(0, 3), (1, 22), (2, 23)], zero := .agg [.int .i64 0, .list .full 0 [], .list .full 0 []], eqn := false }
def Tryz.ti27 : TI := { sz := 2, bytes := 16, kd := .strct [(0, 3), (1, 3)], zero := .agg [.int .i64 0, .int .i64 0], eqn := true }
def Tryz.ti29 : TI := { sz := 6, bytes := 48, kd := .strct [(0, 3), (1, 3), (2, 3), (3, 3), (4, 27)], zero := .agg [.int .i64 0, .int .i64 0, .int .i64 0, .int .i64 0, .int .i64 0, .int .i64 0], eqn := true }
def Tryz.ti30 : TI := { sz := 1, bytes := 24, kd := .slice 3, zero := .list .full 0 [], eqn := false }
def Tryz.ti33 : TI := { sz := 1, bytes := 8, kd := .ptr 76, zero := .nilptr, eqn := false }
def Tryz.ti38 : TI := { sz := 1, bytes := 24, kd := .slice 25, zero := .list .full 0 [], eqn := false }
def Tryz.ti40 : TI := { sz := 1, bytes := 8, kd := .int .i64, zero := .int .i64 0, eqn := false }
def Tryz.ti53 : TI := { sz := 1, bytes := 24, kd := .slice 30, zero := .list .full 0 [], eqn := false }
def Tryz.ti65 : TI := { sz := 1, bytes := 8, kd := .func, zero := .nilfn, eqn := false }
def Tryz.ti74 : TI := { sz := 1, bytes := 8, kd := .int .u64, zero := .int .u64 0, eqn := false }
def Tryz.ti76 : TI := { sz := 1, bytes := 8, kd := .strct [(0, 74)], zero := .agg [.int .u64 0], eqn := false }
def Tryz.ti77 : TI := { sz := 1, bytes := 8, kd := .int .u64, zero := .int .u64 0, eqn := false }
def Tryz.ti81 : TI := { sz := 1, bytes := 8, kd := .func, zero := .nilfn, eqn := false }
def Tryz.ti82 : TI := { sz := 1, bytes := 8, kd := .func, zero := .nilfn, eqn := false }
def Tryz.ti85 : TI := { sz := 1, bytes := 24, kd := .slice 90, zero := .list .full 0 [], eqn := false }
def Tryz.ti90 : TI := { sz := 3, bytes := 24, kd := .arr 3 3, zero := .agg [.int .i64 0, .int .i64 0, .int .i64 0], eqn := false }
def Tryz.ti91 : TI := { sz := 1, bytes := 8, kd := .func, zero := .nilfn, eqn := false }
def Tryz.ti95 : TI := { sz := 1, bytes := 8, kd := .map 3 4, zero := .nilmap, eqn := false }
def Tryz.ti105 : TI := { sz := 1, bytes := 8, kd := .func, zero := .nilfn, eqn := false }
def Tryz.ti107 : TI := { sz := 1, bytes := 8, kd := .func, zero := .nilfn, eqn := false }
def Tryz.ti111 : TI := { sz := 1, bytes := 16, kd := .iface, zero := .niliface, eqn := false }
def Tryz.ti113 : TI := { sz := 1, bytes := 8, kd := .map 3 85, zero := .nilmap, eqn := false }
def Tryz.ti120 : TI := { sz := 1, bytes := 8, kd := .func, zero := .nilfn, eqn := false }
def Tryz.ti121 : TI := { sz := 1, bytes := 24, kd := .slice 111, zero := .list .full 0 [], eqn := false }
def Tryz.ti123 : TI := { sz := 4, bytes := 48, kd := .strct [(0, 3), (1, 27), (3, 121)], zero := .agg [.int .i64 0, .int .i64 0, .int .i64 0, .list .full 0 []], eqn := false }
def Tryz.ti125 : TI := { sz := 1, bytes := 8, kd := .func, zero := .nilfn, eqn := false }
def Tryz.ti129 : TI := { sz := 1, bytes := 8, kd := .func, zero := .nilfn, eqn := false }
def Tryz.ti130 : TI := { sz := 1, bytes := 8, kd := .func, zero := .nilfn, eqn := false }
def Tryz.ti134 : TI := { sz := 7, bytes := 56, kd := .strct [(0, 29), (6, 3)], zero := .agg [.int .i64 0, .int .i64 0, .int .i64 0, .int .i64 0, .int .i64 0, .int .i64 0, .int .i64 0], eqn := false }
def Tryz.ti136 : TI := { sz := 6, bytes := 48, kd := .strct [(0, 29)], zero := .agg [.int .i64 0, .int .i64 0, .int .i64 0, .int .i64 0, .int .i64 0, .int .i64 0], eqn := false }
def Tryz.ti137 : TI := { sz := 6, bytes := 48, kd := .strct [(0, 29)], zero := .agg [.int .i64 0, .int .i64 0, .int .i64 0, .int .i64 0, .int .i64 0, .int .i64 0], eqn := false }
def Tryz.ti140 : TI := { sz := 1, bytes := 8, kd := .map 3 3, zero := .nilmap, eqn := false }
def Tryz.ti143 : TI := { sz := 1, bytes := 8, kd := .func, zero := .nilfn, eqn := false }
def Tryz.ti147 : TI := { sz := 1, bytes := 8, kd := .int .i64, zero := .int .i64 0, eqn := false }
def Tryz.ti155 : TI := { sz := 1, bytes := 4, kd := .int .u32, zero := .int .u32 0, eqn := false }
def Tryz.ti157 : TI := { sz := 1, bytes := 24, kd := .slice 23, zero := .list .full 0 [], eqn := false }
def Tryz.ti161 : TI := { sz := 1, bytes := 8, kd := .int .u64, zero := .int .u64 0, eqn := false }
def Tryz.ti164 : TI := { sz := 1, bytes := 8, kd := .ptr 3, zero := .nilptr, eqn := false }
def Tryz.ti167 : TI := { sz := 1, bytes := 8, kd := .ptr 161, zero := .nilptr, eqn := false }
def Tryz.ti172 : TI := { sz := 4, bytes := 40, kd := .strct [(0, 17), (1, 17), (2, 17), (3, 9)], zero := .agg [.nilptr, .nilptr, .nilptr, .str ByteArray.empty], eqn := false }
def Tryz.ti173 : TI := { sz := 0, bytes := 0, kd := .arr 0 16, zero := .agg [], eqn := false }
def Tryz.ti175 : TI := { sz := 0, bytes := 0, kd := .strct [(0, 173)], zero := .agg [], eqn := false }
def Tryz.ti177 : TI := { sz := 1, bytes := 1, kd := .int .u8, zero := .int .u8 0, eqn := false }
def Tryz.ti178 : TI := { sz := 1, bytes := 1, kd := .int .u8, zero := .int .u8 0, eqn := false }
def Tryz.ti179 : TI := { sz := 1, bytes := 8, kd := .func, zero := .nilfn, eqn := false }
def Tryz.ti180 : TI := { sz := 1, bytes := 8, kd := .ptr 5, zero := .nilptr, eqn := false }
def Tryz.ti181 : TI := { sz := 1, bytes := 4, kd := .int .i32, zero := .int .i32 0, eqn := false }
def Tryz.ti182 : TI := { sz := 1, bytes := 4, kd := .int .i32, zero := .int .i32 0, eqn := false }
def Tryz.ti184 : TI := { sz := 11, bytes := 48, kd := .strct [(0, 12), (1, 12), (2, 155), (3, 177), (4, 5), (5, 5), (6, 178), (7, 179), (8, 180), (9, 181), (10, 182)], zero := .agg [.int .u64 0, .int .u64 0, .int .u32 0, .int .u8 0, .int .u8 0, .int .u8 0, .int .u8 0, .nilfn, .nilptr, .int .i32 0, .int .i32 0], eqn := false }
def Tryz.tyl : List (Nat × TI) := [(2, Tryz.ti2), (3, Tryz.ti3), (4, Tryz.ti4), (5, Tryz.ti5), (6, Tryz.ti6), (8, Tryz.ti8), (9, Tryz.ti9), (10, Tryz.ti10), (11, Tryz.ti11), (12, Tryz.ti12), (14, Tryz.ti14), (15, Tryz.ti15), (16, Tryz.ti16), (17, Tryz.ti17), (19, Tryz.ti19), (20, Tryz.ti20), (22, Tryz.ti22), (23, Tryz.ti23), (25, Tryz.ti25), (27, Tryz.ti27), (29, Tryz.ti29), (30, Tryz.ti30), (33, Tryz.ti33), (38, Tryz.ti38), (40, Tryz.ti40), (53, Tryz.ti53), (65, Tryz.ti65), (74, Tryz.ti74), (76, Tryz.ti76), (77, Tryz.ti77), (81, Tryz.ti81), (82, Tryz.ti82), (85, Tryz.ti85), (90, Tryz.ti90), (91, Tryz.ti91), (95, Tryz.ti95), (105, Tryz.ti105), (107, Tryz.ti107), (111, Tryz.ti111), (113, Tryz.ti113), (120, Tryz.ti120), (121, Tryz.ti121), (123, Tryz.ti123), (125, Tryz.ti125), (129, Tryz.ti129), (130, Tryz.ti130), (134, Tryz.ti134), (136, Tryz.ti136), (137, Tryz.ti137), (140, Tryz.ti140), (143, Tryz.ti143), (147, Tryz.ti147), (155, Tryz.ti155), (157, Tryz.ti157), (161, Tryz.ti161), (164, Tryz.ti164), (167, Tryz.ti167), (172, Tryz.ti172), (173, Tryz.ti173), (175, Tryz.ti175), (177, Tryz.ti177), (178, Tryz.ti178), (179, Tryz.ti179), (180, Tryz.ti180), (181, Tryz.ti181), (182, Tryz.ti182), (184, Tryz.ti184)]
def Tryz.ty (t : Nat) : TI := tyOf Tryz.tyl t
theorem Tryz.ty2 : Tryz.ty 2 = { sz := 1, bytes := 8, kd := .int .i64, zero := .int .i64 0, eqn := false } := rfl
theorem Tryz.ty3 : Tryz.ty 3 = { sz := 1, bytes := 8, kd := .int .i64, zero := .int .i64 0, eqn := false } := rfl
theorem Tryz.ty4 : Tryz.ty 4 = { sz := 1, bytes := 1, kd := .bool, zero := .bool false, eqn := false } := rfl
theorem Tryz.ty5 : Tryz.ty 5 = { sz := 1, bytes := 1, kd := .int .u8, zero := .int .u8 0, eqn := false } := rfl
theorem Tryz.ty6 : Tryz.ty 6 = { sz := 1, bytes := 1, kd := .int .u8, zero := .int .u8 0, eqn := false } := rfl
theorem Tryz.ty8 : Tryz.ty 8 = { sz := 4, bytes := 24, kd := .strct [(0, 2), (1, 3), (2, 4), (3, 6)], zero := .agg [.int .i64 0, .int .i64 0, .bool false, .int .u8 0], eqn := false } := rfl
theorem Tryz.ty9 : Tryz.ty 9 = { sz := 1, bytes := 16, kd := .str, zero := .str ByteArray.empty, eqn := false } := rfl
theorem Tryz.ty10 : Tryz.ty 10 = { sz := 1, bytes := 16, kd := .str, zero := .str ByteArray.empty, eqn := false } := rfl
theorem Tryz.ty11 : Tryz.ty 11 = { sz := 1, bytes := 16, kd := .str, zero := .str ByteArray.empty, eqn := false } := rfl
theorem Tryz.ty12 : Tryz.ty 12 = { sz := 1, bytes := 8, kd := .int .u64, zero := .int .u64 0, eqn := false } := rfl
theorem Tryz.ty14 : Tryz.ty 14 = { sz := 2, bytes := 24, kd := .strct [(0, 9), (1, 12)], zero := .agg [.str ByteArray.empty, .int .u64 0], eqn := false } := rfl
theorem Tryz.ty15 : Tryz.ty 15 = { sz := 1, bytes := 8, kd := .ptr 172, zero := .nilptr, eqn := false } := rfl
theorem Tryz.ty16 : Tryz.ty 16 = { sz := 1, bytes := 8, kd := .ptr 175, zero := .nilptr, eqn := false } := rfl
theorem Tryz.ty17 : Tryz.ty 17 = { sz := 1, bytes := 8, kd := .ptr 184, zero := .nilptr, eqn := false } := rfl
theorem Tryz.ty19 : Tryz.ty 19 = { sz := 1, bytes := 8, kd := .strct [(0, 17)], zero := .agg [.nilptr], eqn := false } := rfl
theorem Tryz.ty20 : Tryz.ty 20 = { sz := 1, bytes := 16, kd := .iface, zero := .niliface, eqn := false } := rfl
theorem Tryz.ty22 : Tryz.ty 22 = { sz := 1, bytes := 24, kd := .slice 27, zero := .list .full 0 [], eqn := false } := rfl
theorem Tryz.ty23 : Tryz.ty 23 = { sz := 1, bytes := 24, kd := .slice 29, zero := .list .full 0 [], eqn := false } := rfl
theorem Tryz.ty25 : Tryz.ty 25 = { sz := 3, bytes := 56, kd := .strct [(0, 3), (1, 22), (2, 23)], zero := .agg [.int .i64 0, .list .full 0 [], .list .full 0 []], eqn := false } := rfl
theorem Tryz.ty27 : Tryz.ty 27 = { sz := 2, bytes := 16, kd := .strct [(0, 3), (1, 3)], zero := .agg [.int .i64 0, .int .i64 0], eqn := true } := rfl
theorem Tryz.ty29 : Tryz.ty 29 = { sz := 6, bytes := 48, kd := .strct [(0, 3), (1, 3), (2, 3), (3, 3), (4, 27)], zero := .agg [.int .i64 0, .int .i64 0, .int .i64 0, .int .i64 0, .int .i64 0, .int .i64 0], eqn := true } := rfl
theorem Tryz.ty30 : Tryz.ty 30 = { sz := 1, bytes := 24, kd := .slice 3, zero := .list .full 0 [], eqn := false } := rfl
theorem Tryz.ty33 : Tryz.ty 33 = { sz := 1, bytes := 8, kd := .ptr 76, zero := .nilptr, eqn := false } := rfl
theorem Tryz.ty38 : Tryz.ty 38 = { sz := 1, bytes := 24, kd := .slice 25, zero := .list .full 0 [], eqn := false } := rfl
theorem Tryz.ty40 : Tryz.ty 40 = { sz := 1, bytes := 8, kd := .int .i64, zero := .int .i64 0, eqn := false } := rfl
theorem Tryz.ty53 : Tryz.ty 53 = { sz := 1, bytes := 24, kd := .slice 30, zero := .list .full 0 [], eqn := false } := rfl
theorem Tryz.ty65 : Tryz.ty 65 = { sz := 1, bytes := 8, kd := .func, zero := .nilfn, eqn := false } := rfl
theorem Tryz.ty74 : Tryz.ty 74 = { sz := 1, bytes := 8, kd := .int .u64, zero := .int .u64 0, eqn := false } := rfl
theorem Tryz.ty76 : Tryz.ty 76 = { sz := 1, bytes := 8, kd := .strct [(0, 74)], zero := .agg [.int .u64 0], eqn := false } := rfl
theorem Tryz.ty77 : Tryz.ty 77 = { sz := 1, bytes := 8, kd := .int .u64, zero := .int .u64 0, eqn := false } := rfl
theorem Tryz.ty81 : Tryz.ty 81 = { sz := 1, bytes := 8, kd := .func, zero := .nilfn, eqn := false } := rfl
theorem Tryz.ty82 : Tryz.ty 82 = { sz := 1, bytes := 8, kd := .func, zero := .nilfn, eqn := false } := rfl
theorem Tryz.ty85 : Tryz.ty 85 = { sz := 1, bytes := 24, kd := .slice 90, zero := .list .full 0 [], eqn := false } := rfl
theorem Tryz.ty90 : Tryz.ty 90 = { sz := 3, bytes := 24, kd := .arr 3 3, zero := .agg [.int .i64 0, .int .i64 0, .int .i64 0], eqn := false } := rfl
theorem Tryz.ty91 : Tryz.ty 91 = { sz := 1, bytes := 8, kd := .func, zero := .nilfn, eqn := false } := rfl
theorem Tryz.ty95 : Tryz.ty 95 = { sz := 1, bytes := 8, kd := .map 3 4, zero := .nilmap, eqn := false } := rfl
theorem Tryz.ty105 : Tryz.ty 105 = { sz := 1, bytes := 8, kd := .func, zero := .nilfn, eqn := false } := rfl
theorem Tryz.ty107 : Tryz.ty 107 = { sz := 1, bytes := 8, kd := .func, zero := .nilfn, eqn := false } := rfl
theorem Tryz.ty111 : Tryz.ty 111 = { sz := 1, bytes := 16, kd := .iface, zero := .niliface, eqn := false } := rfl
theorem Tryz.ty113 : Tryz.ty 113 = { sz := 1, bytes := 8, kd := .map 3 85, zero := .nilmap, eqn := false } := rfl
theorem Tryz.ty120 : Tryz.ty 120 = { sz := 1, bytes := 8, kd := .func, zero := .nilfn, eqn := false } := rfl
theorem Tryz.ty121 : Tryz.ty 121 = { sz := 1, bytes := 24, kd := .slice 111, zero := .list .full 0 [], eqn := false } := rfl
theorem Tryz.ty123 : Tryz.ty 123 = { sz := 4, bytes := 48, kd := .strct [(0, 3), (1, 27), (3, 121)], zero := .agg [.int .i64 0, .int .i64 0, .int .i64 0, .list .full 0 []], eqn := false } := rfl
theorem Tryz.ty125 : Tryz.ty 125 = { sz := 1, bytes := 8, kd := .func, zero := .nilfn, eqn := false } := rfl
theorem Tryz.ty129 : Tryz.ty 129 = { sz := 1, bytes := 8, kd := .func, zero := .nilfn, eqn := false } := rfl
theorem Tryz.ty130 : Tryz.ty 130 = { sz := 1, bytes := 8, kd := .func, zero := .nilfn, eqn := false } := rfl
theorem Tryz.ty134 : Tryz.ty 134 = { sz := 7, bytes := 56, kd := .strct [(0, 29), (6, 3)], zero := .agg [.int .i64 0, .int .i64 0, .int .i64 0, .int .i64 0, .int .i64 0, .int .i64 0, .int .i64 0], eqn := false } := rfl
theorem Tryz.ty136 : Tryz.ty 136 = { sz := 6, bytes := 48, kd := .strct [(0, 29)], zero := .agg [.int .i64 0, .int .i64 0, .int .i64 0, .int .i64 0, .int .i64 0, .int .i64 0], eqn := false } := rfl
theorem Tryz.ty137 : Tryz.ty 137 = { sz := 6, bytes := 48, kd := .strct [(0, 29)], zero := .agg [.int .i64 0, .int .i64 0, .int .i64 0, .int .i64 0, .int .i64 0, .int .i64 0], eqn := false } := rfl
theorem Tryz.ty140 : Tryz.ty 140 = { sz := 1, bytes := 8, kd := .map 3 3, zero := .nilmap, eqn := false } := rfl
theorem Tryz.ty143 : Tryz.ty 143 = { sz := 1, bytes := 8, kd := .func, zero := .nilfn, eqn := false } := rfl
theorem Tryz.ty147 : Tryz.ty 147 = { sz := 1, bytes := 8, kd := .int .i64, zero := .int .i64 0, eqn := false } := rfl
theorem Tryz.ty155 : Tryz.ty 155 = { sz := 1, bytes := 4, kd := .int .u32, zero := .int .u32 0, eqn := false } := rfl
theorem Tryz.ty157 : Tryz.ty 157 = { sz := 1, bytes := 24, kd := .slice 23, zero := .list .full 0 [], eqn := false } := rfl
theorem Tryz.ty161 : Tryz.ty 161 = { sz := 1, bytes := 8, kd := .int .u64, zero := .int .u64 0, eqn := false } := rfl
theorem Tryz.ty164 : Tryz.ty 164 = { sz := 1, bytes := 8, kd := .ptr 3, zero := .nilptr, eqn := false } := rfl
theorem Tryz.ty167 : Tryz.ty 167 = { sz := 1, bytes := 8, kd := .ptr 161, zero := .nilptr, eqn := false } := rfl
theorem Tryz.ty172 : Tryz.ty 172 = { sz := 4, bytes := 40, kd := .strct [(0, 17), (1, 17), (2, 17), (3, 9)], zero := .agg [.nilptr, .nilptr, .nilptr, .str ByteArray.empty], eqn := false } := rfl
theorem Tryz.ty173 : Tryz.ty 173 = { sz := 0, bytes := 0, kd := .arr 0 16, zero := .agg [], eqn := false } := rfl
theorem Tryz.ty175 : Tryz.ty 175 = { sz := 0, bytes := 0, kd := .strct [(0, 173)], zero := .agg [], eqn := false } := rfl
theorem Tryz.ty177 : Tryz.ty 177 = { sz := 1, bytes := 1, kd := .int .u8, zero := .int .u8 0, eqn := false } := rfl
theorem Tryz.ty178 : Tryz.ty 178 = { sz := 1, bytes := 1, kd := .int .u8, zero := .int .u8 0, eqn := false } := rfl
theorem Tryz.ty179 : Tryz.ty 179 = { sz := 1, bytes := 8, kd := .func, zero := .nilfn, eqn := false } := rfl
theorem Tryz.ty180 : Tryz.ty 180 = { sz := 1, bytes := 8, kd := .ptr 5, zero := .nilptr, eqn := false } := rfl
theorem Tryz.ty181 : Tryz.ty 181 = { sz := 1, bytes := 4, kd := .int .i32, zero := .int .i32 0, eqn := false } := rfl
theorem Tryz.ty182 : Tryz.ty 182 = { sz := 1, bytes := 4, kd := .int .i32, zero := .int .i32 0, eqn := false } := rfl
theorem Tryz.ty184 : Tryz.ty 184 = { sz := 11, bytes := 48, kd := .strct [(0, 12), (1, 12), (2, 155), (3, 177), (4, 5), (5, 5), (6, 178), (7, 179), (8, 180), (9, 181), (10, 182)], zero := .agg [.int .u64 0, .int .u64 0, .int .u32 0, .int .u8 0, .int .u8 0, .int .u8 0, .int .u8 0, .nilfn, .nilptr, .int .i32 0, .int .i32 0], eqn := false } := rfl
theorem Tryz.tyok2 : TyOK Tryz.prog 2 Tryz.ti2 := TyOK.of _ (by kernel_rfl) (by kernel_rfl) rfl Tryz.underlying2 rfl
theorem Tryz.tyok3 : TyOK Tryz.prog 3 Tryz.ti3 := TyOK.of _ (by kernel_rfl) (by kernel_rfl) rfl Tryz.underlying3 rfl
theorem Tryz.tyok4 : TyOK Tryz.prog 4 Tryz.ti4 := TyOK.of _ (by kernel_rfl) (by kernel_rfl) rfl Tryz.underlying4 rfl
theorem Tryz.tyok5 : TyOK Tryz.prog 5 Tryz.ti5 := TyOK.of _ (by kernel_rfl) (by kernel_rfl) rfl Tryz.underlying5 rfl
theorem Tryz.tyok6 : TyOK Tryz.prog 6 Tryz.ti6 := TyOK.of _ (by kernel_rfl) (by kernel_rfl) rfl Tryz.underlying6 rfl
theorem Tryz.tyok8 : TyOK Tryz.prog 8 Tryz.ti8 := TyOK.of _ (by kernel_rfl) (by kernel_rfl) rfl Tryz.underlying8 ⟨_, rfl, rfl⟩
theorem Tryz.tyok9 : TyOK Tryz.prog 9 Tryz.ti9 := TyOK.of _ (by kernel_rfl) (by kernel_rfl) rfl Tryz.underlying9 rfl
theorem Tryz.tyok10 : TyOK Tryz.prog 10 Tryz.ti10 := TyOK.of _ (by kernel_rfl) (by kernel_rfl) rfl Tryz.underlying10 rfl
theorem Tryz.tyok11 : TyOK Tryz.prog 11 Tryz.ti11 := TyOK.of _ (by kernel_rfl) (by kernel_rfl) rfl Tryz.underlying11 rfl
theorem Tryz.tyok12 : TyOK Tryz.prog 12 Tryz.ti12 := TyOK.of _ (by kernel_rfl) (by kernel_rfl) rfl Tryz.underlying12 rfl
theorem Tryz.tyok14 : TyOK Tryz.prog 14 Tryz.ti14 := TyOK.of _ (by kernel_rfl) (by kernel_rfl) rfl Tryz.underlying14 ⟨_, rfl, rfl⟩
theorem Tryz.tyok15 : TyOK Tryz.prog 15 Tryz.ti15 := TyOK.of _ (by kernel_rfl) (by kernel_rfl) rfl Tryz.underlying15 rfl
theorem Tryz.tyok16 : TyOK Tryz.prog 16 Tryz.ti16 := TyOK.of _ (by kernel_rfl) (by kernel_rfl) rfl Tryz.underlying16 rfl
theorem Tryz.tyok17 : TyOK Tryz.prog 17 Tryz.ti17 := TyOK.of _ (by kernel_rfl) (by kernel_rfl) rfl Tryz.underlying17 rfl
theorem Tryz.tyok19 : TyOK Tryz.prog 19 Tryz.ti19 := TyOK.of _ (by kernel_rfl) (by kernel_rfl) rfl Tryz.underlying19 ⟨_, rfl, rfl⟩
theorem Tryz.tyok20 : TyOK Tryz.prog 20 Tryz.ti20 := TyOK.of _ (by kernel_rfl) (by kernel_rfl) rfl Tryz.underlying20 ⟨_, rfl⟩
theorem Tryz.tyok22 : TyOK Tryz.prog 22 Tryz.ti22 := TyOK.of _ (by kernel_rfl) (by kernel_rfl) rfl Tryz.underlying22 rfl
theorem Tryz.tyok23 : TyOK Tryz.prog 23 Tryz.ti23 := TyOK.of _ (by kernel_rfl) (by kernel_rfl) rfl Tryz.underlying23 rfl
theorem Tryz.tyok25 : TyOK Tryz.prog 25 Tryz.ti25 := TyOK.of _ (by kernel_rfl) (by kernel_rfl) rfl Tryz.underlying25 ⟨_, rfl, rfl⟩
theorem Tryz.tyok27 : TyOK Tryz.prog 27 Tryz.ti27 := TyOK.of _ (by kernel_rfl) (by kernel_rfl) rfl Tryz.underlying27 ⟨_, rfl, rfl⟩
theorem Tryz.tyok29 : TyOK Tryz.prog 29 Tryz.ti29 := TyOK.of _ (by kernel_rfl) (by kernel_rfl) rfl Tryz.underlying29 ⟨_, rfl, rfl⟩
theorem Tryz.tyok30 : TyOK Tryz.prog 30 Tryz.ti30 := TyOK.of _ (by kernel_rfl) (by kernel_rfl) rfl Tryz.underlying30 rfl
theorem Tryz.tyok33 : TyOK Tryz.prog 33 Tryz.ti33 := TyOK.of _ (by kernel_rfl) (by kernel_rfl) rfl Tryz.underlying33 rfl
theorem Tryz.tyok38 : TyOK Tryz.prog 38 Tryz.ti38 := TyOK.of _ (by kernel_rfl) (by kernel_rfl) rfl Tryz.underlying38 rfl
theorem Tryz.tyok40 : TyOK Tryz.prog 40 Tryz.ti40 := TyOK.of _ (by kernel_rfl) (by kernel_rfl) rfl Tryz.underlying40 rfl
theorem Tryz.tyok53 : TyOK Tryz.prog 53 Tryz.ti53 := TyOK.of _ (by kernel_rfl) (by kernel_rfl) rfl Tryz.underlying53 rfl
theorem Tryz.tyok65 : TyOK Tryz.prog 65 Tryz.ti65 := TyOK.of _ (by kernel_rfl) (by kernel_rfl) rfl Tryz.underlying65 ⟨_, _, _, rfl⟩
theorem Tryz.tyok74 : TyOK Tryz.prog 74 Tryz.ti74 := TyOK.of _ (by kernel_rfl) (by kernel_rfl) rfl Tryz.underlying74 rfl
theorem Tryz.tyok76 : TyOK Tryz.prog 76 Tryz.ti76 := TyOK.of _ (by kernel_rfl) (by kernel_rfl) rfl Tryz.underlying76 ⟨_, rfl, rfl⟩
theorem Tryz.tyok77 : TyOK Tryz.prog 77 Tryz.ti77 := TyOK.of _ (by kernel_rfl) (by kernel_rfl) rfl Tryz.underlying77 rfl
theorem Tryz.tyok81 : TyOK Tryz.prog 81 Tryz.ti81 := TyOK.of _ (by kernel_rfl) (by kernel_rfl) rfl Tryz.underlying81 ⟨_, _, _, rfl⟩
theorem Tryz.tyok82 : TyOK Tryz.prog 82 Tryz.ti82 := TyOK.of _ (by kernel_rfl) (by kernel_rfl) rfl Tryz.underlying82 ⟨_, _, _, rfl⟩
theorem Tryz.tyok85 : TyOK Tryz.prog 85 Tryz.ti85 := TyOK.of _ (by kernel_rfl) (by kernel_rfl) rfl Tryz.underlying85 rfl
theorem Tryz.tyok90 : TyOK Tryz.prog 90 Tryz.ti90 := TyOK.of _ (by kernel_rfl) (by kernel_rfl) rfl Tryz.underlying90 rfl
theorem Tryz.tyok91 : TyOK Tryz.prog 91 Tryz.ti91 := TyOK.of _ (by kernel_rfl) (by kernel_rfl) rfl Tryz.underlying91 ⟨_, _, _, rfl⟩
theorem Tryz.tyok95 : TyOK Tryz.prog 95 Tryz.ti95 := TyOK.of _ (by kernel_rfl) (by kernel_rfl) rfl Tryz.underlying95 rfl
theorem Tryz.tyok105 : TyOK Tryz.prog 105 Tryz.ti105 := TyOK.of _ (by kernel_rfl) (by kernel_rfl) rfl Tryz.underlying105 ⟨_, _, _, rfl⟩
theorem Tryz.tyok107 : TyOK Tryz.prog 107 Tryz.ti107 := TyOK.of _ (by kernel_rfl) (by kernel_rfl) rfl Tryz.underlying107 ⟨_, _, _, rfl⟩
theorem Tryz.tyok111 : TyOK Tryz.prog 111 Tryz.ti111 := TyOK.of _ (by kernel_rfl) (by kernel_rfl) rfl Tryz.underlying111 ⟨_, rfl⟩
theorem Tryz.tyok113 : TyOK Tryz.prog 113 Tryz.ti113 := TyOK.of _ (by kernel_rfl) (by kernel_rfl) rfl Tryz.underlying113 rfl
theorem Tryz.tyok120 : TyOK Tryz.prog 120 Tryz.ti120 := TyOK.of _ (by kernel_rfl) (by kernel_rfl) rfl Tryz.underlying120 ⟨_, _, _, rfl⟩
theorem Tryz.tyok121 : TyOK Tryz.prog 121 Tryz.ti121 := TyOK.of _ (by kernel_rfl) (by kernel_rfl) rfl Tryz.underlying121 rfl
theorem Tryz.tyok123 : TyOK Tryz.prog 123 Tryz.ti123 := TyOK.of _ (by kernel_rfl) (by kernel_rfl) rfl Tryz.underlying123 ⟨_, rfl, rfl⟩
theorem Tryz.tyok125 : TyOK Tryz.prog 125 Tryz.ti125 := TyOK.of _ (by kernel_rfl) (by kernel_rfl) rfl Tryz.underlying125 ⟨_, _, _, rfl⟩
theorem Tryz.tyok129 : TyOK Tryz.prog 129 Tryz.ti129 := TyOK.of _ (by kernel_rfl) (by kernel_rfl) rfl Tryz.underlying129 ⟨_, _, _, rfl⟩
theorem Tryz.tyok130 : TyOK Tryz.prog 130 Tryz.ti130 := TyOK.of _ (by kernel_rfl) (by kernel_rfl) rfl Tryz.underlying130 ⟨_, _, _, rfl⟩
theorem Tryz.tyok134 : TyOK Tryz.prog 134 Tryz.ti134 := TyOK.of _ (by kernel_rfl) (by kernel_rfl) rfl Tryz.underlying134 ⟨_, rfl, rfl⟩
theorem Tryz.tyok136 : TyOK Tryz.prog 136 Tryz.ti136 := TyOK.of _ (by kernel_rfl) (by kernel_rfl) rfl Tryz.underlying136 ⟨_, rfl, rfl⟩
theorem Tryz.tyok137 : TyOK Tryz.prog 137 Tryz.ti137 := TyOK.of _ (by kernel_rfl) (by kernel_rfl) rfl Tryz.underlying137 ⟨_, rfl, rfl⟩
theorem Tryz.tyok140 : TyOK Tryz.prog 140 Tryz.ti140 := TyOK.of _ (by kernel_rfl) (by kernel_rfl) rfl Tryz.underlying140 rfl
theorem Tryz.tyok143 : TyOK Tryz.prog 143 Tryz.ti143 := TyOK.of _ (by kernel_rfl) (by kernel_rfl) rfl Tryz.underlying143 ⟨_, _, _, rfl⟩
theorem Tryz.tyok147 : TyOK Tryz.prog 147 Tryz.ti147 := TyOK.of _ (by kernel_rfl) (by kernel_rfl) rfl Tryz.underlying147 rfl
theorem Tryz.tyok155 : TyOK Tryz.prog 155 Tryz.ti155 := TyOK.of _ (by kernel_rfl) (by kernel_rfl) rfl Tryz.underlying155 rfl
theorem Tryz.tyok157 : TyOK Tryz.prog 157 Tryz.ti157 := TyOK.of _ (by kernel_rfl) (by kernel_rfl) rfl Tryz.underlying157 rfl
theorem Tryz.tyok161 : TyOK Tryz.prog 161 Tryz.ti161 := TyOK.of _ (by kernel_rfl) (by kernel_rfl) rfl Tryz.underlying161 rfl
theorem Tryz.tyok164 : TyOK Tryz.prog 164 Tryz.ti164 := TyOK.of _ (by kernel_rfl) (by kernel_rfl) rfl Tryz.underlying164 rfl
theorem Tryz.tyok167 : TyOK Tryz.prog 167 Tryz.ti167 := TyOK.of _ (by kernel_rfl) (by kernel_rfl) rfl Tryz.underlying167 rfl
theorem Tryz.tyok172 : TyOK Tryz.prog 172 Tryz.ti172 := TyOK.of _ (by kernel_rfl) (by kernel_rfl) rfl Tryz.underlying172 ⟨_, rfl, rfl⟩
theorem Tryz.tyok173 : TyOK Tryz.prog 173 Tryz.ti173 := TyOK.of _ (by kernel_rfl) (by kernel_rfl) rfl Tryz.underlying173 rfl
theorem Tryz.tyok175 : TyOK Tryz.prog 175 Tryz.ti175 := TyOK.of _ (by kernel_rfl) (by kernel_rfl) rfl Tryz.underlying175 ⟨_, rfl, rfl⟩
theorem Tryz.tyok177 : TyOK Tryz.prog 177 Tryz.ti177 := TyOK.of _ (by kernel_rfl) (by kernel_rfl) rfl Tryz.underlying177 rfl
theorem Tryz.tyok178 : TyOK Tryz.prog 178 Tryz.ti178 := TyOK.of _ (by kernel_rfl) (by kernel_rfl) rfl Tryz.underlying178 rfl
theorem Tryz.tyok179 : TyOK Tryz.prog 179 Tryz.ti179 := TyOK.of _ (by kernel_rfl) (by kernel_rfl) rfl Tryz.underlying179 ⟨_, _, _, rfl⟩
theorem Tryz.tyok180 : TyOK Tryz.prog 180 Tryz.ti180 := TyOK.of _ (by kernel_rfl) (by kernel_rfl) rfl Tryz.underlying180 rfl
theorem Tryz.tyok181 : TyOK Tryz.prog 181 Tryz.ti181 := TyOK.of _ (by kernel_rfl) (by kernel_rfl) rfl Tryz.underlying181 rfl
theorem Tryz.tyok182 : TyOK Tryz.prog 182 Tryz.ti182 := TyOK.of _ (by kernel_rfl) (by kernel_rfl) rfl Tryz.underlying182 rfl
theorem Tryz.tyok184 : TyOK Tryz.prog 184 Tryz.ti184 := TyOK.of _ (by kernel_rfl) (by kernel_rfl) rfl Tryz.underlying184 ⟨_, rfl, rfl⟩
theorem Tryz.tysOK : TysOK Tryz.prog Tryz.ty := tys_of (by
  simp only [Tryz.tyl, List.forall_mem_cons, List.not_mem_nil, false_implies, implies_true, and_true]
  exact ⟨Tryz.tyok2, Tryz.tyok3, Tryz.tyok4, Tryz.tyok5, Tryz.tyok6, Tryz.tyok8, Tryz.tyok9, Tryz.tyok10, Tryz.tyok11, Tryz.tyok12, Tryz.tyok14, Tryz.tyok15, Tryz.tyok16, Tryz.tyok17, Tryz.tyok19, Tryz.tyok20, Tryz.tyok22, Tryz.tyok23, Tryz.tyok25, Tryz.tyok27, Tryz.tyok29, Tryz.tyok30, Tryz.tyok33, Tryz.tyok38, Tryz.tyok40, Tryz.tyok53, Tryz.tyok65, Tryz.tyok74, Tryz.tyok76, Tryz.tyok77, Tryz.tyok81, Tryz.tyok82, Tryz.tyok85, Tryz.tyok90, Tryz.tyok91, Tryz.tyok95, Tryz.tyok105, Tryz.tyok107, Tryz.tyok111, Tryz.tyok113, Tryz.tyok120, Tryz.tyok121, Tryz.tyok123, Tryz.tyok125, Tryz.tyok129, Tryz.tyok130, Tryz.tyok134, Tryz.tyok136, Tryz.tyok137, Tryz.tyok140, Tryz.tyok143, Tryz.tyok147, Tryz.tyok155, Tryz.tyok157, Tryz.tyok161, Tryz.tyok164, Tryz.tyok167, Tryz.tyok172, Tryz.tyok173, Tryz.tyok175, Tryz.tyok177, Tryz.tyok178, Tryz.tyok179, Tryz.tyok180, Tryz.tyok181, Tryz.tyok182, Tryz.tyok184⟩)
-- equalities at [27, 29]
end Go.Proofs
