/- The types of the seat, told to the abstract layer. Written by program. -/
import Derived.Test.YtbkjffpembflcaaMu3
import Derived.Test.YtbkjffpembflcaaProg
import Derived.KernelRfl
set_option linter.unusedSimpArgs false
set_option linter.unusedVariables false
set_option maxRecDepth 100000
namespace Go.Proofs
open Go Go.Mu
def Try.ti2 : TI := { sz := 1, bytes := 8, kd := .int .i64, zero := .int .i64 0, eqn := false }
def Try.ti3 : TI := { sz := 1, bytes := 8, kd := .int .i64, zero := .int .i64 0, eqn := false }
def Try.ti4 : TI := { sz := 1, bytes := 1, kd := .bool, zero := .bool false, eqn := false }
def Try.ti5 : TI := { sz := 1, bytes := 1, kd := .int .u8, zero := .int .u8 0, eqn := false }
def Try.ti6 : TI := { sz := 1, bytes := 1, kd := .int .u8, zero := .int .u8 0, eqn := false }
def Try.ti8 : TI := { sz := 4, bytes := 24, kd := .strct [(0, 2), (1, 3), (2, 4), (3, 6)], zero := .agg [.int .i64 0, .int .i64 0, .bool false, .int .u8 0], eqn := false }
def Try.ti9 : TI := { sz := 1, bytes := 16, kd := .str, zero := .str ByteArray.empty, eqn := false }
def Try.ti10 : TI := { sz := 1, bytes := 16, kd := .str, zero := .str ByteArray.empty, eqn := false }
def Try.ti11 : TI := { sz := 1, bytes := 16, kd := .str, zero := .str ByteArray.empty, eqn := false }
def Try.ti12 : TI := { sz := 1, bytes := 8, kd := .int .u64, zero := .int .u64 0, eqn := false }
def Try.ti14 : TI := { sz := 2, bytes := 24, kd := .strct [(0, 9), (1, 12)], zero := .agg [.str ByteArray.empty, .int .u64 0], eqn := false }
def Try.ti15 : TI := { sz := 1, bytes := 8, kd := .ptr 190, zero := .nilptr, eqn := false }
def Try.ti16 : TI := { sz := 1, bytes := 8, kd := .ptr 193, zero := .nilptr, eqn := false }
def Try.ti17 : TI := { sz := 1, bytes := 8, kd := .ptr 202, zero := .nilptr, eqn := false }
def Try.ti19 : TI := { sz := 1, bytes := 8, kd := .strct [(0, 17)], zero := .agg [.nilptr], eqn := false }
def Try.ti20 : TI := { sz := 1, bytes := 16, kd := .iface, zero := .niliface, eqn := false }
def Try.ti22 : TI := { sz := 1, bytes := 24, kd := .slice 27, zero := .list .full 0 [], eqn := false }
def Try.ti23 : TI := { sz := 1, bytes := 24, kd := .slice 50, zero := .list .full 0 [], eqn := false }
def Try.ti25 : TI := { sz := 3, bytes := 56, kd := .strct [(0, 3), (1, 22), (2, 23)], zero := .agg [.int .i64 0, .list .full 0 [], .list .full 0 []], eqn := false }
def Try.ti27 : TI := { sz := 2, bytes := 16, kd := .strct [(0, 3), (1, 3)], zero := .agg [.int .i64 0, .int .i64 0], eqn := true }
def Try.ti28 : TI := { sz := 1, bytes := 24, kd := .slice 3, zero := .list .full 0 [], eqn := false }
def Try.ti31 : TI := { sz := 1, bytes := 8, kd := .ptr 95, zero := .nilptr, eqn := false }
def Try.ti35 : TI := { sz := 1, bytes := 24, kd := .slice 25, zero := .list .full 0 [], eqn := false }
def Try.ti39 : TI := { sz := 1, bytes := 24, kd := .slice 28, zero := .list .full 0 [], eqn := false }
def Try.ti42 : TI := { sz := 1, bytes := 8, kd := .int .i64, zero := .int .i64 0, eqn := false }
def Try.ti50 : TI := { sz := 6, bytes := 48, kd := .strct [(0, 3), (1, 3), (2, 3), (3, 3), (4, 27)], zero := .agg [.int .i64 0, .int .i64 0, .int .i64 0, .int .i64 0, .int .i64 0, .int .i64 0], eqn := true }
def Try.ti54 : TI := { sz := 1, bytes := 8, kd := .func, zero := .nilfn, eqn := false }
def Try.ti58 : TI := { sz := 1, bytes := 24, kd := .slice 39, zero := .list .full 0 [], eqn := false }
def Try.ti66 : TI := { sz := 1, bytes := 8, kd := .ptr 50, zero := .nilptr, eqn := false }
def Try.ti93 : TI := { sz := 1, bytes := 8, kd := .int .u64, zero := .int .u64 0, eqn := false }
def Try.ti95 : TI := { sz := 1, bytes := 8, kd := .strct [(0, 93)], zero := .agg [.int .u64 0], eqn := false }
def Try.ti96 : TI := { sz := 1, bytes := 8, kd := .int .u64, zero := .int .u64 0, eqn := false }
def Try.ti100 : TI := { sz := 1, bytes := 24, kd := .slice 110, zero := .list .full 0 [], eqn := false }
def Try.ti104 : TI := { sz := 1, bytes := 16, kd := .iface, zero := .niliface, eqn := false }
def Try.ti106 : TI := { sz := 1, bytes := 8, kd := .map 3 100, zero := .nilmap, eqn := false }
def Try.ti110 : TI := { sz := 3, bytes := 24, kd := .arr 3 3, zero := .agg [.int .i64 0, .int .i64 0, .int .i64 0], eqn := false }
def Try.ti111 : TI := { sz := 1, bytes := 8, kd := .func, zero := .nilfn, eqn := false }
def Try.ti116 : TI := { sz := 1, bytes := 24, kd := .slice 104, zero := .list .full 0 [], eqn := false }
def Try.ti118 : TI := { sz := 4, bytes := 48, kd := .strct [(0, 3), (1, 27), (3, 116)], zero := .agg [.int .i64 0, .int .i64 0, .int .i64 0, .list .full 0 []], eqn := false }
def Try.ti124 : TI := { sz := 1, bytes := 8, kd := .func, zero := .nilfn, eqn := false }
def Try.ti131 : TI := { sz := 1, bytes := 8, kd := .func, zero := .nilfn, eqn := false }
def Try.ti133 : TI := { sz := 1, bytes := 8, kd := .func, zero := .nilfn, eqn := false }
def Try.ti134 : TI := { sz := 1, bytes := 8, kd := .func, zero := .nilfn, eqn := false }
def Try.ti140 : TI := { sz := 1, bytes := 8, kd := .func, zero := .nilfn, eqn := false }
def Try.ti141 : TI := { sz := 1, bytes := 8, kd := .map 3 4, zero := .nilmap, eqn := false }
def Try.ti146 : TI := { sz := 7, bytes := 56, kd := .strct [(0, 50), (6, 3)], zero := .agg [.int .i64 0, .int .i64 0, .int .i64 0, .int .i64 0, .int .i64 0, .int .i64 0, .int .i64 0], eqn := false }
def Try.ti148 : TI := { sz := 6, bytes := 48, kd := .strct [(0, 50)], zero := .agg [.int .i64 0, .int .i64 0, .int .i64 0, .int .i64 0, .int .i64 0, .int .i64 0], eqn := false }
def Try.ti149 : TI := { sz := 6, bytes := 48, kd := .strct [(0, 50)], zero := .agg [.int .i64 0, .int .i64 0, .int .i64 0, .int .i64 0, .int .i64 0, .int .i64 0], eqn := false }
def Try.ti154 : TI := { sz := 1, bytes := 8, kd := .func, zero := .nilfn, eqn := false }
def Try.ti156 : TI := { sz := 1, bytes := 8, kd := .map 3 3, zero := .nilmap, eqn := false }
def Try.ti157 : TI := { sz := 1, bytes := 8, kd := .func, zero := .nilfn, eqn := false }
def Try.ti158 : TI := { sz := 1, bytes := 8, kd := .func, zero := .nilfn, eqn := false }
def Try.ti159 : TI := { sz := 1, bytes := 8, kd := .func, zero := .nilfn, eqn := false }
def Try.ti164 : TI := { sz := 1, bytes := 24, kd := .slice 23, zero := .list .full 0 [], eqn := false }
def Try.ti170 : TI := { sz := 1, bytes := 8, kd := .int .i64, zero := .int .i64 0, eqn := false }
def Try.ti178 : TI := { sz := 1, bytes := 4, kd := .int .u32, zero := .int .u32 0, eqn := false }
def Try.ti180 : TI := { sz := 1, bytes := 8, kd := .int .u64, zero := .int .u64 0, eqn := false }
def Try.ti183 : TI := { sz := 1, bytes := 8, kd := .ptr 3, zero := .nilptr, eqn := false }
def Try.ti186 : TI := { sz := 1, bytes := 8, kd := .ptr 180, zero := .nilptr, eqn := false }
def Try.ti190 : TI := { sz := 4, bytes := 40, kd := .strct [(0, 17), (1, 17), (2, 17), (3, 9)], zero := .agg [.nilptr, .nilptr, .nilptr, .str ByteArray.empty], eqn := false }
def Try.ti191 : TI := { sz := 0, bytes := 0, kd := .arr 0 16, zero := .agg [], eqn := false }
def Try.ti193 : TI := { sz := 0, bytes := 0, kd := .strct [(0, 191)], zero := .agg [], eqn := false }
def Try.ti195 : TI := { sz := 1, bytes := 1, kd := .int .u8, zero := .int .u8 0, eqn := false }
def Try.ti196 : TI := { sz := 1, bytes := 1, kd := .int .u8, zero := .int .u8 0, eqn := false }
def Try.ti197 : TI := { sz := 1, bytes := 8, kd := .func, zero := .nilfn, eqn := false }
def Try.ti198 : TI := { sz := 1, bytes := 8, kd := .ptr 5, zero := .nilptr, eqn := false }
def Try.ti199 : TI := { sz := 1, bytes := 4, kd := .int .i32, zero := .int .i32 0, eqn := false }
def Try.ti200 : TI := { sz := 1, bytes := 4, kd := .int .i32, zero := .int .i32 0, eqn := false }
def Try.ti202 : TI := { sz := 11, bytes := 48, kd := .strct [(0, 12), (1, 12), (2, 178), (3, 195), (4, 5), (5, 5), (6, 196), (7, 197), (8, 198), (9, 199), (10, 200)], zero := .agg [.int .u64 0, .int .u64 0, .int .u32 0, .int .u8 0, .int .u8 0, .int .u8 0, .int .u8 0, .nilfn, .nilptr, .int .i32 0, .int .i32 0], eqn := false }
def Try.tyl : List (Nat × TI) := [(2, Try.ti2), (3, Try.ti3), (4, Try.ti4), (5, Try.ti5), (6, Try.ti6), (8, Try.ti8), (9, Try.ti9), (10, Try.ti10), (11, Try.ti11), (12, Try.ti12), (14, Try.ti14), (15, Try.ti15), (16, Try.ti16), (17, Try.ti17), (19, Try.ti19), (20, Try.ti20), (22, Try.ti22), (23, Try.ti23), (25, Try.ti25), (27, Try.ti27), (28, Try.ti28), (31, Try.ti31), (35, Try.ti35), (39, Try.ti39), (42, Try.ti42), (50, Try.ti50), (54, Try.ti54), (58, Try.ti58), (66, Try.ti66), (93, Try.ti93), (95, Try.ti95), (96, Try.ti96), (100, Try.ti100), (104, Try.ti104), (106, Try.ti106), (110, Try.ti110), (111, Try.ti111), (116, Try.ti116), (118, Try.ti118), (124, Try.ti124), (131, Try.ti131), (133, Try.ti133), (134, Try.ti134), (140, Try.ti140), (141, Try.ti141), (146, Try.ti146), (148, Try.ti148), (149, Try.ti149), (154, Try.ti154), (156, Try.ti156), (157, Try.ti157), (158, Try.ti158), (159, Try.ti159), (164, Try.ti164), (170, Try.ti170), (178, Try.ti178), (180, Try.ti180), (183, Try.ti183), (186, Try.ti186), (190, Try.ti190), (191, Try.ti191), (193, Try.ti193), (195, Try.ti195), (196, Try.ti196), (197, Try.ti197), (198, Try.ti198), (199, Try.ti199), (200, Try.ti200), (202, Try.ti202)]
def Try.ty (t : Nat) : TI := tyOf Try.tyl t
theorem Try.ty2 : Try.ty 2 = { sz := 1, bytes := 8, kd := .int .i64, zero := .int .i64 0, eqn := false } := rfl
theorem Try.ty3 : Try.ty 3 = { sz := 1, bytes := 8, kd := .int .i64, zero := .int .i64 0, eqn := false } := rfl
theorem Try.ty4 : Try.ty 4 = { sz := 1, bytes := 1, kd := .bool, zero := .bool false, eqn := false } := rfl
theorem Try.ty5 : Try.ty 5 = { sz := 1, bytes := 1, kd := .int .u8, zero := .int .u8 0, eqn := false } := rfl
theorem Try.ty6 : Try.ty 6 = { sz := 1, bytes := 1, kd := .int .u8, zero := .int .u8 0, eqn := false } := rfl
theorem Try.ty8 : Try.ty 8 = { sz := 4, bytes := 24, kd := .strct [(0, 2), (1, 3), (2, 4), (3, 6)], zero := .agg [.int .i64 0, .int .i64 0, .bool false, .int .u8 0], eqn := false } := rfl
theorem Try.ty9 : Try.ty 9 = { sz := 1, bytes := 16, kd := .str, zero := .str ByteArray.empty, eqn := false } := rfl
theorem Try.ty10 : Try.ty 10 = { sz := 1, bytes := 16, kd := .str, zero := .str ByteArray.empty, eqn := false } := rfl
theorem Try.ty11 : Try.ty 11 = { sz := 1, bytes := 16, kd := .str, zero := .str ByteArray.empty, eqn := false } := rfl
theorem Try.ty12 : Try.ty 12 = { sz := 1, bytes := 8, kd := .int .u64, zero := .int .u64 0, eqn := false } := rfl
theorem Try.ty14 : Try.ty 14 = { sz := 2, bytes := 24, kd := .strct [(0, 9), (1, 12)], zero := .agg [.str ByteArray.empty, .int .u64 0], eqn := false } := rfl
theorem Try.ty15 : Try.ty 15 = { sz := 1, bytes := 8, kd := .ptr 190, zero := .nilptr, eqn := false } := rfl
theorem Try.ty16 : Try.ty 16 = { sz := 1, bytes := 8, kd := .ptr 193, zero := .nilptr, eqn := false } := rfl
theorem Try.ty17 : Try.ty 17 = { sz := 1, bytes := 8, kd := .ptr 202, zero := .nilptr, eqn := false } := rfl
theorem Try.ty19 : Try.ty 19 = { sz := 1, bytes := 8, kd := .strct [(0, 17)], zero := .agg [.nilptr], eqn := false } := rfl
theorem Try.ty20 : Try.ty 20 = { sz := 1, bytes := 16, kd := .iface, zero := .niliface, eqn := false } := rfl
theorem Try.ty22 : Try.ty 22 = { sz := 1, bytes := 24, kd := .slice 27, zero := .list .full 0 [], eqn := false } := rfl
theorem Try.ty23 : Try.ty 23 = { sz := 1, bytes := 24, kd := .slice 50, zero := .list .full 0 [], eqn := false } := rfl
theorem Try.ty25 : Try.ty 25 = { sz := 3, bytes := 56, kd := .strct [(0, 3), (1, 22), (2, 23)], zero := .agg [.int .i64 0, .list .full 0 [], .list .full 0 []], eqn := false } := rfl
theorem Try.ty27 : Try.ty 27 = { sz := 2, bytes := 16, kd := .strct [(0, 3), (1, 3)], zero := .agg [.int .i64 0, .int .i64 0], eqn := true } := rfl
theorem Try.ty28 : Try.ty 28 = { sz := 1, bytes := 24, kd := .slice 3, zero := .list .full 0 [], eqn := false } := rfl
theorem Try.ty31 : Try.ty 31 = { sz := 1, bytes := 8, kd := .ptr 95, zero := .nilptr, eqn := false } := rfl
theorem Try.ty35 : Try.ty 35 = { sz := 1, bytes := 24, kd := .slice 25, zero := .list .full 0 [], eqn := false } := rfl
theorem Try.ty39 : Try.ty 39 = { sz := 1, bytes := 24, kd := .slice 28, zero := .list .full 0 [], eqn := false } := rfl
theorem Try.ty42 : Try.ty 42 = { sz := 1, bytes := 8, kd := .int .i64, zero := .int .i64 0, eqn := false } := rfl
theorem Try.ty50 : Try.ty 50 = { sz := 6, bytes := 48, kd := .strct [(0, 3), (1, 3), (2, 3), (3, 3), (4, 27)], zero := .agg [.int .i64 0, .int .i64 0, .int .i64 0, .int .i64 0, .int .i64 0, .int .i64 0], eqn := true } := rfl
theorem Try.ty54 : Try.ty 54 = { sz := 1, bytes := 8, kd := .func, zero := .nilfn, eqn := false } := rfl
theorem Try.ty58 : Try.ty 58 = { sz := 1, bytes := 24, kd := .slice 39, zero := .list .full 0 [], eqn := false } := rfl
theorem Try.ty66 : Try.ty 66 = { sz := 1, bytes := 8, kd := .ptr 50, zero := .nilptr, eqn := false } := rfl
theorem Try.ty93 : Try.ty 93 = { sz := 1, bytes := 8, kd := .int .u64, zero := .int .u64 0, eqn := false } := rfl
theorem Try.ty95 : Try.ty 95 = { sz := 1, bytes := 8, kd := .strct [(0, 93)], zero := .agg [.int .u64 0], eqn := false } := rfl
theorem Try.ty96 : Try.ty 96 = { sz := 1, bytes := 8, kd := .int .u64, zero := .int .u64 0, eqn := false } := rfl
theorem Try.ty100 : Try.ty 100 = { sz := 1, bytes := 24, kd := .slice 110, zero := .list .full 0 [], eqn := false } := rfl
theorem Try.ty104 : Try.ty 104 = { sz := 1, bytes := 16, kd := .iface, zero := .niliface, eqn := false } := rfl
theorem Try.ty106 : Try.ty 106 = { sz := 1, bytes := 8, kd := .map 3 100, zero := .nilmap, eqn := false } := rfl
theorem Try.ty110 : Try.ty 110 = { sz := 3, bytes := 24, kd := .arr 3 3, zero := .agg [.int .i64 0, .int .i64 0, .int .i64 0], eqn := false } := rfl
theorem Try.ty111 : Try.ty 111 = { sz := 1, bytes := 8, kd := .func, zero := .nilfn, eqn := false } := rfl
theorem Try.ty116 : Try.ty 116 = { sz := 1, bytes := 24, kd := .slice 104, zero := .list .full 0 [], eqn := false } := rfl
theorem Try.ty118 : Try.ty 118 = { sz := 4, bytes := 48, kd := .strct [(0, 3), (1, 27), (3, 116)], zero := .agg [.int .i64 0, .int .i64 0, .int .i64 0, .list .full 0 []], eqn := false } := rfl
theorem Try.ty124 : Try.ty 124 = { sz := 1, bytes := 8, kd := .func, zero := .nilfn, eqn := false } := rfl
theorem Try.ty131 : Try.ty 131 = { sz := 1, bytes := 8, kd := .func, zero := .nilfn, eqn := false } := rfl
theorem Try.ty133 : Try.ty 133 = { sz := 1, bytes := 8, kd := .func, zero := .nilfn, eqn := false } := rfl
theorem Try.ty134 : Try.ty 134 = { sz := 1, bytes := 8, kd := .func, zero := .nilfn, eqn := false } := rfl
theorem Try.ty140 : Try.ty 140 = { sz := 1, bytes := 8, kd := .func, zero := .nilfn, eqn := false } := rfl
theorem Try.ty141 : Try.ty 141 = { sz := 1, bytes := 8, kd := .map 3 4, zero := .nilmap, eqn := false } := rfl
theorem Try.ty146 : Try.ty 146 = { sz := 7, bytes := 56, kd := .strct [(0, 50), (6, 3)], zero := .agg [.int .i64 0, .int .i64 0, .int .i64 0, .int .i64 0, .int .i64 0, .int .i64 0, .int .i64 0], eqn := false } := rfl
theorem Try.ty148 : Try.ty 148 = { sz := 6, bytes := 48, kd := .strct [(0, 50)], zero := .agg [.int .i64 0, .int .i64 0, .int .i64 0, .int .i64 0, .int .i64 0, .int .i64 0], eqn := false } := rfl
theorem Try.ty149 : Try.ty 149 = { sz := 6, bytes := 48, kd := .strct [(0, 50)], zero := .agg [.int .i64 0, .int .i64 0, .int .i64 0, .int .i64 0, .int .i64 0, .int .i64 0], eqn := false } := rfl
theorem Try.ty154 : Try.ty 154 = { sz := 1, bytes := 8, kd := .func, zero := .nilfn, eqn := false } := rfl
theorem Try.ty156 : Try.ty 156 = { sz := 1, bytes := 8, kd := .map 3 3, zero := .nilmap, eqn := false } := rfl
theorem Try.ty157 : Try.ty 157 = { sz := 1, bytes := 8, kd := .func, zero := .nilfn, eqn := false } := rfl
theorem Try.ty158 : Try.ty 158 = { sz := 1, bytes := 8, kd := .func, zero := .nilfn, eqn := false } := rfl
theorem Try.ty159 : Try.ty 159 = { sz := 1, bytes := 8, kd := .func, zero := .nilfn, eqn := false } := rfl
theorem Try.ty164 : Try.ty 164 = { sz := 1, bytes := 24, kd := .slice 23, zero := .list .full 0 [], eqn := false } := rfl
theorem Try.ty170 : Try.ty 170 = { sz := 1, bytes := 8, kd := .int .i64, zero := .int .i64 0, eqn := false } := rfl
theorem Try.ty178 : Try.ty 178 = { sz := 1, bytes := 4, kd := .int .u32, zero := .int .u32 0, eqn := false } := rfl
theorem Try.ty180 : Try.ty 180 = { sz := 1, bytes := 8, kd := .int .u64, zero := .int .u64 0, eqn := false } := rfl
theorem Try.ty183 : Try.ty 183 = { sz := 1, bytes := 8, kd := .ptr 3, zero := .nilptr, eqn := false } := rfl
theorem Try.ty186 : Try.ty 186 = { sz := 1, bytes := 8, kd := .ptr 180, zero := .nilptr, eqn := false } := rfl
theorem Try.ty190 : Try.ty 190 = { sz := 4, bytes := 40, kd := .strct [(0, 17), (1, 17), (2, 17), (3, 9)], zero := .agg [.nilptr, .nilptr, .nilptr, .str ByteArray.empty], eqn := false } := rfl
theorem Try.ty191 : Try.ty 191 = { sz := 0, bytes := 0, kd := .arr 0 16, zero := .agg [], eqn := false } := rfl
theorem Try.ty193 : Try.ty 193 = { sz := 0, bytes := 0, kd := .strct [(0, 191)], zero := .agg [], eqn := false } := rfl
theorem Try.ty195 : Try.ty 195 = { sz := 1, bytes := 1, kd := .int .u8, zero := .int .u8 0, eqn := false } := rfl
theorem Try.ty196 : Try.ty 196 = { sz := 1, bytes := 1, kd := .int .u8, zero := .int .u8 0, eqn := false } := rfl
theorem Try.ty197 : Try.ty 197 = { sz := 1, bytes := 8, kd := .func, zero := .nilfn, eqn := false } := rfl
theorem Try.ty198 : Try.ty 198 = { sz := 1, bytes := 8, kd := .ptr 5, zero := .nilptr, eqn := false } := rfl
theorem Try.ty199 : Try.ty 199 = { sz := 1, bytes := 4, kd := .int .i32, zero := .int .i32 0, eqn := false } := rfl
theorem Try.ty200 : Try.ty 200 = { sz := 1, bytes := 4, kd := .int .i32, zero := .int .i32 0, eqn := false } := rfl
theorem Try.ty202 : Try.ty 202 = { sz := 11, bytes := 48, kd := .strct [(0, 12), (1, 12), (2, 178), (3, 195), (4, 5), (5, 5), (6, 196), (7, 197), (8, 198), (9, 199), (10, 200)], zero := .agg [.int .u64 0, .int .u64 0, .int .u32 0, .int .u8 0, .int .u8 0, .int .u8 0, .int .u8 0, .nilfn, .nilptr, .int .i32 0, .int .i32 0], eqn := false } := rfl
theorem Try.tyok2 : TyOK Try.prog 2 Try.ti2 := TyOK.of _ (by kernel_rfl) (by kernel_rfl) rfl Try.underlying2 rfl
theorem Try.tyok3 : TyOK Try.prog 3 Try.ti3 := TyOK.of _ (by kernel_rfl) (by kernel_rfl) rfl Try.underlying3 rfl
theorem Try.tyok4 : TyOK Try.prog 4 Try.ti4 := TyOK.of _ (by kernel_rfl) (by kernel_rfl) rfl Try.underlying4 rfl
theorem Try.tyok5 : TyOK Try.prog 5 Try.ti5 := TyOK.of _ (by kernel_rfl) (by kernel_rfl) rfl Try.underlying5 rfl
theorem Try.tyok6 : TyOK Try.prog 6 Try.ti6 := TyOK.of _ (by kernel_rfl) (by kernel_rfl) rfl Try.underlying6 rfl
theorem Try.tyok8 : TyOK Try.prog 8 Try.ti8 := TyOK.of _ (by kernel_rfl) (by kernel_rfl) rfl Try.underlying8 ⟨_, rfl, rfl⟩
theorem Try.tyok9 : TyOK Try.prog 9 Try.ti9 := TyOK.of _ (by kernel_rfl) (by kernel_rfl) rfl Try.underlying9 rfl
theorem Try.tyok10 : TyOK Try.prog 10 Try.ti10 := TyOK.of _ (by kernel_rfl) (by kernel_rfl) rfl Try.underlying10 rfl
theorem Try.tyok11 : TyOK Try.prog 11 Try.ti11 := TyOK.of _ (by kernel_rfl) (by kernel_rfl) rfl Try.underlying11 rfl
theorem Try.tyok12 : TyOK Try.prog 12 Try.ti12 := TyOK.of _ (by kernel_rfl) (by kernel_rfl) rfl Try.underlying12 rfl
theorem Try.tyok14 : TyOK Try.prog 14 Try.ti14 := TyOK.of _ (by kernel_rfl) (by kernel_rfl) rfl Try.underlying14 ⟨_, rfl, rfl⟩
theorem Try.tyok15 : TyOK Try.prog 15 Try.ti15 := TyOK.of _ (by kernel_rfl) (by kernel_rfl) rfl Try.underlying15 rfl
theorem Try.tyok16 : TyOK Try.prog 16 Try.ti16 := TyOK.of _ (by kernel_rfl) (by kernel_rfl) rfl Try.underlying16 rfl
theorem Try.tyok17 : TyOK Try.prog 17 Try.ti17 := TyOK.of _ (by kernel_rfl) (by kernel_rfl) rfl Try.underlying17 rfl
theorem Try.tyok19 : TyOK Try.prog 19 Try.ti19 := TyOK.of _ (by kernel_rfl) (by kernel_rfl) rfl Try.underlying19 ⟨_, rfl, rfl⟩
theorem Try.tyok20 : TyOK Try.prog 20 Try.ti20 := TyOK.of _ (by kernel_rfl) (by kernel_rfl) rfl Try.underlying20 ⟨_, rfl⟩
theorem Try.tyok22 : TyOK Try.prog 22 Try.ti22 := TyOK.of _ (by kernel_rfl) (by kernel_rfl) rfl Try.underlying22 rfl
theorem Try.tyok23 : TyOK Try.prog 23 Try.ti23 := TyOK.of _ (by kernel_rfl) (by kernel_rfl) rfl Try.underlying23 rfl
theorem Try.tyok25 : TyOK Try.prog 25 Try.ti25 := TyOK.of _ (by kernel_rfl) (by kernel_rfl) rfl Try.underlying25 ⟨_, rfl, rfl⟩
theorem Try.tyok27 : TyOK Try.prog 27 Try.ti27 := TyOK.of _ (by kernel_rfl) (by kernel_rfl) rfl Try.underlying27 ⟨_, rfl, rfl⟩
theorem Try.tyok28 : TyOK Try.prog 28 Try.ti28 := TyOK.of _ (by kernel_rfl) (by kernel_rfl) rfl Try.underlying28 rfl
theorem Try.tyok31 : TyOK Try.prog 31 Try.ti31 := TyOK.of _ (by kernel_rfl) (by kernel_rfl) rfl Try.underlying31 rfl
theorem Try.tyok35 : TyOK Try.prog 35 Try.ti35 := TyOK.of _ (by kernel_rfl) (by kernel_rfl) rfl Try.underlying35 rfl
theorem Try.tyok39 : TyOK Try.prog 39 Try.ti39 := TyOK.of _ (by kernel_rfl) (by kernel_rfl) rfl Try.underlying39 rfl
theorem Try.tyok42 : TyOK Try.prog 42 Try.ti42 := TyOK.of _ (by kernel_rfl) (by kernel_rfl) rfl Try.underlying42 rfl
theorem Try.tyok50 : TyOK Try.prog 50 Try.ti50 := TyOK.of _ (by kernel_rfl) (by kernel_rfl) rfl Try.underlying50 ⟨_, rfl, rfl⟩
theorem Try.tyok54 : TyOK Try.prog 54 Try.ti54 := TyOK.of _ (by kernel_rfl) (by kernel_rfl) rfl Try.underlying54 ⟨_, _, _, rfl⟩
theorem Try.tyok58 : TyOK Try.prog 58 Try.ti58 := TyOK.of _ (by kernel_rfl) (by kernel_rfl) rfl Try.underlying58 rfl
theorem Try.tyok66 : TyOK Try.prog 66 Try.ti66 := TyOK.of _ (by kernel_rfl) (by kernel_rfl) rfl Try.underlying66 rfl
theorem Try.tyok93 : TyOK Try.prog 93 Try.ti93 := TyOK.of _ (by kernel_rfl) (by kernel_rfl) rfl Try.underlying93 rfl
theorem Try.tyok95 : TyOK Try.prog 95 Try.ti95 := TyOK.of _ (by kernel_rfl) (by kernel_rfl) rfl Try.underlying95 ⟨_, rfl, rfl⟩
theorem Try.tyok96 : TyOK Try.prog 96 Try.ti96 := TyOK.of _ (by kernel_rfl) (by kernel_rfl) rfl Try.underlying96 rfl
theorem Try.tyok100 : TyOK Try.prog 100 Try.ti100 := TyOK.of _ (by kernel_rfl) (by kernel_rfl) rfl Try.underlying100 rfl
theorem Try.tyok104 : TyOK Try.prog 104 Try.ti104 := TyOK.of _ (by kernel_rfl) (by kernel_rfl) rfl Try.underlying104 ⟨_, rfl⟩
theorem Try.tyok106 : TyOK Try.prog 106 Try.ti106 := TyOK.of _ (by kernel_rfl) (by kernel_rfl) rfl Try.underlying106 rfl
theorem Try.tyok110 : TyOK Try.prog 110 Try.ti110 := TyOK.of _ (by kernel_rfl) (by kernel_rfl) rfl Try.underlying110 rfl
theorem Try.tyok111 : TyOK Try.prog 111 Try.ti111 := TyOK.of _ (by kernel_rfl) (by kernel_rfl) rfl Try.underlying111 ⟨_, _, _, rfl⟩
theorem Try.tyok116 : TyOK Try.prog 116 Try.ti116 := TyOK.of _ (by kernel_rfl) (by kernel_rfl) rfl Try.underlying116 rfl
theorem Try.tyok118 : TyOK Try.prog 118 Try.ti118 := TyOK.of _ (by kernel_rfl) (by kernel_rfl) rfl Try.underlying118 ⟨_, rfl, rfl⟩
theorem Try.tyok124 : TyOK Try.prog 124 Try.ti124 := TyOK.of _ (by kernel_rfl) (by kernel_rfl) rfl Try.underlying124 ⟨_, _, _, rfl⟩
theorem Try.tyok131 : TyOK Try.prog 131 Try.ti131 := TyOK.of _ (by kernel_rfl) (by kernel_rfl) rfl Try.underlying131 ⟨_, _, _, rfl⟩
theorem Try.tyok133 : TyOK Try.prog 133 Try.ti133 := TyOK.of _ (by kernel_rfl) (by kernel_rfl) rfl Try.underlying133 ⟨_, _, _, rfl⟩
theorem Try.tyok134 : TyOK Try.prog 134 Try.ti134 := TyOK.of _ (by kernel_rfl) (by kernel_rfl) rfl Try.underlying134 ⟨_, _, _, rfl⟩
theorem Try.tyok140 : TyOK Try.prog 140 Try.ti140 := TyOK.of _ (by kernel_rfl) (by kernel_rfl) rfl Try.underlying140 ⟨_, _, _, rfl⟩
theorem Try.tyok141 : TyOK Try.prog 141 Try.ti141 := TyOK.of _ (by kernel_rfl) (by kernel_rfl) rfl Try.underlying141 rfl
theorem Try.tyok146 : TyOK Try.prog 146 Try.ti146 := TyOK.of _ (by kernel_rfl) (by kernel_rfl) rfl Try.underlying146 ⟨_, rfl, rfl⟩
theorem Try.tyok148 : TyOK Try.prog 148 Try.ti148 := TyOK.of _ (by kernel_rfl) (by kernel_rfl) rfl Try.underlying148 ⟨_, rfl, rfl⟩
theorem Try.tyok149 : TyOK Try.prog 149 Try.ti149 := TyOK.of _ (by kernel_rfl) (by kernel_rfl) rfl Try.underlying149 ⟨_, rfl, rfl⟩
theorem Try.tyok154 : TyOK Try.prog 154 Try.ti154 := TyOK.of _ (by kernel_rfl) (by kernel_rfl) rfl Try.underlying154 ⟨_, _, _, rfl⟩
theorem Try.tyok156 : TyOK Try.prog 156 Try.ti156 := TyOK.of _ (by kernel_rfl) (by kernel_rfl) rfl Try.underlying156 rfl
theorem Try.tyok157 : TyOK Try.prog 157 Try.ti157 := TyOK.of _ (by kernel_rfl) (by kernel_rfl) rfl Try.underlying157 ⟨_, _, _, rfl⟩
theorem Try.tyok158 : TyOK Try.prog 158 Try.ti158 := TyOK.of _ (by kernel_rfl) (by kernel_rfl) rfl Try.underlying158 ⟨_, _, _, rfl⟩
theorem Try.tyok159 : TyOK Try.prog 159 Try.ti159 := TyOK.of _ (by kernel_rfl) (by kernel_rfl) rfl Try.underlying159 ⟨_, _, _, rfl⟩
theorem Try.tyok164 : TyOK Try.prog 164 Try.ti164 := TyOK.of _ (by kernel_rfl) (by kernel_rfl) rfl Try.underlying164 rfl
theorem Try.tyok170 : TyOK Try.prog 170 Try.ti170 := TyOK.of _ (by kernel_rfl) (by kernel_rfl) rfl Try.underlying170 rfl
theorem Try.tyok178 : TyOK Try.prog 178 Try.ti178 := TyOK.of _ (by kernel_rfl) (by kernel_rfl) rfl Try.underlying178 rfl
theorem Try.tyok180 : TyOK Try.prog 180 Try.ti180 := TyOK.of _ (by kernel_rfl) (by kernel_rfl) rfl Try.underlying180 rfl
theorem Try.tyok183 : TyOK Try.prog 183 Try.ti183 := TyOK.of _ (by kernel_rfl) (by kernel_rfl) rfl Try.underlying183 rfl
theorem Try.tyok186 : TyOK Try.prog 186 Try.ti186 := TyOK.of _ (by kernel_rfl) (by kernel_rfl) rfl Try.underlying186 rfl
theorem Try.tyok190 : TyOK Try.prog 190 Try.ti190 := TyOK.of _ (by kernel_rfl) (by kernel_rfl) rfl Try.underlying190 ⟨_, rfl, rfl⟩
theorem Try.tyok191 : TyOK Try.prog 191 Try.ti191 := TyOK.of _ (by kernel_rfl) (by kernel_rfl) rfl Try.underlying191 rfl
theorem Try.tyok193 : TyOK Try.prog 193 Try.ti193 := TyOK.of _ (by kernel_rfl) (by kernel_rfl) rfl Try.underlying193 ⟨_, rfl, rfl⟩
theorem Try.tyok195 : TyOK Try.prog 195 Try.ti195 := TyOK.of _ (by kernel_rfl) (by kernel_rfl) rfl Try.underlying195 rfl
theorem Try.tyok196 : TyOK Try.prog 196 Try.ti196 := TyOK.of _ (by kernel_rfl) (by kernel_rfl) rfl Try.underlying196 rfl
theorem Try.tyok197 : TyOK Try.prog 197 Try.ti197 := TyOK.of _ (by kernel_rfl) (by kernel_rfl) rfl Try.underlying197 ⟨_, _, _, rfl⟩
theorem Try.tyok198 : TyOK Try.prog 198 Try.ti198 := TyOK.of _ (by kernel_rfl) (by kernel_rfl) rfl Try.underlying198 rfl
theorem Try.tyok199 : TyOK Try.prog 199 Try.ti199 := TyOK.of _ (by kernel_rfl) (by kernel_rfl) rfl Try.underlying199 rfl
theorem Try.tyok200 : TyOK Try.prog 200 Try.ti200 := TyOK.of _ (by kernel_rfl) (by kernel_rfl) rfl Try.underlying200 rfl
theorem Try.tyok202 : TyOK Try.prog 202 Try.ti202 := TyOK.of _ (by kernel_rfl) (by kernel_rfl) rfl Try.underlying202 ⟨_, rfl, rfl⟩
theorem Try.tysOK : TysOK Try.prog Try.ty := tys_of (by
  simp only [Try.tyl, List.forall_mem_cons, List.not_mem_nil, false_implies, implies_true, and_true]
  exact ⟨Try.tyok2, Try.tyok3, Try.tyok4, Try.tyok5, Try.tyok6, Try.tyok8, Try.tyok9, Try.tyok10, Try.tyok11, Try.tyok12, Try.tyok14, Try.tyok15, Try.tyok16, Try.tyok17, Try.tyok19, Try.tyok20, Try.tyok22, Try.tyok23, Try.tyok25, Try.tyok27, Try.tyok28, Try.tyok31, Try.tyok35, Try.tyok39, Try.tyok42, Try.tyok50, Try.tyok54, Try.tyok58, Try.tyok66, Try.tyok93, Try.tyok95, Try.tyok96, Try.tyok100, Try.tyok104, Try.tyok106, Try.tyok110, Try.tyok111, Try.tyok116, Try.tyok118, Try.tyok124, Try.tyok131, Try.tyok133, Try.tyok134, Try.tyok140, Try.tyok141, Try.tyok146, Try.tyok148, Try.tyok149, Try.tyok154, Try.tyok156, Try.tyok157, Try.tyok158, Try.tyok159, Try.tyok164, Try.tyok170, Try.tyok178, Try.tyok180, Try.tyok183, Try.tyok186, Try.tyok190, Try.tyok191, Try.tyok193, Try.tyok195, Try.tyok196, Try.tyok197, Try.tyok198, Try.tyok199, Try.tyok200, Try.tyok202⟩)
-- equalities at [27, 50]
end Go.Proofs
