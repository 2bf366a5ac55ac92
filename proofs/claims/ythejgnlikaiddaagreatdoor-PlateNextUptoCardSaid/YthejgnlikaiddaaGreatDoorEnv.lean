/- The types of the seat, told to the abstract layer. Written by program. -/
import Derived.Test.YthejgnlikaiddaaGreatDoorMu3
import Derived.Test.YthejgnlikaiddaaGreatDoorProg
import Derived.KernelRfl
set_option linter.unusedSimpArgs false
set_option linter.unusedVariables false
set_option maxRecDepth 100000
namespace Go.Proofs
open Go Go.Mu
def Tryz.ti2 : TI := { sz := 1, bytes := 8, kd := .int .i64, zero := .int .i64 0, eqn := false }
def Tryz.ti3 : TI := { sz := 1, bytes := 8, kd := .int .i64, zero := .int .i64 0, eqn := false }
def Tryz.ti4 : TI := { sz := 1, bytes := 1, kd := .bool, zero := .bool false, eqn := false }
def Tryz.ti5 : TI := { sz := 1, bytes := 1, kd := .int .u8, zero := .int .u8 0, eqn := false }
def Tryz.ti6 : TI := { sz := 1, bytes := 1, kd := .int .u8, zero := .int .u8 0, eqn := false }
def Tryz.ti8 : TI := { sz := 4, bytes := 24, kd := .strct [(0, 2), (1, 3), (2, 4), (3, 6)], zero := .agg [.int .i64 0, .int .i64 0, .bool false, .int .u8 0], eqn := false }
def Tryz.ti9 : TI := { sz := 1, bytes := 16, kd := .str, zero := .str ByteArray.empty, eqn := false }
def Tryz.ti10 : TI := { sz := 1, bytes := 16, kd := .str, zero := .str ByteArray.empty, eqn := false }
def Tryz.ti11 : TI := { sz := 1, bytes := 16, kd := .str, zero := .str ByteArray.empty, eqn := false }
def Tryz.ti12 : TI := { sz := 1, bytes := 8, kd := .int .u64, zero := .int .u64 0, eqn := false }
def Tryz.ti14 : TI := { sz := 2, bytes := 24, kd := .strct [(0, 9), (1, 12)], zero := .agg [.str ByteArray.empty, .int .u64 0], eqn := false }
def Tryz.ti15 : TI := { sz := 1, bytes := 8, kd := .ptr 177, zero := .nilptr, eqn := false }
def Tryz.ti16 : TI := { sz := 1, bytes := 8, kd := .ptr 180, zero := .nilptr, eqn := false }
def Tryz.ti17 : TI := { sz := 1, bytes := 8, kd := .ptr 188, zero := .nilptr, eqn := false }
def Tryz.ti19 : TI := { sz := 1, bytes := 8, kd := .strct [(0, 17)], zero := .agg [.nilptr], eqn := false }
def Tryz.ti20 : TI := { sz := 1, bytes := 16, kd := .iface, zero := .niliface, eqn := false }
def Tryz.ti21 : TI := { sz := 1, bytes := 4, kd := .int .i32, zero := .int .i32 0, eqn := false }
def Tryz.ti22 : TI := { sz := 1, bytes := 24, kd := .slice 63, zero := .list .full 0 [], eqn := false }
def Tryz.ti24 : TI := { sz := 2, bytes := 32, kd := .strct [(0, 3), (1, 22)], zero := .agg [.int .i64 0, .list .full 0 []], eqn := false }
def Tryz.ti25 : TI := { sz := 1, bytes := 24, kd := .slice 3, zero := .list .full 0 [], eqn := false }
def Tryz.ti27 : TI := { sz := 3, bytes := 48, kd := .strct [(0, 25), (1, 9), (2, 3)], zero := .agg [.list .full 0 [], .str ByteArray.empty, .int .i64 0], eqn := false }
def Tryz.ti30 : TI := { sz := 1, bytes := 24, kd := .slice 24, zero := .list .full 0 [], eqn := false }
def Tryz.ti31 : TI := { sz := 1, bytes := 24, kd := .slice 27, zero := .list .full 0 [], eqn := false }
def Tryz.ti36 : TI := { sz := 1, bytes := 24, kd := .slice 25, zero := .list .full 0 [], eqn := false }
def Tryz.ti37 : TI := { sz := 1, bytes := 8, kd := .int .i64, zero := .int .i64 0, eqn := false }
def Tryz.ti52 : TI := { sz := 2, bytes := 16, kd := .strct [(0, 3), (1, 3)], zero := .agg [.int .i64 0, .int .i64 0], eqn := true }
def Tryz.ti61 : TI := { sz := 1, bytes := 24, kd := .slice 52, zero := .list .full 0 [], eqn := false }
def Tryz.ti63 : TI := { sz := 3, bytes := 56, kd := .strct [(0, 3), (1, 36), (2, 61)], zero := .agg [.int .i64 0, .list .full 0 [], .list .full 0 []], eqn := false }
def Tryz.ti66 : TI := { sz := 1, bytes := 8, kd := .ptr 126, zero := .nilptr, eqn := false }
def Tryz.ti74 : TI := { sz := 1, bytes := 24, kd := .slice 80, zero := .list .full 0 [], eqn := false }
def Tryz.ti78 : TI := { sz := 4, bytes := 32, kd := .arr 4 3, zero := .agg [.int .i64 0, .int .i64 0, .int .i64 0, .int .i64 0], eqn := false }
def Tryz.ti80 : TI := { sz := 8, bytes := 64, kd := .strct [(0, 3), (1, 3), (2, 78), (6, 52)], zero := .agg [.int .i64 0, .int .i64 0, .int .i64 0, .int .i64 0, .int .i64 0, .int .i64 0, .int .i64 0, .int .i64 0], eqn := false }
def Tryz.ti82 : TI := { sz := 1, bytes := 8, kd := .func, zero := .nilfn, eqn := false }
def Tryz.ti91 : TI := { sz := 1, bytes := 8, kd := .func, zero := .nilfn, eqn := false }
def Tryz.ti92 : TI := { sz := 1, bytes := 8, kd := .func, zero := .nilfn, eqn := false }
def Tryz.ti109 : TI := { sz := 1, bytes := 8, kd := .map 3 112, zero := .nilmap, eqn := false }
def Tryz.ti111 : TI := { sz := 1, bytes := 8, kd := .int .u64, zero := .int .u64 0, eqn := false }
def Tryz.ti112 : TI := { sz := 1, bytes := 8, kd := .int .u64, zero := .int .u64 0, eqn := false }
def Tryz.ti115 : TI := { sz := 1, bytes := 8, kd := .func, zero := .nilfn, eqn := false }
def Tryz.ti117 : TI := { sz := 1, bytes := 8, kd := .map 112 3, zero := .nilmap, eqn := false }
def Tryz.ti118 : TI := { sz := 1, bytes := 8, kd := .func, zero := .nilfn, eqn := false }
def Tryz.ti120 : TI := { sz := 1, bytes := 8, kd := .func, zero := .nilfn, eqn := false }
def Tryz.ti124 : TI := { sz := 1, bytes := 8, kd := .int .u64, zero := .int .u64 0, eqn := false }
def Tryz.ti126 : TI := { sz := 1, bytes := 8, kd := .strct [(0, 124)], zero := .agg [.int .u64 0], eqn := false }
def Tryz.ti131 : TI := { sz := 1, bytes := 24, kd := .slice 37, zero := .list .full 0 [], eqn := false }
def Tryz.ti134 : TI := { sz := 1, bytes := 8, kd := .func, zero := .nilfn, eqn := false }
def Tryz.ti135 : TI := { sz := 1, bytes := 8, kd := .func, zero := .nilfn, eqn := false }
def Tryz.ti139 : TI := { sz := 1, bytes := 8, kd := .func, zero := .nilfn, eqn := false }
def Tryz.ti145 : TI := { sz := 1, bytes := 8, kd := .func, zero := .nilfn, eqn := false }
def Tryz.ti148 : TI := { sz := 1, bytes := 4, kd := .int .u32, zero := .int .u32 0, eqn := false }
def Tryz.ti152 : TI := { sz := 1, bytes := 8, kd := .int .i64, zero := .int .i64 0, eqn := false }
def Tryz.ti158 : TI := { sz := 24, bytes := 24, kd := .arr 24 5, zero := .agg [.int .u8 0, .int .u8 0, .int .u8 0, .int .u8 0, .int .u8 0, .int .u8 0, .int .u8 0, .int .u8 0, .int .u8 0, .int .u8 0, .int .u8 0, .int .u8 0, .int .u8 0, .int .u8 0, .int .u8 0, .int .u8 0, .int .u8 0, .int .u8 0, .int .u8 0, .int .u8 0, .int .u8 0, .int .u8 0, .int .u8 0, .int .u8 0], eqn := false }
def Tryz.ti160 : TI := { sz := 1, bytes := 24, kd := .slice 5, zero := .list .full 0 [], eqn := false }
def Tryz.ti163 : TI := { sz := 1, bytes := 8, kd := .int .u64, zero := .int .u64 0, eqn := false }
def Tryz.ti166 : TI := { sz := 1, bytes := 8, kd := .ptr 3, zero := .nilptr, eqn := false }
def Tryz.ti169 : TI := { sz := 20, bytes := 160, kd := .arr 20 124, zero := .agg [.int .u64 0, .int .u64 0, .int .u64 0, .int .u64 0, .int .u64 0, .int .u64 0, .int .u64 0, .int .u64 0, .int .u64 0, .int .u64 0, .int .u64 0, .int .u64 0, .int .u64 0, .int .u64 0, .int .u64 0, .int .u64 0, .int .u64 0, .int .u64 0, .int .u64 0, .int .u64 0], eqn := false }
def Tryz.ti170 : TI := { sz := 65, bytes := 65, kd := .arr 65 5, zero := .agg [.int .u8 0, .int .u8 0, .int .u8 0, .int .u8 0, .int .u8 0, .int .u8 0, .int .u8 0, .int .u8 0, .int .u8 0, .int .u8 0, .int .u8 0, .int .u8 0, .int .u8 0, .int .u8 0, .int .u8 0, .int .u8 0, .int .u8 0, .int .u8 0, .int .u8 0, .int .u8 0, .int .u8 0, .int .u8 0, .int .u8 0, .int .u8 0, .int .u8 0, .int .u8 0, .int .u8 0, .int .u8 0, .int .u8 0, .int .u8 0, .int .u8 0, .int .u8 0, .int .u8 0, .int .u8 0, .int .u8 0, .int .u8 0, .int .u8 0, .int .u8 0, .int .u8 0, .int .u8 0, .int .u8 0, .int .u8 0, .int .u8 0, .int .u8 0, .int .u8 0, .int .u8 0, .int .u8 0, .int .u8 0, .int .u8 0, .int .u8 0, .int .u8 0, .int .u8 0, .int .u8 0, .int .u8 0, .int .u8 0, .int .u8 0, .int .u8 0, .int .u8 0, .int .u8 0, .int .u8 0, .int .u8 0, .int .u8 0, .int .u8 0, .int .u8 0, .int .u8 0], eqn := false }
def Tryz.ti171 : TI := { sz := 1, bytes := 8, kd := .ptr 163, zero := .nilptr, eqn := false }
def Tryz.ti173 : TI := { sz := 32, bytes := 32, kd := .arr 32 5, zero := .agg [.int .u8 0, .int .u8 0, .int .u8 0, .int .u8 0, .int .u8 0, .int .u8 0, .int .u8 0, .int .u8 0, .int .u8 0, .int .u8 0, .int .u8 0, .int .u8 0, .int .u8 0, .int .u8 0, .int .u8 0, .int .u8 0, .int .u8 0, .int .u8 0, .int .u8 0, .int .u8 0, .int .u8 0, .int .u8 0, .int .u8 0, .int .u8 0, .int .u8 0, .int .u8 0, .int .u8 0, .int .u8 0, .int .u8 0, .int .u8 0, .int .u8 0, .int .u8 0], eqn := false }
def Tryz.ti174 : TI := { sz := 64, bytes := 64, kd := .arr 64 5, zero := .agg [.int .u8 0, .int .u8 0, .int .u8 0, .int .u8 0, .int .u8 0, .int .u8 0, .int .u8 0, .int .u8 0, .int .u8 0, .int .u8 0, .int .u8 0, .int .u8 0, .int .u8 0, .int .u8 0, .int .u8 0, .int .u8 0, .int .u8 0, .int .u8 0, .int .u8 0, .int .u8 0, .int .u8 0, .int .u8 0, .int .u8 0, .int .u8 0, .int .u8 0, .int .u8 0, .int .u8 0, .int .u8 0, .int .u8 0, .int .u8 0, .int .u8 0, .int .u8 0, .int .u8 0, .int .u8 0, .int .u8 0, .int .u8 0, .int .u8 0, .int .u8 0, .int .u8 0, .int .u8 0, .int .u8 0, .int .u8 0, .int .u8 0, .int .u8 0, .int .u8 0, .int .u8 0, .int .u8 0, .int .u8 0, .int .u8 0, .int .u8 0, .int .u8 0, .int .u8 0, .int .u8 0, .int .u8 0, .int .u8 0, .int .u8 0, .int .u8 0, .int .u8 0, .int .u8 0, .int .u8 0, .int .u8 0, .int .u8 0, .int .u8 0, .int .u8 0], eqn := false }
def Tryz.ti177 : TI := { sz := 4, bytes := 40, kd := .strct [(0, 17), (1, 17), (2, 17), (3, 9)], zero := .agg [.nilptr, .nilptr, .nilptr, .str ByteArray.empty], eqn := false }
def Tryz.ti178 : TI := { sz := 0, bytes := 0, kd := .arr 0 16, zero := .agg [], eqn := false }
def Tryz.ti180 : TI := { sz := 0, bytes := 0, kd := .strct [(0, 178)], zero := .agg [], eqn := false }
def Tryz.ti181 : TI := { sz := 1, bytes := 1, kd := .int .u8, zero := .int .u8 0, eqn := false }
def Tryz.ti182 : TI := { sz := 1, bytes := 1, kd := .int .u8, zero := .int .u8 0, eqn := false }
def Tryz.ti183 : TI := { sz := 1, bytes := 8, kd := .func, zero := .nilfn, eqn := false }
def Tryz.ti184 : TI := { sz := 1, bytes := 8, kd := .ptr 5, zero := .nilptr, eqn := false }
def Tryz.ti185 : TI := { sz := 1, bytes := 4, kd := .int .i32, zero := .int .i32 0, eqn := false }
def Tryz.ti186 : TI := { sz := 1, bytes := 4, kd := .int .i32, zero := .int .i32 0, eqn := false }
def Tryz.ti188 : TI := { sz := 11, bytes := 48, kd := .strct [(0, 12), (1, 12), (2, 148), (3, 181), (4, 5), (5, 5), (6, 182), (7, 183), (8, 184), (9, 185), (10, 186)], zero := .agg [.int .u64 0, .int .u64 0, .int .u32 0, .int .u8 0, .int .u8 0, .int .u8 0, .int .u8 0, .nilfn, .nilptr, .int .i32 0, .int .i32 0], eqn := false }
def Tryz.tyl : List (Nat × TI) := [(2, Tryz.ti2), (3, Tryz.ti3), (4, Tryz.ti4), (5, Tryz.ti5), (6, Tryz.ti6), (8, Tryz.ti8), (9, Tryz.ti9), (10, Tryz.ti10), (11, Tryz.ti11), (12, Tryz.ti12), (14, Tryz.ti14), (15, Tryz.ti15), (16, Tryz.ti16), (17, Tryz.ti17), (19, Tryz.ti19), (20, Tryz.ti20), (21, Tryz.ti21), (22, Tryz.ti22), (24, Tryz.ti24), (25, Tryz.ti25), (27, Tryz.ti27), (30, Tryz.ti30), (31, Tryz.ti31), (36, Tryz.ti36), (37, Tryz.ti37), (52, Tryz.ti52), (61, Tryz.ti61), (63, Tryz.ti63), (66, Tryz.ti66), (74, Tryz.ti74), (78, Tryz.ti78), (80, Tryz.ti80), (82, Tryz.ti82), (91, Tryz.ti91), (92, Tryz.ti92), (109, Tryz.ti109), (111, Tryz.ti111), (112, Tryz.ti112), (115, Tryz.ti115), (117, Tryz.ti117), (118, Tryz.ti118), (120, Tryz.ti120), (124, Tryz.ti124), (126, Tryz.ti126), (131, Tryz.ti131), (134, Tryz.ti134), (135, Tryz.ti135), (139, Tryz.ti139), (145, Tryz.ti145), (148, Tryz.ti148), (152, Tryz.ti152), (158, Tryz.ti158), (160, Tryz.ti160), (163, Tryz.ti163), (166, Tryz.ti166), (169, Tryz.ti169), (170, Tryz.ti170), (171, Tryz.ti171), (173, Tryz.ti173), (174, Tryz.ti174), (177, Tryz.ti177), (178, Tryz.ti178), (180, Tryz.ti180), (181, Tryz.ti181), (182, Tryz.ti182), (183, Tryz.ti183), (184, Tryz.ti184), (185, Tryz.ti185), (186, Tryz.ti186), (188, Tryz.ti188)]
def Tryz.ty (t : Nat) : TI := tyOf Tryz.tyl t
theorem Tryz.ty2 : Tryz.ty 2 = { sz := 1, bytes := 8, kd := .int .i64, zero := .int .i64 0, eqn := false } := rfl
theorem Tryz.ty3 : Tryz.ty 3 = { sz := 1, bytes := 8, kd := .int .i64, zero := .int .i64 0, eqn := false } := rfl
theorem Tryz.ty4 : Tryz.ty 4 = { sz := 1, bytes := 1, kd := .bool, zero := .bool false, eqn := false } := rfl
theorem Tryz.ty5 : Tryz.ty 5 = { sz := 1, bytes := 1, kd := .int .u8, zero := .int .u8 0, eqn := false } := rfl
theorem Tryz.ty6 : Tryz.ty 6 = { sz := 1, bytes := 1, kd := .int .u8, zero := .int .u8 0, eqn := false } := rfl
theorem Tryz.ty8 : Tryz.ty 8 = { sz := 4, bytes := 24, kd := .strct [(0, 2), (1, 3), (2, 4), (3, 6)], zero := .agg [.int .i64 0, .int .i64 0, .bool false, .int .u8 0], eqn := false } := rfl
theorem Tryz.ty9 : Tryz.ty 9 = { sz := 1, bytes := 16, kd := .str, zero := .str ByteArray.empty, eqn := false } := rfl
theorem Tryz.ty10 : Tryz.ty 10 = { sz := 1, bytes := 16, kd := .str, zero := .str ByteArray.empty, eqn := false } := rfl
theorem Tryz.ty11 : Tryz.ty 11 = { sz := 1, bytes := 16, kd := .str, zero := .str ByteArray.empty, eqn := false } := rfl
theorem Tryz.ty12 : Tryz.ty 12 = { sz := 1, bytes := 8, kd := .int .u64, zero := .int .u64 0, eqn := false } := rfl
theorem Tryz.ty14 : Tryz.ty 14 = { sz := 2, bytes := 24, kd := .strct [(0, 9), (1, 12)], zero := .agg [.str ByteArray.empty, .int .u64 0], eqn := false } := rfl
theorem Tryz.ty15 : Tryz.ty 15 = { sz := 1, bytes := 8, kd := .ptr 177, zero := .nilptr, eqn := false } := rfl
theorem Tryz.ty16 : Tryz.ty 16 = { sz := 1, bytes := 8, kd := .ptr 180, zero := .nilptr, eqn := false } := rfl
theorem Tryz.ty17 : Tryz.ty 17 = { sz := 1, bytes := 8, kd := .ptr 188, zero := .nilptr, eqn := false } := rfl
theorem Tryz.ty19 : Tryz.ty 19 = { sz := 1, bytes := 8, kd := .strct [(0, 17)], zero := .agg [.nilptr], eqn := false } := rfl
theorem Tryz.ty20 : Tryz.ty 20 = { sz := 1, bytes := 16, kd := .iface, zero := .niliface, eqn := false } := rfl
theorem Tryz.ty21 : Tryz.ty 21 = { sz := 1, bytes := 4, kd := .int .i32, zero := .int .i32 0, eqn := false } := rfl
theorem Tryz.ty22 : Tryz.ty 22 = { sz := 1, bytes := 24, kd := .slice 63, zero := .list .full 0 [], eqn := false } := rfl
theorem Tryz.ty24 : Tryz.ty 24 = { sz := 2, bytes := 32, kd := .strct [(0, 3), (1, 22)], zero := .agg [.int .i64 0, .list .full 0 []], eqn := false } := rfl
theorem Tryz.ty25 : Tryz.ty 25 = { sz := 1, bytes := 24, kd := .slice 3, zero := .list .full 0 [], eqn := false } := rfl
theorem Tryz.ty27 : Tryz.ty 27 = { sz := 3, bytes := 48, kd := .strct [(0, 25), (1, 9), (2, 3)], zero := .agg [.list .full 0 [], .str ByteArray.empty, .int .i64 0], eqn := false } := rfl
theorem Tryz.ty30 : Tryz.ty 30 = { sz := 1, bytes := 24, kd := .slice 24, zero := .list .full 0 [], eqn := false } := rfl
theorem Tryz.ty31 : Tryz.ty 31 = { sz := 1, bytes := 24, kd := .slice 27, zero := .list .full 0 [], eqn := false } := rfl
theorem Tryz.ty36 : Tryz.ty 36 = { sz := 1, bytes := 24, kd := .slice 25, zero := .list .full 0 [], eqn := false } := rfl
theorem Tryz.ty37 : Tryz.ty 37 = { sz := 1, bytes := 8, kd := .int .i64, zero := .int .i64 0, eqn := false } := rfl
theorem Tryz.ty52 : Tryz.ty 52 = { sz := 2, bytes := 16, kd := .strct [(0, 3), (1, 3)], zero := .agg [.int .i64 0, .int .i64 0], eqn := true } := rfl
theorem Tryz.ty61 : Tryz.ty 61 = { sz := 1, bytes := 24, kd := .slice 52, zero := .list .full 0 [], eqn := false } := rfl
theorem Tryz.ty63 : Tryz.ty 63 = { sz := 3, bytes := 56, kd := .strct [(0, 3), (1, 36), (2, 61)], zero := .agg [.int .i64 0, .list .full 0 [], .list .full 0 []], eqn := false } := rfl
theorem Tryz.ty66 : Tryz.ty 66 = { sz := 1, bytes := 8, kd := .ptr 126, zero := .nilptr, eqn := false } := rfl
theorem Tryz.ty74 : Tryz.ty 74 = { sz := 1, bytes := 24, kd := .slice 80, zero := .list .full 0 [], eqn := false } := rfl
theorem Tryz.ty78 : Tryz.ty 78 = { sz := 4, bytes := 32, kd := .arr 4 3, zero := .agg [.int .i64 0, .int .i64 0, .int .i64 0, .int .i64 0], eqn := false } := rfl
theorem Tryz.ty80 : Tryz.ty 80 = { sz := 8, bytes := 64, kd := .strct [(0, 3), (1, 3), (2, 78), (6, 52)], zero := .agg [.int .i64 0, .int .i64 0, .int .i64 0, .int .i64 0, .int .i64 0, .int .i64 0, .int .i64 0, .int .i64 0], eqn := false } := rfl
theorem Tryz.ty82 : Tryz.ty 82 = { sz := 1, bytes := 8, kd := .func, zero := .nilfn, eqn := false } := rfl
theorem Tryz.ty91 : Tryz.ty 91 = { sz := 1, bytes := 8, kd := .func, zero := .nilfn, eqn := false } := rfl
theorem Tryz.ty92 : Tryz.ty 92 = { sz := 1, bytes := 8, kd := .func, zero := .nilfn, eqn := false } := rfl
theorem Tryz.ty109 : Tryz.ty 109 = { sz := 1, bytes := 8, kd := .map 3 112, zero := .nilmap, eqn := false } := rfl
theorem Tryz.ty111 : Tryz.ty 111 = { sz := 1, bytes := 8, kd := .int .u64, zero := .int .u64 0, eqn := false } := rfl
theorem Tryz.ty112 : Tryz.ty 112 = { sz := 1, bytes := 8, kd := .int .u64, zero := .int .u64 0, eqn := false } := rfl
theorem Tryz.ty115 : Tryz.ty 115 = { sz := 1, bytes := 8, kd := .func, zero := .nilfn, eqn := false } := rfl
theorem Tryz.ty117 : Tryz.ty 117 = { sz := 1, bytes := 8, kd := .map 112 3, zero := .nilmap, eqn := false } := rfl
theorem Tryz.ty118 : Tryz.ty 118 = { sz := 1, bytes := 8, kd := .func, zero := .nilfn, eqn := false } := rfl
theorem Tryz.ty120 : Tryz.ty 120 = { sz := 1, bytes := 8, kd := .func, zero := .nilfn, eqn := false } := rfl
theorem Tryz.ty124 : Tryz.ty 124 = { sz := 1, bytes := 8, kd := .int .u64, zero := .int .u64 0, eqn := false } := rfl
theorem Tryz.ty126 : Tryz.ty 126 = { sz := 1, bytes := 8, kd := .strct [(0, 124)], zero := .agg [.int .u64 0], eqn := false } := rfl
theorem Tryz.ty131 : Tryz.ty 131 = { sz := 1, bytes := 24, kd := .slice 37, zero := .list .full 0 [], eqn := false } := rfl
theorem Tryz.ty134 : Tryz.ty 134 = { sz := 1, bytes := 8, kd := .func, zero := .nilfn, eqn := false } := rfl
theorem Tryz.ty135 : Tryz.ty 135 = { sz := 1, bytes := 8, kd := .func, zero := .nilfn, eqn := false } := rfl
theorem Tryz.ty139 : Tryz.ty 139 = { sz := 1, bytes := 8, kd := .func, zero := .nilfn, eqn := false } := rfl
theorem Tryz.ty145 : Tryz.ty 145 = { sz := 1, bytes := 8, kd := .func, zero := .nilfn, eqn := false } := rfl
theorem Tryz.ty148 : Tryz.ty 148 = { sz := 1, bytes := 4, kd := .int .u32, zero := .int .u32 0, eqn := false } := rfl
theorem Tryz.ty152 : Tryz.ty 152 = { sz := 1, bytes := 8, kd := .int .i64, zero := .int .i64 0, eqn := false } := rfl
theorem Tryz.ty158 : Tryz.ty 158 = { sz := 24, bytes := 24, kd := .arr 24 5, zero := .agg [.int .u8 0, .int .u8 0, .int .u8 0, .int .u8 0, .int .u8 0, .int .u8 0, .int .u8 0, .int .u8 0, .int .u8 0, .int .u8 0, .int .u8 0, .int .u8 0, .int .u8 0, .int .u8 0, .int .u8 0, .int .u8 0, .int .u8 0, .int .u8 0, .int .u8 0, .int .u8 0, .int .u8 0, .int .u8 0, .int .u8 0, .int .u8 0], eqn := false } := rfl
theorem Tryz.ty160 : Tryz.ty 160 = { sz := 1, bytes := 24, kd := .slice 5, zero := .list .full 0 [], eqn := false } := rfl
theorem Tryz.ty163 : Tryz.ty 163 = { sz := 1, bytes := 8, kd := .int .u64, zero := .int .u64 0, eqn := false } := rfl
theorem Tryz.ty166 : Tryz.ty 166 = { sz := 1, bytes := 8, kd := .ptr 3, zero := .nilptr, eqn := false } := rfl
theorem Tryz.ty169 : Tryz.ty 169 = { sz := 20, bytes := 160, kd := .arr 20 124, zero := .agg [.int .u64 0, .int .u64 0, .int .u64 0, .int .u64 0, .int .u64 0, .int .u64 0, .int .u64 0, .int .u64 0, .int .u64 0, .int .u64 0, .int .u64 0, .int .u64 0, .int .u64 0, .int .u64 0, .int .u64 0, .int .u64 0, .int .u64 0, .int .u64 0, .int .u64 0, .int .u64 0], eqn := false } := rfl
theorem Tryz.ty170 : Tryz.ty 170 = { sz := 65, bytes := 65, kd := .arr 65 5, zero := .agg [.int .u8 0, .int .u8 0, .int .u8 0, .int .u8 0, .int .u8 0, .int .u8 0, .int .u8 0, .int .u8 0, .int .u8 0, .int .u8 0, .int .u8 0, .int .u8 0, .int .u8 0, .int .u8 0, .int .u8 0, .int .u8 0, .int .u8 0, .int .u8 0, .int .u8 0, .int .u8 0, .int .u8 0, .int .u8 0, .int .u8 0, .int .u8 0, .int .u8 0, .int .u8 0, .int .u8 0, .int .u8 0, .int .u8 0, .int .u8 0, .int .u8 0, .int .u8 0, .int .u8 0, .int .u8 0, .int .u8 0, .int .u8 0, .int .u8 0, .int .u8 0, .int .u8 0, .int .u8 0, .int .u8 0, .int .u8 0, .int .u8 0, .int .u8 0, .int .u8 0, .int .u8 0, .int .u8 0, .int .u8 0, .int .u8 0, .int .u8 0, .int .u8 0, .int .u8 0, .int .u8 0, .int .u8 0, .int .u8 0, .int .u8 0, .int .u8 0, .int .u8 0, .int .u8 0, .int .u8 0, .int .u8 0, .int .u8 0, .int .u8 0, .int .u8 0, .int .u8 0], eqn := false } := rfl
theorem Tryz.ty171 : Tryz.ty 171 = { sz := 1, bytes := 8, kd := .ptr 163, zero := .nilptr, eqn := false } := rfl
theorem Tryz.ty173 : Tryz.ty 173 = { sz := 32, bytes := 32, kd := .arr 32 5, zero := .agg [.int .u8 0, .int .u8 0, .int .u8 0, .int .u8 0, .int .u8 0, .int .u8 0, .int .u8 0, .int .u8 0, .int .u8 0, .int .u8 0, .int .u8 0, .int .u8 0, .int .u8 0, .int .u8 0, .int .u8 0, .int .u8 0, .int .u8 0, .int .u8 0, .int .u8 0, .int .u8 0, .int .u8 0, .int .u8 0, .int .u8 0, .int .u8 0, .int .u8 0, .int .u8 0, .int .u8 0, .int .u8 0, .int .u8 0, .int .u8 0, .int .u8 0, .int .u8 0], eqn := false } := rfl
theorem Tryz.ty174 : Tryz.ty 174 = { sz := 64, bytes := 64, kd := .arr 64 5, zero := .agg [.int .u8 0, .int .u8 0, .int .u8 0, .int .u8 0, .int .u8 0, .int .u8 0, .int .u8 0, .int .u8 0, .int .u8 0, .int .u8 0, .int .u8 0, .int .u8 0, .int .u8 0, .int .u8 0, .int .u8 0, .int .u8 0, .int .u8 0, .int .u8 0, .int .u8 0, .int .u8 0, .int .u8 0, .int .u8 0, .int .u8 0, .int .u8 0, .int .u8 0, .int .u8 0, .int .u8 0, .int .u8 0, .int .u8 0, .int .u8 0, .int .u8 0, .int .u8 0, .int .u8 0, .int .u8 0, .int .u8 0, .int .u8 0, .int .u8 0, .int .u8 0, .int .u8 0, .int .u8 0, .int .u8 0, .int .u8 0, .int .u8 0, .int .u8 0, .int .u8 0, .int .u8 0, .int .u8 0, .int .u8 0, .int .u8 0, .int .u8 0, .int .u8 0, .int .u8 0, .int .u8 0, .int .u8 0, .int .u8 0, .int .u8 0, .int .u8 0, .int .u8 0, .int .u8 0, .int .u8 0, .int .u8 0, .int .u8 0, .int .u8 0, .int .u8 0], eqn := false } := rfl
theorem Tryz.ty177 : Tryz.ty 177 = { sz := 4, bytes := 40, kd := .strct [(0, 17), (1, 17), (2, 17), (3, 9)], zero := .agg [.nilptr, .nilptr, .nilptr, .str ByteArray.empty], eqn := false } := rfl
theorem Tryz.ty178 : Tryz.ty 178 = { sz := 0, bytes := 0, kd := .arr 0 16, zero := .agg [], eqn := false } := rfl
theorem Tryz.ty180 : Tryz.ty 180 = { sz := 0, bytes := 0, kd := .strct [(0, 178)], zero := .agg [], eqn := false } := rfl
theorem Tryz.ty181 : Tryz.ty 181 = { sz := 1, bytes := 1, kd := .int .u8, zero := .int .u8 0, eqn := false } := rfl
theorem Tryz.ty182 : Tryz.ty 182 = { sz := 1, bytes := 1, kd := .int .u8, zero := .int .u8 0, eqn := false } := rfl
theorem Tryz.ty183 : Tryz.ty 183 = { sz := 1, bytes := 8, kd := .func, zero := .nilfn, eqn := false } := rfl
theorem Tryz.ty184 : Tryz.ty 184 = { sz := 1, bytes := 8, kd := .ptr 5, zero := .nilptr, eqn := false } := rfl
theorem Tryz.ty185 : Tryz.ty 185 = { sz := 1, bytes := 4, kd := .int .i32, zero := .int .i32 0, eqn := false } := rfl
theorem Tryz.ty186 : Tryz.ty 186 = { sz := 1, bytes := 4, kd := .int .i32, zero := .int .i32 0, eqn := false } := rfl
theorem Tryz.ty188 : Tryz.ty 188 = { sz := 11, bytes := 48, kd := .strct [(0, 12), (1, 12), (2, 148), (3, 181), (4, 5), (5, 5), (6, 182), (7, 183), (8, 184), (9, 185), (10, 186)], zero := .agg [.int .u64 0, .int .u64 0, .int .u32 0, .int .u8 0, .int .u8 0, .int .u8 0, .int .u8 0, .nilfn, .nilptr, .int .i32 0, .int .i32 0], eqn := false } := rfl
theorem Tryz.tyok2 : TyOK Tryz.prog 2 Tryz.ti2 := TyOK.of _ (by kernel_rfl) (by kernel_rfl) rfl Tryz.underlying2 rfl
theorem Tryz.tyok3 : TyOK Tryz.prog 3 Tryz.ti3 := TyOK.of _ (by kernel_rfl) (by kernel_rfl) rfl Tryz.underlying3 rfl
theorem Tryz.tyok4 : TyOK Tryz.prog 4 Tryz.ti4 := TyOK.of _ (by kernel_rfl) (by kernel_rfl) rfl Tryz.underlying4 rfl
theorem Tryz.tyok5 : TyOK Tryz.prog 5 Tryz.ti5 := TyOK.of _ (by kernel_rfl) (by kernel_rfl) rfl Tryz.underlying5 rfl
theorem Tryz.tyok6 : TyOK Tryz.prog 6 Tryz.ti6 := TyOK.of _ (by kernel_rfl) (by kernel_rfl) rfl Tryz.underlying6 rfl
theorem Tryz.tyok8 : TyOK Tryz.prog 8 Tryz.ti8 := TyOK.of _ (by kernel_rfl) (by kernel_rfl) rfl Tryz.underlying8 ⟨_, rfl, rfl⟩
theorem Tryz.tyok9 : TyOK Tryz.prog 9 Tryz.ti9 := TyOK.of _ (by kernel_rfl) (by kernel_rfl) rfl Tryz.underlying9 rfl
theorem Tryz.tyok10 : TyOK Tryz.prog 10 Tryz.ti10 := TyOK.of _ (by kernel_rfl) (by kernel_rfl) rfl Tryz.underlying10 rfl
theorem Tryz.tyok11 : TyOK Tryz.prog 11 Tryz.ti11 := TyOK.of _ (by kernel_rfl) (by kernel_rfl) rfl Tryz.underlying11 rfl
theorem Tryz.tyok12 : TyOK Tryz.prog 12 Tryz.ti12 := TyOK.of _ (by kernel_rfl) (by kernel_rfl) rfl Tryz.underlying12 rfl
theorem Tryz.tyok14 : TyOK Tryz.prog 14 Tryz.ti14 := TyOK.of _ (by kernel_rfl) (by kernel_rfl) rfl Tryz.underlying14 ⟨_, rfl, rfl⟩
theorem Tryz.tyok15 : TyOK Tryz.prog 15 Tryz.ti15 := TyOK.of _ (by kernel_rfl) (by kernel_rfl) rfl Tryz.underlying15 rfl
theorem Tryz.tyok16 : TyOK Tryz.prog 16 Tryz.ti16 := TyOK.of _ (by kernel_rfl) (by kernel_rfl) rfl Tryz.underlying16 rfl
theorem Tryz.tyok17 : TyOK Tryz.prog 17 Tryz.ti17 := TyOK.of _ (by kernel_rfl) (by kernel_rfl) rfl Tryz.underlying17 rfl
theorem Tryz.tyok19 : TyOK Tryz.prog 19 Tryz.ti19 := TyOK.of _ (by kernel_rfl) (by kernel_rfl) rfl Tryz.underlying19 ⟨_, rfl, rfl⟩
theorem Tryz.tyok20 : TyOK Tryz.prog 20 Tryz.ti20 := TyOK.of _ (by kernel_rfl) (by kernel_rfl) rfl Tryz.underlying20 ⟨_, rfl⟩
theorem Tryz.tyok21 : TyOK Tryz.prog 21 Tryz.ti21 := TyOK.of _ (by kernel_rfl) (by kernel_rfl) rfl Tryz.underlying21 rfl
theorem Tryz.tyok22 : TyOK Tryz.prog 22 Tryz.ti22 := TyOK.of _ (by kernel_rfl) (by kernel_rfl) rfl Tryz.underlying22 rfl
theorem Tryz.tyok24 : TyOK Tryz.prog 24 Tryz.ti24 := TyOK.of _ (by kernel_rfl) (by kernel_rfl) rfl Tryz.underlying24 ⟨_, rfl, rfl⟩
theorem Tryz.tyok25 : TyOK Tryz.prog 25 Tryz.ti25 := TyOK.of _ (by kernel_rfl) (by kernel_rfl) rfl Tryz.underlying25 rfl
theorem Tryz.tyok27 : TyOK Tryz.prog 27 Tryz.ti27 := TyOK.of _ (by kernel_rfl) (by kernel_rfl) rfl Tryz.underlying27 ⟨_, rfl, rfl⟩
theorem Tryz.tyok30 : TyOK Tryz.prog 30 Tryz.ti30 := TyOK.of _ (by kernel_rfl) (by kernel_rfl) rfl Tryz.underlying30 rfl
theorem Tryz.tyok31 : TyOK Tryz.prog 31 Tryz.ti31 := TyOK.of _ (by kernel_rfl) (by kernel_rfl) rfl Tryz.underlying31 rfl
theorem Tryz.tyok36 : TyOK Tryz.prog 36 Tryz.ti36 := TyOK.of _ (by kernel_rfl) (by kernel_rfl) rfl Tryz.underlying36 rfl
theorem Tryz.tyok37 : TyOK Tryz.prog 37 Tryz.ti37 := TyOK.of _ (by kernel_rfl) (by kernel_rfl) rfl Tryz.underlying37 rfl
theorem Tryz.tyok52 : TyOK Tryz.prog 52 Tryz.ti52 := TyOK.of _ (by kernel_rfl) (by kernel_rfl) rfl Tryz.underlying52 ⟨_, rfl, rfl⟩
theorem Tryz.tyok61 : TyOK Tryz.prog 61 Tryz.ti61 := TyOK.of _ (by kernel_rfl) (by kernel_rfl) rfl Tryz.underlying61 rfl
theorem Tryz.tyok63 : TyOK Tryz.prog 63 Tryz.ti63 := TyOK.of _ (by kernel_rfl) (by kernel_rfl) rfl Tryz.underlying63 ⟨_, rfl, rfl⟩
theorem Tryz.tyok66 : TyOK Tryz.prog 66 Tryz.ti66 := TyOK.of _ (by kernel_rfl) (by kernel_rfl) rfl Tryz.underlying66 rfl
theorem Tryz.tyok74 : TyOK Tryz.prog 74 Tryz.ti74 := TyOK.of _ (by kernel_rfl) (by kernel_rfl) rfl Tryz.underlying74 rfl
theorem Tryz.tyok78 : TyOK Tryz.prog 78 Tryz.ti78 := TyOK.of _ (by kernel_rfl) (by kernel_rfl) rfl Tryz.underlying78 rfl
theorem Tryz.tyok80 : TyOK Tryz.prog 80 Tryz.ti80 := TyOK.of _ (by kernel_rfl) (by kernel_rfl) rfl Tryz.underlying80 ⟨_, rfl, rfl⟩
theorem Tryz.tyok82 : TyOK Tryz.prog 82 Tryz.ti82 := TyOK.of _ (by kernel_rfl) (by kernel_rfl) rfl Tryz.underlying82 ⟨_, _, _, rfl⟩
theorem Tryz.tyok91 : TyOK Tryz.prog 91 Tryz.ti91 := TyOK.of _ (by kernel_rfl) (by kernel_rfl) rfl Tryz.underlying91 ⟨_, _, _, rfl⟩
theorem Tryz.tyok92 : TyOK Tryz.prog 92 Tryz.ti92 := TyOK.of _ (by kernel_rfl) (by kernel_rfl) rfl Tryz.underlying92 ⟨_, _, _, rfl⟩
theorem Tryz.tyok109 : TyOK Tryz.prog 109 Tryz.ti109 := TyOK.of _ (by kernel_rfl) (by kernel_rfl) rfl Tryz.underlying109 rfl
theorem Tryz.tyok111 : TyOK Tryz.prog 111 Tryz.ti111 := TyOK.of _ (by kernel_rfl) (by kernel_rfl) rfl Tryz.underlying111 rfl
theorem Tryz.tyok112 : TyOK Tryz.prog 112 Tryz.ti112 := TyOK.of _ (by kernel_rfl) (by kernel_rfl) rfl Tryz.underlying112 rfl
theorem Tryz.tyok115 : TyOK Tryz.prog 115 Tryz.ti115 := TyOK.of _ (by kernel_rfl) (by kernel_rfl) rfl Tryz.underlying115 ⟨_, _, _, rfl⟩
theorem Tryz.tyok117 : TyOK Tryz.prog 117 Tryz.ti117 := TyOK.of _ (by kernel_rfl) (by kernel_rfl) rfl Tryz.underlying117 rfl
theorem Tryz.tyok118 : TyOK Tryz.prog 118 Tryz.ti118 := TyOK.of _ (by kernel_rfl) (by kernel_rfl) rfl Tryz.underlying118 ⟨_, _, _, rfl⟩
theorem Tryz.tyok120 : TyOK Tryz.prog 120 Tryz.ti120 := TyOK.of _ (by kernel_rfl) (by kernel_rfl) rfl Tryz.underlying120 ⟨_, _, _, rfl⟩
theorem Tryz.tyok124 : TyOK Tryz.prog 124 Tryz.ti124 := TyOK.of _ (by kernel_rfl) (by kernel_rfl) rfl Tryz.underlying124 rfl
theorem Tryz.tyok126 : TyOK Tryz.prog 126 Tryz.ti126 := TyOK.of _ (by kernel_rfl) (by kernel_rfl) rfl Tryz.underlying126 ⟨_, rfl, rfl⟩
theorem Tryz.tyok131 : TyOK Tryz.prog 131 Tryz.ti131 := TyOK.of _ (by kernel_rfl) (by kernel_rfl) rfl Tryz.underlying131 rfl
theorem Tryz.tyok134 : TyOK Tryz.prog 134 Tryz.ti134 := TyOK.of _ (by kernel_rfl) (by kernel_rfl) rfl Tryz.underlying134 ⟨_, _, _, rfl⟩
theorem Tryz.tyok135 : TyOK Tryz.prog 135 Tryz.ti135 := TyOK.of _ (by kernel_rfl) (by kernel_rfl) rfl Tryz.underlying135 ⟨_, _, _, rfl⟩
theorem Tryz.tyok139 : TyOK Tryz.prog 139 Tryz.ti139 := TyOK.of _ (by kernel_rfl) (by kernel_rfl) rfl Tryz.underlying139 ⟨_, _, _, rfl⟩
theorem Tryz.tyok145 : TyOK Tryz.prog 145 Tryz.ti145 := TyOK.of _ (by kernel_rfl) (by kernel_rfl) rfl Tryz.underlying145 ⟨_, _, _, rfl⟩
theorem Tryz.tyok148 : TyOK Tryz.prog 148 Tryz.ti148 := TyOK.of _ (by kernel_rfl) (by kernel_rfl) rfl Tryz.underlying148 rfl
theorem Tryz.tyok152 : TyOK Tryz.prog 152 Tryz.ti152 := TyOK.of _ (by kernel_rfl) (by kernel_rfl) rfl Tryz.underlying152 rfl
theorem Tryz.tyok158 : TyOK Tryz.prog 158 Tryz.ti158 := TyOK.of _ (by kernel_rfl) (by kernel_rfl) rfl Tryz.underlying158 rfl
theorem Tryz.tyok160 : TyOK Tryz.prog 160 Tryz.ti160 := TyOK.of _ (by kernel_rfl) (by kernel_rfl) rfl Tryz.underlying160 rfl
theorem Tryz.tyok163 : TyOK Tryz.prog 163 Tryz.ti163 := TyOK.of _ (by kernel_rfl) (by kernel_rfl) rfl Tryz.underlying163 rfl
theorem Tryz.tyok166 : TyOK Tryz.prog 166 Tryz.ti166 := TyOK.of _ (by kernel_rfl) (by kernel_rfl) rfl Tryz.underlying166 rfl
theorem Tryz.tyok169 : TyOK Tryz.prog 169 Tryz.ti169 := TyOK.of _ (by kernel_rfl) (by kernel_rfl) rfl Tryz.underlying169 rfl
theorem Tryz.tyok170 : TyOK Tryz.prog 170 Tryz.ti170 := TyOK.of _ (by kernel_rfl) (by kernel_rfl) rfl Tryz.underlying170 rfl
theorem Tryz.tyok171 : TyOK Tryz.prog 171 Tryz.ti171 := TyOK.of _ (by kernel_rfl) (by kernel_rfl) rfl Tryz.underlying171 rfl
theorem Tryz.tyok173 : TyOK Tryz.prog 173 Tryz.ti173 := TyOK.of _ (by kernel_rfl) (by kernel_rfl) rfl Tryz.underlying173 rfl
theorem Tryz.tyok174 : TyOK Tryz.prog 174 Tryz.ti174 := TyOK.of _ (by kernel_rfl) (by kernel_rfl) rfl Tryz.underlying174 rfl
theorem Tryz.tyok177 : TyOK Tryz.prog 177 Tryz.ti177 := TyOK.of _ (by kernel_rfl) (by kernel_rfl) rfl Tryz.underlying177 ⟨_, rfl, rfl⟩
theorem Tryz.tyok178 : TyOK Tryz.prog 178 Tryz.ti178 := TyOK.of _ (by kernel_rfl) (by kernel_rfl) rfl Tryz.underlying178 rfl
theorem Tryz.tyok180 : TyOK Tryz.prog 180 Tryz.ti180 := TyOK.of _ (by kernel_rfl) (by kernel_rfl) rfl Tryz.underlying180 ⟨_, rfl, rfl⟩
theorem Tryz.tyok181 : TyOK Tryz.prog 181 Tryz.ti181 := TyOK.of _ (by kernel_rfl) (by kernel_rfl) rfl Tryz.underlying181 rfl
theorem Tryz.tyok182 : TyOK Tryz.prog 182 Tryz.ti182 := TyOK.of _ (by kernel_rfl) (by kernel_rfl) rfl Tryz.underlying182 rfl
theorem Tryz.tyok183 : TyOK Tryz.prog 183 Tryz.ti183 := TyOK.of _ (by kernel_rfl) (by kernel_rfl) rfl Tryz.underlying183 ⟨_, _, _, rfl⟩
theorem Tryz.tyok184 : TyOK Tryz.prog 184 Tryz.ti184 := TyOK.of _ (by kernel_rfl) (by kernel_rfl) rfl Tryz.underlying184 rfl
theorem Tryz.tyok185 : TyOK Tryz.prog 185 Tryz.ti185 := TyOK.of _ (by kernel_rfl) (by kernel_rfl) rfl Tryz.underlying185 rfl
theorem Tryz.tyok186 : TyOK Tryz.prog 186 Tryz.ti186 := TyOK.of _ (by kernel_rfl) (by kernel_rfl) rfl Tryz.underlying186 rfl
theorem Tryz.tyok188 : TyOK Tryz.prog 188 Tryz.ti188 := TyOK.of _ (by kernel_rfl) (by kernel_rfl) rfl Tryz.underlying188 ⟨_, rfl, rfl⟩
theorem Tryz.tysOK : TysOK Tryz.prog Tryz.ty := tys_of (by
  simp only [Tryz.tyl, List.forall_mem_cons, List.not_mem_nil, false_implies, implies_true, and_true]
  exact ⟨Tryz.tyok2, Tryz.tyok3, Tryz.tyok4, Tryz.tyok5, Tryz.tyok6, Tryz.tyok8, Tryz.tyok9, Tryz.tyok10, Tryz.tyok11, Tryz.tyok12, Tryz.tyok14, Tryz.tyok15, Tryz.tyok16, Tryz.tyok17, Tryz.tyok19, Tryz.tyok20, Tryz.tyok21, Tryz.tyok22, Tryz.tyok24, Tryz.tyok25, Tryz.tyok27, Tryz.tyok30, Tryz.tyok31, Tryz.tyok36, Tryz.tyok37, Tryz.tyok52, Tryz.tyok61, Tryz.tyok63, Tryz.tyok66, Tryz.tyok74, Tryz.tyok78, Tryz.tyok80, Tryz.tyok82, Tryz.tyok91, Tryz.tyok92, Tryz.tyok109, Tryz.tyok111, Tryz.tyok112, Tryz.tyok115, Tryz.tyok117, Tryz.tyok118, Tryz.tyok120, Tryz.tyok124, Tryz.tyok126, Tryz.tyok131, Tryz.tyok134, Tryz.tyok135, Tryz.tyok139, Tryz.tyok145, Tryz.tyok148, Tryz.tyok152, Tryz.tyok158, Tryz.tyok160, Tryz.tyok163, Tryz.tyok166, Tryz.tyok169, Tryz.tyok170, Tryz.tyok171, Tryz.tyok173, Tryz.tyok174, Tryz.tyok177, Tryz.tyok178, Tryz.tyok180, Tryz.tyok181, Tryz.tyok182, Tryz.tyok183, Tryz.tyok184, Tryz.tyok185, Tryz.tyok186, Tryz.tyok188⟩)
-- equalities at [52]
end Go.Proofs
