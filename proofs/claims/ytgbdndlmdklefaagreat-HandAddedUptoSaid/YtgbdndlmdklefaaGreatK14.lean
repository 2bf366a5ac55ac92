/- The types of the seat, told to the abstract layer. Written by program. -/
import Derived.Test.YtgbdndlmdklefaaGreatK11
import Derived.Test.YtgbdndlmdklefaaGreatProg
import Derived.KernelRfl
set_option linter.unusedSimpArgs false
set_option linter.unusedVariables false
set_option maxRecDepth 100000
namespace Go.Proofs
open Go Go.Mu
def Tryz.ti1 : TI := { sz := 1, bytes := 8, kd := .func, zero := .nilfn, eqn := false }
def Tryz.ti2 : TI := { sz := 1, bytes := 8, kd := .int .i64, zero := .int .i64 0, eqn := false }
def Tryz.ti3 : TI := { sz := 1, bytes := 8, kd := .int .i64, zero := .int .i64 0, eqn := false }
def Tryz.ti4 : TI := { sz := 1, bytes := 1, kd := .bool, zero := .bool false, eqn := false }
def Tryz.ti5 : TI := { sz := 1, bytes := 1, kd := .int .u8, zero := .int .u8 0, eqn := false }
def Tryz.ti6 : TI := { sz := 1, bytes := 1, kd := .int .u8, zero := .int .u8 0, eqn := false }
def Tryz.ti8 : TI := { sz := 4, bytes := 24, kd := .strct [(0, 2), (1, 3), (2, 4), (3, 6)], zero := .agg [.int .i64 0, .int .i64 0, .bool false, .int .u8 0], eqn := false }
def Tryz.ti9 : TI := { sz := 1, bytes := 16, kd := .str, zero := .str ByteArray.empty, eqn := false }
def Tryz.ti10 : TI := { sz := 1, bytes := 16, kd := .str, zero := .str ByteArray.empty, eqn := false }
def Tryz.ti11 : TI := { sz := 1, bytes := 16, kd := .str, zero := .str ByteArray.empty, eqn := false }
def Tryz.ti12 : TI := { sz := 1, bytes := 8, kd := .int .u64, zero := .int .u64 0, eqn := false }
def Tryz.ti14 : TI := { sz := 2, bytes := 24, kd := .strct [(0, 9), (1, 12)], zero := .agg [.str ByteArray.empty, .int .u64 0], eqn := false }
def Tryz.ti15 : TI := { sz := 1, bytes := 8, kd := .ptr 281, zero := .nilptr, eqn := false }
def Tryz.ti16 : TI := { sz := 1, bytes := 8, kd := .ptr 284, zero := .nilptr, eqn := false }
def Tryz.ti17 : TI := { sz := 1, bytes := 8, kd := .ptr 292, zero := .nilptr, eqn := false }
def Tryz.ti19 : TI := { sz := 1, bytes := 8, kd := .strct [(0, 17)], zero := .agg [.nilptr], eqn := false }
def Tryz.ti22 : TI := { sz := 1, bytes := 24, kd := .slice 3, zero := .list .full 0 [], eqn := false }
def Tryz.ti23 : TI := { sz := 1, bytes := 8, kd := .ptr 116, zero := .nilptr, eqn := false }
def Tryz.ti26 : TI := { sz := 2, bytes := 16, kd := .strct [(0, 3), (1, 3)], zero := .agg [.int .i64 0, .int .i64 0], eqn := true }
def Tryz.ti27 : TI := { sz := 1, bytes := 24, kd := .slice 67, zero := .list .full 0 [], eqn := false }
def Tryz.ti28 : TI := { sz := 1, bytes := 24, kd := .slice 51, zero := .list .full 0 [], eqn := false }
def Tryz.ti30 : TI := { sz := 6, bytes := 80, kd := .strct [(0, 3), (1, 3), (2, 26), (4, 27), (5, 28)], zero := .agg [.int .i64 0, .int .i64 0, .int .i64 0, .int .i64 0, .list .full 0 [], .list .full 0 []], eqn := false }
def Tryz.ti32 : TI := { sz := 2, bytes := 48, kd := .strct [(0, 22), (1, 22)], zero := .agg [.list .full 0 [], .list .full 0 []], eqn := false }
def Tryz.ti36 : TI := { sz := 1, bytes := 24, kd := .slice 22, zero := .list .full 0 [], eqn := false }
def Tryz.ti37 : TI := { sz := 1, bytes := 8, kd := .int .i64, zero := .int .i64 0, eqn := false }
def Tryz.ti46 : TI := { sz := 1, bytes := 24, kd := .slice 26, zero := .list .full 0 [], eqn := false }
def Tryz.ti47 : TI := { sz := 1, bytes := 24, kd := .slice 105, zero := .list .full 0 [], eqn := false }
def Tryz.ti49 : TI := { sz := 3, bytes := 56, kd := .strct [(0, 3), (1, 46), (2, 47)], zero := .agg [.int .i64 0, .list .full 0 [], .list .full 0 []], eqn := false }
def Tryz.ti51 : TI := { sz := 6, bytes := 80, kd := .strct [(0, 3), (1, 3), (2, 3), (3, 49)], zero := .agg [.int .i64 0, .int .i64 0, .int .i64 0, .int .i64 0, .list .full 0 [], .list .full 0 []], eqn := false }
def Tryz.ti54 : TI := { sz := 1, bytes := 24, kd := .slice 30, zero := .list .full 0 [], eqn := false }
def Tryz.ti64 : TI := { sz := 1, bytes := 8, kd := .func, zero := .nilfn, eqn := false }
def Tryz.ti67 : TI := { sz := 2, bytes := 16, kd := .strct [(0, 3), (1, 3)], zero := .agg [.int .i64 0, .int .i64 0], eqn := true }
def Tryz.ti105 : TI := { sz := 6, bytes := 48, kd := .strct [(0, 3), (1, 3), (2, 3), (3, 3), (4, 26)], zero := .agg [.int .i64 0, .int .i64 0, .int .i64 0, .int .i64 0, .int .i64 0, .int .i64 0], eqn := true }
def Tryz.ti109 : TI := { sz := 6, bytes := 48, kd := .strct [(0, 26), (2, 26), (4, 26)], zero := .agg [.int .i64 0, .int .i64 0, .int .i64 0, .int .i64 0, .int .i64 0, .int .i64 0], eqn := false }
def Tryz.ti111 : TI := { sz := 9, bytes := 72, kd := .strct [(0, 26), (2, 26), (4, 26), (6, 26), (8, 3)], zero := .agg [.int .i64 0, .int .i64 0, .int .i64 0, .int .i64 0, .int .i64 0, .int .i64 0, .int .i64 0, .int .i64 0, .int .i64 0], eqn := false }
def Tryz.ti113 : TI := { sz := 18, bytes := 160, kd := .strct [(0, 109), (6, 111), (15, 46), (16, 3), (17, 3)], zero := .agg [.int .i64 0, .int .i64 0, .int .i64 0, .int .i64 0, .int .i64 0, .int .i64 0, .int .i64 0, .int .i64 0, .int .i64 0, .int .i64 0, .int .i64 0, .int .i64 0, .int .i64 0, .int .i64 0, .int .i64 0, .list .full 0 [], .int .i64 0, .int .i64 0], eqn := false }
def Tryz.ti114 : TI := { sz := 1, bytes := 8, kd := .int .u64, zero := .int .u64 0, eqn := false }
def Tryz.ti116 : TI := { sz := 1, bytes := 8, kd := .strct [(0, 114)], zero := .agg [.int .u64 0], eqn := false }
def Tryz.ti117 : TI := { sz := 1, bytes := 8, kd := .int .u64, zero := .int .u64 0, eqn := false }
def Tryz.ti119 : TI := { sz := 7, bytes := 104, kd := .strct [(0, 30), (6, 36)], zero := .agg [.int .i64 0, .int .i64 0, .int .i64 0, .int .i64 0, .list .full 0 [], .list .full 0 [], .list .full 0 []], eqn := false }
def Tryz.ti120 : TI := { sz := 1, bytes := 8, kd := .map 127 4, zero := .nilmap, eqn := false }
def Tryz.ti127 : TI := { sz := 4, bytes := 32, kd := .arr 4 3, zero := .agg [.int .i64 0, .int .i64 0, .int .i64 0, .int .i64 0], eqn := true, keyn := true }
def Tryz.ti144 : TI := { sz := 1, bytes := 8, kd := .int .u64, zero := .int .u64 0, eqn := false }
def Tryz.ti146 : TI := { sz := 1, bytes := 24, kd := .slice 127, zero := .list .full 0 [], eqn := false }
def Tryz.ti149 : TI := { sz := 1, bytes := 8, kd := .ptr 51, zero := .nilptr, eqn := false }
def Tryz.ti164 : TI := { sz := 1, bytes := 24, kd := .slice 169, zero := .list .full 0 [], eqn := false }
def Tryz.ti169 : TI := { sz := 3, bytes := 24, kd := .arr 3 3, zero := .agg [.int .i64 0, .int .i64 0, .int .i64 0], eqn := false }
def Tryz.ti170 : TI := { sz := 1, bytes := 8, kd := .func, zero := .nilfn, eqn := false }
def Tryz.ti179 : TI := { sz := 1, bytes := 24, kd := .slice 37, zero := .list .full 0 [], eqn := false }
def Tryz.ti181 : TI := { sz := 1, bytes := 8, kd := .map 144 4, zero := .nilmap, eqn := false }
def Tryz.ti184 : TI := { sz := 1, bytes := 8, kd := .func, zero := .nilfn, eqn := false }
def Tryz.ti189 : TI := { sz := 1, bytes := 8, kd := .func, zero := .nilfn, eqn := false }
def Tryz.ti190 : TI := { sz := 1, bytes := 8, kd := .func, zero := .nilfn, eqn := false }
def Tryz.ti192 : TI := { sz := 1, bytes := 8, kd := .func, zero := .nilfn, eqn := false }
def Tryz.ti195 : TI := { sz := 1, bytes := 8, kd := .func, zero := .nilfn, eqn := false }
def Tryz.ti197 : TI := { sz := 1, bytes := 8, kd := .func, zero := .nilfn, eqn := false }
def Tryz.ti198 : TI := { sz := 1, bytes := 8, kd := .func, zero := .nilfn, eqn := false }
def Tryz.ti202 : TI := { sz := 1, bytes := 8, kd := .map 3 4, zero := .nilmap, eqn := false }
def Tryz.ti203 : TI := { sz := 1, bytes := 8, kd := .func, zero := .nilfn, eqn := false }
def Tryz.ti205 : TI := { sz := 21, bytes := 184, kd := .strct [(0, 113), (18, 26), (20, 203)], zero := .agg [.int .i64 0, .int .i64 0, .int .i64 0, .int .i64 0, .int .i64 0, .int .i64 0, .int .i64 0, .int .i64 0, .int .i64 0, .int .i64 0, .int .i64 0, .int .i64 0, .int .i64 0, .int .i64 0, .int .i64 0, .list .full 0 [], .int .i64 0, .int .i64 0, .int .i64 0, .int .i64 0, .nilfn], eqn := false }
def Tryz.ti210 : TI := { sz := 5, bytes := 40, kd := .strct [(0, 26), (2, 3), (3, 3), (4, 3)], zero := .agg [.int .i64 0, .int .i64 0, .int .i64 0, .int .i64 0, .int .i64 0], eqn := false, keyn := true }
def Tryz.ti213 : TI := { sz := 1, bytes := 16, kd := .iface, zero := .niliface, eqn := false }
def Tryz.ti215 : TI := { sz := 1, bytes := 8, kd := .map 3 164, zero := .nilmap, eqn := false }
def Tryz.ti225 : TI := { sz := 1, bytes := 8, kd := .int .i64, zero := .int .i64 0, eqn := false }
def Tryz.ti232 : TI := { sz := 1, bytes := 4, kd := .int .u32, zero := .int .u32 0, eqn := false }
def Tryz.ti234 : TI := { sz := 1, bytes := 8, kd := .chan, zero := .chan none, eqn := false }
def Tryz.ti236 : TI := { sz := 3, bytes := 40, kd := .strct [(0, 3), (1, 22), (2, 37)], zero := .agg [.int .i64 0, .list .full 0 [], .int .i64 0], eqn := false }
def Tryz.ti239 : TI := { sz := 1, bytes := 8, kd := .func, zero := .nilfn, eqn := false }
def Tryz.ti242 : TI := { sz := 1, bytes := 24, kd := .slice 213, zero := .list .full 0 [], eqn := false }
def Tryz.ti243 : TI := { sz := 1, bytes := 8, kd := .func, zero := .nilfn, eqn := false }
def Tryz.ti244 : TI := { sz := 1, bytes := 8, kd := .func, zero := .nilfn, eqn := false }
def Tryz.ti245 : TI := { sz := 1, bytes := 8, kd := .map 210 4, zero := .nilmap, eqn := false }
def Tryz.ti247 : TI := { sz := 1, bytes := 8, kd := .func, zero := .nilfn, eqn := false }
def Tryz.ti252 : TI := { sz := 7, bytes := 56, kd := .strct [(0, 105), (6, 3)], zero := .agg [.int .i64 0, .int .i64 0, .int .i64 0, .int .i64 0, .int .i64 0, .int .i64 0, .int .i64 0], eqn := false }
def Tryz.ti254 : TI := { sz := 6, bytes := 48, kd := .strct [(0, 105)], zero := .agg [.int .i64 0, .int .i64 0, .int .i64 0, .int .i64 0, .int .i64 0, .int .i64 0], eqn := false }
def Tryz.ti255 : TI := { sz := 6, bytes := 48, kd := .strct [(0, 105)], zero := .agg [.int .i64 0, .int .i64 0, .int .i64 0, .int .i64 0, .int .i64 0, .int .i64 0], eqn := false }
def Tryz.ti262 : TI := { sz := 1, bytes := 8, kd := .int .u64, zero := .int .u64 0, eqn := false }
def Tryz.ti265 : TI := { sz := 1, bytes := 8, kd := .ptr 3, zero := .nilptr, eqn := false }
def Tryz.ti268 : TI := { sz := 1, bytes := 8, kd := .func, zero := .nilfn, eqn := false }
def Tryz.ti270 : TI := { sz := 15, bytes := 120, kd := .strct [(0, 109), (6, 111)], zero := .agg [.int .i64 0, .int .i64 0, .int .i64 0, .int .i64 0, .int .i64 0, .int .i64 0, .int .i64 0, .int .i64 0, .int .i64 0, .int .i64 0, .int .i64 0, .int .i64 0, .int .i64 0, .int .i64 0, .int .i64 0], eqn := false }
def Tryz.ti275 : TI := { sz := 1, bytes := 8, kd := .ptr 262, zero := .nilptr, eqn := false }
def Tryz.ti281 : TI := { sz := 4, bytes := 40, kd := .strct [(0, 17), (1, 17), (2, 17), (3, 9)], zero := .agg [.nilptr, .nilptr, .nilptr, .str ByteArray.empty], eqn := false }
def Tryz.ti282 : TI := { sz := 0, bytes := 0, kd := .arr 0 16, zero := .agg [], eqn := false }
def Tryz.ti284 : TI := { sz := 0, bytes := 0, kd := .strct [(0, 282)], zero := .agg [], eqn := false }
def Tryz.ti285 : TI := { sz := 1, bytes := 1, kd := .int .u8, zero := .int .u8 0, eqn := false }
def Tryz.ti286 : TI := { sz := 1, bytes := 1, kd := .int .u8, zero := .int .u8 0, eqn := false }
def Tryz.ti287 : TI := { sz := 1, bytes := 8, kd := .func, zero := .nilfn, eqn := false }
def Tryz.ti288 : TI := { sz := 1, bytes := 8, kd := .ptr 5, zero := .nilptr, eqn := false }
def Tryz.ti289 : TI := { sz := 1, bytes := 4, kd := .int .i32, zero := .int .i32 0, eqn := false }
def Tryz.ti290 : TI := { sz := 1, bytes := 4, kd := .int .i32, zero := .int .i32 0, eqn := false }
def Tryz.ti292 : TI := { sz := 11, bytes := 48, kd := .strct [(0, 12), (1, 12), (2, 232), (3, 285), (4, 5), (5, 5), (6, 286), (7, 287), (8, 288), (9, 289), (10, 290)], zero := .agg [.int .u64 0, .int .u64 0, .int .u32 0, .int .u8 0, .int .u8 0, .int .u8 0, .int .u8 0, .nilfn, .nilptr, .int .i32 0, .int .i32 0], eqn := false }
def Tryz.tyl : List (Nat × TI) := [(1, Tryz.ti1), (2, Tryz.ti2), (3, Tryz.ti3), (4, Tryz.ti4), (5, Tryz.ti5), (6, Tryz.ti6), (8, Tryz.ti8), (9, Tryz.ti9), (10, Tryz.ti10), (11, Tryz.ti11), (12, Tryz.ti12), (14, Tryz.ti14), (15, Tryz.ti15), (16, Tryz.ti16), (17, Tryz.ti17), (19, Tryz.ti19), (22, Tryz.ti22), (23, Tryz.ti23), (26, Tryz.ti26), (27, Tryz.ti27), (28, Tryz.ti28), (30, Tryz.ti30), (32, Tryz.ti32), (36, Tryz.ti36), (37, Tryz.ti37), (46, Tryz.ti46), (47, Tryz.ti47), (49, Tryz.ti49), (51, Tryz.ti51), (54, Tryz.ti54), (64, Tryz.ti64), (67, Tryz.ti67), (105, Tryz.ti105), (109, Tryz.ti109), (111, Tryz.ti111), (113, Tryz.ti113), (114, Tryz.ti114), (116, Tryz.ti116), (117, Tryz.ti117), (119, Tryz.ti119), (120, Tryz.ti120), (127, Tryz.ti127), (144, Tryz.ti144), (146, Tryz.ti146), (149, Tryz.ti149), (164, Tryz.ti164), (169, Tryz.ti169), (170, Tryz.ti170), (179, Tryz.ti179), (181, Tryz.ti181), (184, Tryz.ti184), (189, Tryz.ti189), (190, Tryz.ti190), (192, Tryz.ti192), (195, Tryz.ti195), (197, Tryz.ti197), (198, Tryz.ti198), (202, Tryz.ti202), (203, Tryz.ti203), (205, Tryz.ti205), (210, Tryz.ti210), (213, Tryz.ti213), (215, Tryz.ti215), (225, Tryz.ti225), (232, Tryz.ti232), (234, Tryz.ti234), (236, Tryz.ti236), (239, Tryz.ti239), (242, Tryz.ti242), (243, Tryz.ti243), (244, Tryz.ti244), (245, Tryz.ti245), (247, Tryz.ti247), (252, Tryz.ti252), (254, Tryz.ti254), (255, Tryz.ti255), (262, Tryz.ti262), (265, Tryz.ti265), (268, Tryz.ti268), (270, Tryz.ti270), (275, Tryz.ti275), (281, Tryz.ti281), (282, Tryz.ti282), (284, Tryz.ti284), (285, Tryz.ti285), (286, Tryz.ti286), (287, Tryz.ti287), (288, Tryz.ti288), (289, Tryz.ti289), (290, Tryz.ti290), (292, Tryz.ti292)]
def Tryz.ty (t : Nat) : TI := tyOf Tryz.tyl t
theorem Tryz.ty1 : Tryz.ty 1 = { sz := 1, bytes := 8, kd := .func, zero := .nilfn, eqn := false } := rfl
theorem Tryz.ty2 : Tryz.ty 2 = { sz := 1, bytes := 8, kd := .int .i64, zero := .int .i64 0, eqn := false } := rfl
theorem Tryz.ty3 : Tryz.ty 3 = { sz := 1, bytes := 8, kd := .int .i64, zero := .int .i64 0, eqn := false } := rfl
theorem Tryz.ty4 : Tryz.ty 4 = { sz := 1, bytes := 1, kd := .bool, zero := .bool false, eqn := false } := rfl
theorem Tryz.ty5 : Tryz.ty 5 = { sz := 1, bytes := 1, kd := .int .u8, zero := .int .u8 0, eqn := false } := rfl
theorem Tryz.ty6 : Tryz.ty 6 = { sz := 1, bytes := 1, kd := .int .u8, zero := .int .u8 0, eqn := false } := rfl
theorem Tryz.ty8 : Tryz.ty 8 = { sz := 4, bytes := 24, kd := .strct [(0, 2), (1, 3), (2, 4), (3, 6)], zero := .agg [.int .i64 0, .int .i64 0, .bool false, .int .u8 0], eqn := false } := rfl
theorem Tryz.ty9 : Tryz.ty 9 = { sz := 1, bytes := 16, kd := .str, zero := .str ByteArray.empty, eqn := false } := rfl
theorem Tryz.ty10 : Tryz.ty 10 = { sz := 1, bytes := 16, kd := .str, zero := .str ByteArray.empty, eqn := false } := rfl
theorem Tryz.ty11 : Tryz.ty 11 = { sz := 1, bytes := 16, kd := .str, zero := .str ByteArray.empty, eqn := false } := rfl
theorem Tryz.ty12 : Tryz.ty 12 = { sz := 1, bytes := 8, kd := .int .u64, zero := .int .u64 0, eqn := false } := rfl
theorem Tryz.ty14 : Tryz.ty 14 = { sz := 2, bytes := 24, kd := .strct [(0, 9), (1, 12)], zero := .agg [.str ByteArray.empty, .int .u64 0], eqn := false } := rfl
theorem Tryz.ty15 : Tryz.ty 15 = { sz := 1, bytes := 8, kd := .ptr 281, zero := .nilptr, eqn := false } := rfl
theorem Tryz.ty16 : Tryz.ty 16 = { sz := 1, bytes := 8, kd := .ptr 284, zero := .nilptr, eqn := false } := rfl
theorem Tryz.ty17 : Tryz.ty 17 = { sz := 1, bytes := 8, kd := .ptr 292, zero := .nilptr, eqn := false } := rfl
theorem Tryz.ty19 : Tryz.ty 19 = { sz := 1, bytes := 8, kd := .strct [(0, 17)], zero := .agg [.nilptr], eqn := false } := rfl
theorem Tryz.ty22 : Tryz.ty 22 = { sz := 1, bytes := 24, kd := .slice 3, zero := .list .full 0 [], eqn := false } := rfl
theorem Tryz.ty23 : Tryz.ty 23 = { sz := 1, bytes := 8, kd := .ptr 116, zero := .nilptr, eqn := false } := rfl
theorem Tryz.ty26 : Tryz.ty 26 = { sz := 2, bytes := 16, kd := .strct [(0, 3), (1, 3)], zero := .agg [.int .i64 0, .int .i64 0], eqn := true } := rfl
theorem Tryz.ty27 : Tryz.ty 27 = { sz := 1, bytes := 24, kd := .slice 67, zero := .list .full 0 [], eqn := false } := rfl
theorem Tryz.ty28 : Tryz.ty 28 = { sz := 1, bytes := 24, kd := .slice 51, zero := .list .full 0 [], eqn := false } := rfl
theorem Tryz.ty30 : Tryz.ty 30 = { sz := 6, bytes := 80, kd := .strct [(0, 3), (1, 3), (2, 26), (4, 27), (5, 28)], zero := .agg [.int .i64 0, .int .i64 0, .int .i64 0, .int .i64 0, .list .full 0 [], .list .full 0 []], eqn := false } := rfl
theorem Tryz.ty32 : Tryz.ty 32 = { sz := 2, bytes := 48, kd := .strct [(0, 22), (1, 22)], zero := .agg [.list .full 0 [], .list .full 0 []], eqn := false } := rfl
theorem Tryz.ty36 : Tryz.ty 36 = { sz := 1, bytes := 24, kd := .slice 22, zero := .list .full 0 [], eqn := false } := rfl
theorem Tryz.ty37 : Tryz.ty 37 = { sz := 1, bytes := 8, kd := .int .i64, zero := .int .i64 0, eqn := false } := rfl
theorem Tryz.ty46 : Tryz.ty 46 = { sz := 1, bytes := 24, kd := .slice 26, zero := .list .full 0 [], eqn := false } := rfl
theorem Tryz.ty47 : Tryz.ty 47 = { sz := 1, bytes := 24, kd := .slice 105, zero := .list .full 0 [], eqn := false } := rfl
theorem Tryz.ty49 : Tryz.ty 49 = { sz := 3, bytes := 56, kd := .strct [(0, 3), (1, 46), (2, 47)], zero := .agg [.int .i64 0, .list .full 0 [], .list .full 0 []], eqn := false } := rfl
theorem Tryz.ty51 : Tryz.ty 51 = { sz := 6, bytes := 80, kd := .strct [(0, 3), (1, 3), (2, 3), (3, 49)], zero := .agg [.int .i64 0, .int .i64 0, .int .i64 0, .int .i64 0, .list .full 0 [], .list .full 0 []], eqn := false } := rfl
theorem Tryz.ty54 : Tryz.ty 54 = { sz := 1, bytes := 24, kd := .slice 30, zero := .list .full 0 [], eqn := false } := rfl
theorem Tryz.ty64 : Tryz.ty 64 = { sz := 1, bytes := 8, kd := .func, zero := .nilfn, eqn := false } := rfl
theorem Tryz.ty67 : Tryz.ty 67 = { sz := 2, bytes := 16, kd := .strct [(0, 3), (1, 3)], zero := .agg [.int .i64 0, .int .i64 0], eqn := true } := rfl
theorem Tryz.ty105 : Tryz.ty 105 = { sz := 6, bytes := 48, kd := .strct [(0, 3), (1, 3), (2, 3), (3, 3), (4, 26)], zero := .agg [.int .i64 0, .int .i64 0, .int .i64 0, .int .i64 0, .int .i64 0, .int .i64 0], eqn := true } := rfl
theorem Tryz.ty109 : Tryz.ty 109 = { sz := 6, bytes := 48, kd := .strct [(0, 26), (2, 26), (4, 26)], zero := .agg [.int .i64 0, .int .i64 0, .int .i64 0, .int .i64 0, .int .i64 0, .int .i64 0], eqn := false } := rfl
theorem Tryz.ty111 : Tryz.ty 111 = { sz := 9, bytes := 72, kd := .strct [(0, 26), (2, 26), (4, 26), (6, 26), (8, 3)], zero := .agg [.int .i64 0, .int .i64 0, .int .i64 0, .int .i64 0, .int .i64 0, .int .i64 0, .int .i64 0, .int .i64 0, .int .i64 0], eqn := false } := rfl
theorem Tryz.ty113 : Tryz.ty 113 = { sz := 18, bytes := 160, kd := .strct [(0, 109), (6, 111), (15, 46), (16, 3), (17, 3)], zero := .agg [.int .i64 0, .int .i64 0, .int .i64 0, .int .i64 0, .int .i64 0, .int .i64 0, .int .i64 0, .int .i64 0, .int .i64 0, .int .i64 0, .int .i64 0, .int .i64 0, .int .i64 0, .int .i64 0, .int .i64 0, .list .full 0 [], .int .i64 0, .int .i64 0], eqn := false } := rfl
theorem Tryz.ty114 : Tryz.ty 114 = { sz := 1, bytes := 8, kd := .int .u64, zero := .int .u64 0, eqn := false } := rfl
theorem Tryz.ty116 : Tryz.ty 116 = { sz := 1, bytes := 8, kd := .strct [(0, 114)], zero := .agg [.int .u64 0], eqn := false } := rfl
theorem Tryz.ty117 : Tryz.ty 117 = { sz := 1, bytes := 8, kd := .int .u64, zero := .int .u64 0, eqn := false } := rfl
theorem Tryz.ty119 : Tryz.ty 119 = { sz := 7, bytes := 104, kd := .strct [(0, 30), (6, 36)], zero := .agg [.int .i64 0, .int .i64 0, .int .i64 0, .int .i64 0, .list .full 0 [], .list .full 0 [], .list .full 0 []], eqn := false } := rfl
theorem Tryz.ty120 : Tryz.ty 120 = { sz := 1, bytes := 8, kd := .map 127 4, zero := .nilmap, eqn := false } := rfl
theorem Tryz.ty127 : Tryz.ty 127 = { sz := 4, bytes := 32, kd := .arr 4 3, zero := .agg [.int .i64 0, .int .i64 0, .int .i64 0, .int .i64 0], eqn := true, keyn := true } := rfl
theorem Tryz.ty144 : Tryz.ty 144 = { sz := 1, bytes := 8, kd := .int .u64, zero := .int .u64 0, eqn := false } := rfl
theorem Tryz.ty146 : Tryz.ty 146 = { sz := 1, bytes := 24, kd := .slice 127, zero := .list .full 0 [], eqn := false } := rfl
theorem Tryz.ty149 : Tryz.ty 149 = { sz := 1, bytes := 8, kd := .ptr 51, zero := .nilptr, eqn := false } := rfl
theorem Tryz.ty164 : Tryz.ty 164 = { sz := 1, bytes := 24, kd := .slice 169, zero := .list .full 0 [], eqn := false } := rfl
theorem Tryz.ty169 : Tryz.ty 169 = { sz := 3, bytes := 24, kd := .arr 3 3, zero := .agg [.int .i64 0, .int .i64 0, .int .i64 0], eqn := false } := rfl
theorem Tryz.ty170 : Tryz.ty 170 = { sz := 1, bytes := 8, kd := .func, zero := .nilfn, eqn := false } := rfl
theorem Tryz.ty179 : Tryz.ty 179 = { sz := 1, bytes := 24, kd := .slice 37, zero := .list .full 0 [], eqn := false } := rfl
theorem Tryz.ty181 : Tryz.ty 181 = { sz := 1, bytes := 8, kd := .map 144 4, zero := .nilmap, eqn := false } := rfl
theorem Tryz.ty184 : Tryz.ty 184 = { sz := 1, bytes := 8, kd := .func, zero := .nilfn, eqn := false } := rfl
theorem Tryz.ty189 : Tryz.ty 189 = { sz := 1, bytes := 8, kd := .func, zero := .nilfn, eqn := false } := rfl
theorem Tryz.ty190 : Tryz.ty 190 = { sz := 1, bytes := 8, kd := .func, zero := .nilfn, eqn := false } := rfl
theorem Tryz.ty192 : Tryz.ty 192 = { sz := 1, bytes := 8, kd := .func, zero := .nilfn, eqn := false } := rfl
theorem Tryz.ty195 : Tryz.ty 195 = { sz := 1, bytes := 8, kd := .func, zero := .nilfn, eqn := false } := rfl
theorem Tryz.ty197 : Tryz.ty 197 = { sz := 1, bytes := 8, kd := .func, zero := .nilfn, eqn := false } := rfl
theorem Tryz.ty198 : Tryz.ty 198 = { sz := 1, bytes := 8, kd := .func, zero := .nilfn, eqn := false } := rfl
theorem Tryz.ty202 : Tryz.ty 202 = { sz := 1, bytes := 8, kd := .map 3 4, zero := .nilmap, eqn := false } := rfl
theorem Tryz.ty203 : Tryz.ty 203 = { sz := 1, bytes := 8, kd := .func, zero := .nilfn, eqn := false } := rfl
theorem Tryz.ty205 : Tryz.ty 205 = { sz := 21, bytes := 184, kd := .strct [(0, 113), (18, 26), (20, 203)], zero := .agg [.int .i64 0, .int .i64 0, .int .i64 0, .int .i64 0, .int .i64 0, .int .i64 0, .int .i64 0, .int .i64 0, .int .i64 0, .int .i64 0, .int .i64 0, .int .i64 0, .int .i64 0, .int .i64 0, .int .i64 0, .list .full 0 [], .int .i64 0, .int .i64 0, .int .i64 0, .int .i64 0, .nilfn], eqn := false } := rfl
theorem Tryz.ty210 : Tryz.ty 210 = { sz := 5, bytes := 40, kd := .strct [(0, 26), (2, 3), (3, 3), (4, 3)], zero := .agg [.int .i64 0, .int .i64 0, .int .i64 0, .int .i64 0, .int .i64 0], eqn := false, keyn := true } := rfl
theorem Tryz.ty213 : Tryz.ty 213 = { sz := 1, bytes := 16, kd := .iface, zero := .niliface, eqn := false } := rfl
theorem Tryz.ty215 : Tryz.ty 215 = { sz := 1, bytes := 8, kd := .map 3 164, zero := .nilmap, eqn := false } := rfl
theorem Tryz.ty225 : Tryz.ty 225 = { sz := 1, bytes := 8, kd := .int .i64, zero := .int .i64 0, eqn := false } := rfl
theorem Tryz.ty232 : Tryz.ty 232 = { sz := 1, bytes := 4, kd := .int .u32, zero := .int .u32 0, eqn := false } := rfl
theorem Tryz.ty234 : Tryz.ty 234 = { sz := 1, bytes := 8, kd := .chan, zero := .chan none, eqn := false } := rfl
theorem Tryz.ty236 : Tryz.ty 236 = { sz := 3, bytes := 40, kd := .strct [(0, 3), (1, 22), (2, 37)], zero := .agg [.int .i64 0, .list .full 0 [], .int .i64 0], eqn := false } := rfl
theorem Tryz.ty239 : Tryz.ty 239 = { sz := 1, bytes := 8, kd := .func, zero := .nilfn, eqn := false } := rfl
theorem Tryz.ty242 : Tryz.ty 242 = { sz := 1, bytes := 24, kd := .slice 213, zero := .list .full 0 [], eqn := false } := rfl
theorem Tryz.ty243 : Tryz.ty 243 = { sz := 1, bytes := 8, kd := .func, zero := .nilfn, eqn := false } := rfl
theorem Tryz.ty244 : Tryz.ty 244 = { sz := 1, bytes := 8, kd := .func, zero := .nilfn, eqn := false } := rfl
theorem Tryz.ty245 : Tryz.ty 245 = { sz := 1, bytes := 8, kd := .map 210 4, zero := .nilmap, eqn := false } := rfl
theorem Tryz.ty247 : Tryz.ty 247 = { sz := 1, bytes := 8, kd := .func, zero := .nilfn, eqn := false } := rfl
theorem Tryz.ty252 : Tryz.ty 252 = { sz := 7, bytes := 56, kd := .strct [(0, 105), (6, 3)], zero := .agg [.int .i64 0, .int .i64 0, .int .i64 0, .int .i64 0, .int .i64 0, .int .i64 0, .int .i64 0], eqn := false } := rfl
theorem Tryz.ty254 : Tryz.ty 254 = { sz := 6, bytes := 48, kd := .strct [(0, 105)], zero := .agg [.int .i64 0, .int .i64 0, .int .i64 0, .int .i64 0, .int .i64 0, .int .i64 0], eqn := false } := rfl
theorem Tryz.ty255 : Tryz.ty 255 = { sz := 6, bytes := 48, kd := .strct [(0, 105)], zero := .agg [.int .i64 0, .int .i64 0, .int .i64 0, .int .i64 0, .int .i64 0, .int .i64 0], eqn := false } := rfl
theorem Tryz.ty262 : Tryz.ty 262 = { sz := 1, bytes := 8, kd := .int .u64, zero := .int .u64 0, eqn := false } := rfl
theorem Tryz.ty265 : Tryz.ty 265 = { sz := 1, bytes := 8, kd := .ptr 3, zero := .nilptr, eqn := false } := rfl
theorem Tryz.ty268 : Tryz.ty 268 = { sz := 1, bytes := 8, kd := .func, zero := .nilfn, eqn := false } := rfl
theorem Tryz.ty270 : Tryz.ty 270 = { sz := 15, bytes := 120, kd := .strct [(0, 109), (6, 111)], zero := .agg [.int .i64 0, .int .i64 0, .int .i64 0, .int .i64 0, .int .i64 0, .int .i64 0, .int .i64 0, .int .i64 0, .int .i64 0, .int .i64 0, .int .i64 0, .int .i64 0, .int .i64 0, .int .i64 0, .int .i64 0], eqn := false } := rfl
theorem Tryz.ty275 : Tryz.ty 275 = { sz := 1, bytes := 8, kd := .ptr 262, zero := .nilptr, eqn := false } := rfl
theorem Tryz.ty281 : Tryz.ty 281 = { sz := 4, bytes := 40, kd := .strct [(0, 17), (1, 17), (2, 17), (3, 9)], zero := .agg [.nilptr, .nilptr, .nilptr, .str ByteArray.empty], eqn := false } := rfl
theorem Tryz.ty282 : Tryz.ty 282 = { sz := 0, bytes := 0, kd := .arr 0 16, zero := .agg [], eqn := false } := rfl
theorem Tryz.ty284 : Tryz.ty 284 = { sz := 0, bytes := 0, kd := .strct [(0, 282)], zero := .agg [], eqn := false } := rfl
theorem Tryz.ty285 : Tryz.ty 285 = { sz := 1, bytes := 1, kd := .int .u8, zero := .int .u8 0, eqn := false } := rfl
theorem Tryz.ty286 : Tryz.ty 286 = { sz := 1, bytes := 1, kd := .int .u8, zero := .int .u8 0, eqn := false } := rfl
theorem Tryz.ty287 : Tryz.ty 287 = { sz := 1, bytes := 8, kd := .func, zero := .nilfn, eqn := false } := rfl
theorem Tryz.ty288 : Tryz.ty 288 = { sz := 1, bytes := 8, kd := .ptr 5, zero := .nilptr, eqn := false } := rfl
theorem Tryz.ty289 : Tryz.ty 289 = { sz := 1, bytes := 4, kd := .int .i32, zero := .int .i32 0, eqn := false } := rfl
theorem Tryz.ty290 : Tryz.ty 290 = { sz := 1, bytes := 4, kd := .int .i32, zero := .int .i32 0, eqn := false } := rfl
theorem Tryz.ty292 : Tryz.ty 292 = { sz := 11, bytes := 48, kd := .strct [(0, 12), (1, 12), (2, 232), (3, 285), (4, 5), (5, 5), (6, 286), (7, 287), (8, 288), (9, 289), (10, 290)], zero := .agg [.int .u64 0, .int .u64 0, .int .u32 0, .int .u8 0, .int .u8 0, .int .u8 0, .int .u8 0, .nilfn, .nilptr, .int .i32 0, .int .i32 0], eqn := false } := rfl
theorem Tryz.tyok1 : TyOK Tryz.prog 1 Tryz.ti1 := TyOK.of _ (by kernel_rfl) (by kernel_rfl) rfl Tryz.underlying1 ⟨_, _, _, rfl⟩
theorem Tryz.tyok2 : TyOK Tryz.prog 2 Tryz.ti2 := TyOK.of _ (by kernel_rfl) (by kernel_rfl) rfl Tryz.underlying2 rfl
theorem Tryz.tyok3 : TyOK Tryz.prog 3 Tryz.ti3 := TyOK.of _ (by kernel_rfl) (by kernel_rfl) rfl Tryz.underlying3 rfl
theorem Tryz.tyok4 : TyOK Tryz.prog 4 Tryz.ti4 := TyOK.of _ (by kernel_rfl) (by kernel_rfl) rfl Tryz.underlying4 rfl
theorem Tryz.tyok5 : TyOK Tryz.prog 5 Tryz.ti5 := TyOK.of _ (by kernel_rfl) (by kernel_rfl) rfl Tryz.underlying5 rfl
theorem Tryz.tyok6 : TyOK Tryz.prog 6 Tryz.ti6 := TyOK.of _ (by kernel_rfl) (by kernel_rfl) rfl Tryz.underlying6 rfl
theorem Tryz.tyok8 : TyOK Tryz.prog 8 Tryz.ti8 := TyOK.of _ (by kernel_rfl) (by kernel_rfl) rfl Tryz.underlying8 ⟨_, rfl, rfl⟩
theorem Tryz.tyok9 : TyOK Tryz.prog 9 Tryz.ti9 := TyOK.of _ (by kernel_rfl) (by kernel_rfl) rfl Tryz.underlying9 rfl
theorem Tryz.tyok10 : TyOK Tryz.prog 10 Tryz.ti10 := TyOK.of _ (by kernel_rfl) (by kernel_rfl) rfl Tryz.underlying10 rfl
theorem Tryz.tyok11 : TyOK Tryz.prog 11 Tryz.ti11 := TyOK.of _ (by kernel_rfl) (by kernel_rfl) rfl Tryz.underlying11 rfl
theorem Tryz.tyok12 : TyOK Tryz.prog 12 Tryz.ti12 := TyOK.of _ (by kernel_rfl) (by kernel_rfl) rfl Tryz.underlying12 rfl
theorem Tryz.tyok14 : TyOK Tryz.prog 14 Tryz.ti14 := TyOK.of _ (by kernel_rfl) (by kernel_rfl) rfl Tryz.underlying14 ⟨_, rfl, rfl⟩
theorem Tryz.tyok15 : TyOK Tryz.prog 15 Tryz.ti15 := TyOK.of _ (by kernel_rfl) (by kernel_rfl) rfl Tryz.underlying15 rfl
theorem Tryz.tyok16 : TyOK Tryz.prog 16 Tryz.ti16 := TyOK.of _ (by kernel_rfl) (by kernel_rfl) rfl Tryz.underlying16 rfl
theorem Tryz.tyok17 : TyOK Tryz.prog 17 Tryz.ti17 := TyOK.of _ (by kernel_rfl) (by kernel_rfl) rfl Tryz.underlying17 rfl
theorem Tryz.tyok19 : TyOK Tryz.prog 19 Tryz.ti19 := TyOK.of _ (by kernel_rfl) (by kernel_rfl) rfl Tryz.underlying19 ⟨_, rfl, rfl⟩
theorem Tryz.tyok22 : TyOK Tryz.prog 22 Tryz.ti22 := TyOK.of _ (by kernel_rfl) (by kernel_rfl) rfl Tryz.underlying22 rfl
theorem Tryz.tyok23 : TyOK Tryz.prog 23 Tryz.ti23 := TyOK.of _ (by kernel_rfl) (by kernel_rfl) rfl Tryz.underlying23 rfl
theorem Tryz.tyok26 : TyOK Tryz.prog 26 Tryz.ti26 := TyOK.of _ (by kernel_rfl) (by kernel_rfl) rfl Tryz.underlying26 ⟨_, rfl, rfl⟩
theorem Tryz.tyok27 : TyOK Tryz.prog 27 Tryz.ti27 := TyOK.of _ (by kernel_rfl) (by kernel_rfl) rfl Tryz.underlying27 rfl
theorem Tryz.tyok28 : TyOK Tryz.prog 28 Tryz.ti28 := TyOK.of _ (by kernel_rfl) (by kernel_rfl) rfl Tryz.underlying28 rfl
theorem Tryz.tyok30 : TyOK Tryz.prog 30 Tryz.ti30 := TyOK.of _ (by kernel_rfl) (by kernel_rfl) rfl Tryz.underlying30 ⟨_, rfl, rfl⟩
theorem Tryz.tyok32 : TyOK Tryz.prog 32 Tryz.ti32 := TyOK.of _ (by kernel_rfl) (by kernel_rfl) rfl Tryz.underlying32 ⟨_, rfl, rfl⟩
theorem Tryz.tyok36 : TyOK Tryz.prog 36 Tryz.ti36 := TyOK.of _ (by kernel_rfl) (by kernel_rfl) rfl Tryz.underlying36 rfl
theorem Tryz.tyok37 : TyOK Tryz.prog 37 Tryz.ti37 := TyOK.of _ (by kernel_rfl) (by kernel_rfl) rfl Tryz.underlying37 rfl
theorem Tryz.tyok46 : TyOK Tryz.prog 46 Tryz.ti46 := TyOK.of _ (by kernel_rfl) (by kernel_rfl) rfl Tryz.underlying46 rfl
theorem Tryz.tyok47 : TyOK Tryz.prog 47 Tryz.ti47 := TyOK.of _ (by kernel_rfl) (by kernel_rfl) rfl Tryz.underlying47 rfl
theorem Tryz.tyok49 : TyOK Tryz.prog 49 Tryz.ti49 := TyOK.of _ (by kernel_rfl) (by kernel_rfl) rfl Tryz.underlying49 ⟨_, rfl, rfl⟩
theorem Tryz.tyok51 : TyOK Tryz.prog 51 Tryz.ti51 := TyOK.of _ (by kernel_rfl) (by kernel_rfl) rfl Tryz.underlying51 ⟨_, rfl, rfl⟩
theorem Tryz.tyok54 : TyOK Tryz.prog 54 Tryz.ti54 := TyOK.of _ (by kernel_rfl) (by kernel_rfl) rfl Tryz.underlying54 rfl
theorem Tryz.tyok64 : TyOK Tryz.prog 64 Tryz.ti64 := TyOK.of _ (by kernel_rfl) (by kernel_rfl) rfl Tryz.underlying64 ⟨_, _, _, rfl⟩
theorem Tryz.tyok67 : TyOK Tryz.prog 67 Tryz.ti67 := TyOK.of _ (by kernel_rfl) (by kernel_rfl) rfl Tryz.underlying67 ⟨_, rfl, rfl⟩
theorem Tryz.tyok105 : TyOK Tryz.prog 105 Tryz.ti105 := TyOK.of _ (by kernel_rfl) (by kernel_rfl) rfl Tryz.underlying105 ⟨_, rfl, rfl⟩
theorem Tryz.tyok109 : TyOK Tryz.prog 109 Tryz.ti109 := TyOK.of _ (by kernel_rfl) (by kernel_rfl) rfl Tryz.underlying109 ⟨_, rfl, rfl⟩
theorem Tryz.tyok111 : TyOK Tryz.prog 111 Tryz.ti111 := TyOK.of _ (by kernel_rfl) (by kernel_rfl) rfl Tryz.underlying111 ⟨_, rfl, rfl⟩
theorem Tryz.tyok113 : TyOK Tryz.prog 113 Tryz.ti113 := TyOK.of _ (by kernel_rfl) (by kernel_rfl) rfl Tryz.underlying113 ⟨_, rfl, rfl⟩
theorem Tryz.tyok114 : TyOK Tryz.prog 114 Tryz.ti114 := TyOK.of _ (by kernel_rfl) (by kernel_rfl) rfl Tryz.underlying114 rfl
theorem Tryz.tyok116 : TyOK Tryz.prog 116 Tryz.ti116 := TyOK.of _ (by kernel_rfl) (by kernel_rfl) rfl Tryz.underlying116 ⟨_, rfl, rfl⟩
theorem Tryz.tyok117 : TyOK Tryz.prog 117 Tryz.ti117 := TyOK.of _ (by kernel_rfl) (by kernel_rfl) rfl Tryz.underlying117 rfl
theorem Tryz.tyok119 : TyOK Tryz.prog 119 Tryz.ti119 := TyOK.of _ (by kernel_rfl) (by kernel_rfl) rfl Tryz.underlying119 ⟨_, rfl, rfl⟩
theorem Tryz.tyok120 : TyOK Tryz.prog 120 Tryz.ti120 := TyOK.of _ (by kernel_rfl) (by kernel_rfl) rfl Tryz.underlying120 rfl
theorem Tryz.tyok127 : TyOK Tryz.prog 127 Tryz.ti127 := TyOK.of _ (by kernel_rfl) (by kernel_rfl) rfl Tryz.underlying127 rfl
theorem Tryz.tyok144 : TyOK Tryz.prog 144 Tryz.ti144 := TyOK.of _ (by kernel_rfl) (by kernel_rfl) rfl Tryz.underlying144 rfl
theorem Tryz.tyok146 : TyOK Tryz.prog 146 Tryz.ti146 := TyOK.of _ (by kernel_rfl) (by kernel_rfl) rfl Tryz.underlying146 rfl
theorem Tryz.tyok149 : TyOK Tryz.prog 149 Tryz.ti149 := TyOK.of _ (by kernel_rfl) (by kernel_rfl) rfl Tryz.underlying149 rfl
theorem Tryz.tyok164 : TyOK Tryz.prog 164 Tryz.ti164 := TyOK.of _ (by kernel_rfl) (by kernel_rfl) rfl Tryz.underlying164 rfl
theorem Tryz.tyok169 : TyOK Tryz.prog 169 Tryz.ti169 := TyOK.of _ (by kernel_rfl) (by kernel_rfl) rfl Tryz.underlying169 rfl
theorem Tryz.tyok170 : TyOK Tryz.prog 170 Tryz.ti170 := TyOK.of _ (by kernel_rfl) (by kernel_rfl) rfl Tryz.underlying170 ⟨_, _, _, rfl⟩
theorem Tryz.tyok179 : TyOK Tryz.prog 179 Tryz.ti179 := TyOK.of _ (by kernel_rfl) (by kernel_rfl) rfl Tryz.underlying179 rfl
theorem Tryz.tyok181 : TyOK Tryz.prog 181 Tryz.ti181 := TyOK.of _ (by kernel_rfl) (by kernel_rfl) rfl Tryz.underlying181 rfl
theorem Tryz.tyok184 : TyOK Tryz.prog 184 Tryz.ti184 := TyOK.of _ (by kernel_rfl) (by kernel_rfl) rfl Tryz.underlying184 ⟨_, _, _, rfl⟩
theorem Tryz.tyok189 : TyOK Tryz.prog 189 Tryz.ti189 := TyOK.of _ (by kernel_rfl) (by kernel_rfl) rfl Tryz.underlying189 ⟨_, _, _, rfl⟩
theorem Tryz.tyok190 : TyOK Tryz.prog 190 Tryz.ti190 := TyOK.of _ (by kernel_rfl) (by kernel_rfl) rfl Tryz.underlying190 ⟨_, _, _, rfl⟩
theorem Tryz.tyok192 : TyOK Tryz.prog 192 Tryz.ti192 := TyOK.of _ (by kernel_rfl) (by kernel_rfl) rfl Tryz.underlying192 ⟨_, _, _, rfl⟩
theorem Tryz.tyok195 : TyOK Tryz.prog 195 Tryz.ti195 := TyOK.of _ (by kernel_rfl) (by kernel_rfl) rfl Tryz.underlying195 ⟨_, _, _, rfl⟩
theorem Tryz.tyok197 : TyOK Tryz.prog 197 Tryz.ti197 := TyOK.of _ (by kernel_rfl) (by kernel_rfl) rfl Tryz.underlying197 ⟨_, _, _, rfl⟩
theorem Tryz.tyok198 : TyOK Tryz.prog 198 Tryz.ti198 := TyOK.of _ (by kernel_rfl) (by kernel_rfl) rfl Tryz.underlying198 ⟨_, _, _, rfl⟩
theorem Tryz.tyok202 : TyOK Tryz.prog 202 Tryz.ti202 := TyOK.of _ (by kernel_rfl) (by kernel_rfl) rfl Tryz.underlying202 rfl
theorem Tryz.tyok203 : TyOK Tryz.prog 203 Tryz.ti203 := TyOK.of _ (by kernel_rfl) (by kernel_rfl) rfl Tryz.underlying203 ⟨_, _, _, rfl⟩
theorem Tryz.tyok205 : TyOK Tryz.prog 205 Tryz.ti205 := TyOK.of _ (by kernel_rfl) (by kernel_rfl) rfl Tryz.underlying205 ⟨_, rfl, rfl⟩
theorem Tryz.tyok210 : TyOK Tryz.prog 210 Tryz.ti210 := TyOK.of _ (by kernel_rfl) (by kernel_rfl) rfl Tryz.underlying210 ⟨_, rfl, rfl⟩
theorem Tryz.tyok213 : TyOK Tryz.prog 213 Tryz.ti213 := TyOK.of _ (by kernel_rfl) (by kernel_rfl) rfl Tryz.underlying213 ⟨_, rfl⟩
theorem Tryz.tyok215 : TyOK Tryz.prog 215 Tryz.ti215 := TyOK.of _ (by kernel_rfl) (by kernel_rfl) rfl Tryz.underlying215 rfl
theorem Tryz.tyok225 : TyOK Tryz.prog 225 Tryz.ti225 := TyOK.of _ (by kernel_rfl) (by kernel_rfl) rfl Tryz.underlying225 rfl
theorem Tryz.tyok232 : TyOK Tryz.prog 232 Tryz.ti232 := TyOK.of _ (by kernel_rfl) (by kernel_rfl) rfl Tryz.underlying232 rfl
theorem Tryz.tyok234 : TyOK Tryz.prog 234 Tryz.ti234 := TyOK.of _ (by kernel_rfl) (by kernel_rfl) rfl Tryz.underlying234 ⟨_, _, rfl⟩
theorem Tryz.tyok236 : TyOK Tryz.prog 236 Tryz.ti236 := TyOK.of _ (by kernel_rfl) (by kernel_rfl) rfl Tryz.underlying236 ⟨_, rfl, rfl⟩
theorem Tryz.tyok239 : TyOK Tryz.prog 239 Tryz.ti239 := TyOK.of _ (by kernel_rfl) (by kernel_rfl) rfl Tryz.underlying239 ⟨_, _, _, rfl⟩
theorem Tryz.tyok242 : TyOK Tryz.prog 242 Tryz.ti242 := TyOK.of _ (by kernel_rfl) (by kernel_rfl) rfl Tryz.underlying242 rfl
theorem Tryz.tyok243 : TyOK Tryz.prog 243 Tryz.ti243 := TyOK.of _ (by kernel_rfl) (by kernel_rfl) rfl Tryz.underlying243 ⟨_, _, _, rfl⟩
theorem Tryz.tyok244 : TyOK Tryz.prog 244 Tryz.ti244 := TyOK.of _ (by kernel_rfl) (by kernel_rfl) rfl Tryz.underlying244 ⟨_, _, _, rfl⟩
theorem Tryz.tyok245 : TyOK Tryz.prog 245 Tryz.ti245 := TyOK.of _ (by kernel_rfl) (by kernel_rfl) rfl Tryz.underlying245 rfl
theorem Tryz.tyok247 : TyOK Tryz.prog 247 Tryz.ti247 := TyOK.of _ (by kernel_rfl) (by kernel_rfl) rfl Tryz.underlying247 ⟨_, _, _, rfl⟩
theorem Tryz.tyok252 : TyOK Tryz.prog 252 Tryz.ti252 := TyOK.of _ (by kernel_rfl) (by kernel_rfl) rfl Tryz.underlying252 ⟨_, rfl, rfl⟩
theorem Tryz.tyok254 : TyOK Tryz.prog 254 Tryz.ti254 := TyOK.of _ (by kernel_rfl) (by kernel_rfl) rfl Tryz.underlying254 ⟨_, rfl, rfl⟩
theorem Tryz.tyok255 : TyOK Tryz.prog 255 Tryz.ti255 := TyOK.of _ (by kernel_rfl) (by kernel_rfl) rfl Tryz.underlying255 ⟨_, rfl, rfl⟩
theorem Tryz.tyok262 : TyOK Tryz.prog 262 Tryz.ti262 := TyOK.of _ (by kernel_rfl) (by kernel_rfl) rfl Tryz.underlying262 rfl
theorem Tryz.tyok265 : TyOK Tryz.prog 265 Tryz.ti265 := TyOK.of _ (by kernel_rfl) (by kernel_rfl) rfl Tryz.underlying265 rfl
theorem Tryz.tyok268 : TyOK Tryz.prog 268 Tryz.ti268 := TyOK.of _ (by kernel_rfl) (by kernel_rfl) rfl Tryz.underlying268 ⟨_, _, _, rfl⟩
theorem Tryz.tyok270 : TyOK Tryz.prog 270 Tryz.ti270 := TyOK.of _ (by kernel_rfl) (by kernel_rfl) rfl Tryz.underlying270 ⟨_, rfl, rfl⟩
theorem Tryz.tyok275 : TyOK Tryz.prog 275 Tryz.ti275 := TyOK.of _ (by kernel_rfl) (by kernel_rfl) rfl Tryz.underlying275 rfl
theorem Tryz.tyok281 : TyOK Tryz.prog 281 Tryz.ti281 := TyOK.of _ (by kernel_rfl) (by kernel_rfl) rfl Tryz.underlying281 ⟨_, rfl, rfl⟩
theorem Tryz.tyok282 : TyOK Tryz.prog 282 Tryz.ti282 := TyOK.of _ (by kernel_rfl) (by kernel_rfl) rfl Tryz.underlying282 rfl
theorem Tryz.tyok284 : TyOK Tryz.prog 284 Tryz.ti284 := TyOK.of _ (by kernel_rfl) (by kernel_rfl) rfl Tryz.underlying284 ⟨_, rfl, rfl⟩
theorem Tryz.tyok285 : TyOK Tryz.prog 285 Tryz.ti285 := TyOK.of _ (by kernel_rfl) (by kernel_rfl) rfl Tryz.underlying285 rfl
theorem Tryz.tyok286 : TyOK Tryz.prog 286 Tryz.ti286 := TyOK.of _ (by kernel_rfl) (by kernel_rfl) rfl Tryz.underlying286 rfl
theorem Tryz.tyok287 : TyOK Tryz.prog 287 Tryz.ti287 := TyOK.of _ (by kernel_rfl) (by kernel_rfl) rfl Tryz.underlying287 ⟨_, _, _, rfl⟩
theorem Tryz.tyok288 : TyOK Tryz.prog 288 Tryz.ti288 := TyOK.of _ (by kernel_rfl) (by kernel_rfl) rfl Tryz.underlying288 rfl
theorem Tryz.tyok289 : TyOK Tryz.prog 289 Tryz.ti289 := TyOK.of _ (by kernel_rfl) (by kernel_rfl) rfl Tryz.underlying289 rfl
theorem Tryz.tyok290 : TyOK Tryz.prog 290 Tryz.ti290 := TyOK.of _ (by kernel_rfl) (by kernel_rfl) rfl Tryz.underlying290 rfl
theorem Tryz.tyok292 : TyOK Tryz.prog 292 Tryz.ti292 := TyOK.of _ (by kernel_rfl) (by kernel_rfl) rfl Tryz.underlying292 ⟨_, rfl, rfl⟩
theorem Tryz.tysOK : TysOK Tryz.prog Tryz.ty := tys_of (by
 simp only [Tryz.tyl, List.forall_mem_cons, List.not_mem_nil, false_implies, implies_true, and_true]
 exact ⟨Tryz.tyok1, Tryz.tyok2, Tryz.tyok3, Tryz.tyok4, Tryz.tyok5, Tryz.tyok6, Tryz.tyok8, Tryz.tyok9, Tryz.tyok10, Tryz.tyok11, Tryz.tyok12, Tryz.tyok14, Tryz.tyok15, Tryz.tyok16, Tryz.tyok17, Tryz.tyok19, Tryz.tyok22, Tryz.tyok23, Tryz.tyok26, Tryz.tyok27, Tryz.tyok28, Tryz.tyok30, Tryz.tyok32, Tryz.tyok36, Tryz.tyok37, Tryz.tyok46, Tryz.tyok47, Tryz.tyok49, Tryz.tyok51, Tryz.tyok54, Tryz.tyok64, Tryz.tyok67, Tryz.tyok105, Tryz.tyok109, Tryz.tyok111, Tryz.tyok113, Tryz.tyok114, Tryz.tyok116, Tryz.tyok117, Tryz.tyok119, Tryz.tyok120, Tryz.tyok127, Tryz.tyok144, Tryz.tyok146, Tryz.tyok149, Tryz.tyok164, Tryz.tyok169, Tryz.tyok170, Tryz.tyok179, Tryz.tyok181, Tryz.tyok184, Tryz.tyok189, Tryz.tyok190, Tryz.tyok192, Tryz.tyok195, Tryz.tyok197, Tryz.tyok198, Tryz.tyok202, Tryz.tyok203, Tryz.tyok205, Tryz.tyok210, Tryz.tyok213, Tryz.tyok215, Tryz.tyok225, Tryz.tyok232, Tryz.tyok234, Tryz.tyok236, Tryz.tyok239, Tryz.tyok242, Tryz.tyok243, Tryz.tyok244, Tryz.tyok245, Tryz.tyok247, Tryz.tyok252, Tryz.tyok254, Tryz.tyok255, Tryz.tyok262, Tryz.tyok265, Tryz.tyok268, Tryz.tyok270, Tryz.tyok275, Tryz.tyok281, Tryz.tyok282, Tryz.tyok284, Tryz.tyok285, Tryz.tyok286, Tryz.tyok287, Tryz.tyok288, Tryz.tyok289, Tryz.tyok290, Tryz.tyok292⟩)
-- equalities at [26, 67, 105, 127] keys [127, 210]
end Go.Proofs
