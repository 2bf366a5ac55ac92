/- The types of the seat, told to the abstract layer. Written by program. -/
import Derived.Test.YthejgnlikaiddaaDoorMu3
import Derived.Test.YthejgnlikaiddaaDoorProg
import Derived.KernelRfl
set_option linter.unusedSimpArgs false
set_option linter.unusedVariables false
set_option maxRecDepth 100000
namespace Go.Proofs
open Go Go.Mu
def Tryd.ti2 : TI := { sz := 1, bytes := 8, kd := .int .i64, zero := .int .i64 0, eqn := false }
def Tryd.ti3 : TI := { sz := 1, bytes := 8, kd := .int .i64, zero := .int .i64 0, eqn := false }
def Tryd.ti4 : TI := { sz := 1, bytes := 1, kd := .bool, zero := .bool false, eqn := false }
def Tryd.ti5 : TI := { sz := 1, bytes := 1, kd := .int .u8, zero := .int .u8 0, eqn := false }
def Tryd.ti6 : TI := { sz := 1, bytes := 1, kd := .int .u8, zero := .int .u8 0, eqn := false }
def Tryd.ti8 : TI := { sz := 4, bytes := 24, kd := .strct [(0, 2), (1, 3), (2, 4), (3, 6)], zero := .agg [.int .i64 0, .int .i64 0, .bool false, .int .u8 0], eqn := false }
def Tryd.ti9 : TI := { sz := 1, bytes := 16, kd := .str, zero := .str ByteArray.empty, eqn := false }
def Tryd.ti10 : TI := { sz := 1, bytes := 16, kd := .str, zero := .str ByteArray.empty, eqn := false }
def Tryd.ti11 : TI := { sz := 1, bytes := 16, kd := .str, zero := .str ByteArray.empty, eqn := false }
def Tryd.ti12 : TI := { sz := 1, bytes := 8, kd := .int .u64, zero := .int .u64 0, eqn := false }
def Tryd.ti14 : TI := { sz := 2, bytes := 24, kd := .strct [(0, 9), (1, 12)], zero := .agg [.str ByteArray.empty, .int .u64 0], eqn := false }
def Tryd.ti15 : TI := { sz := 1, bytes := 8, kd := .ptr 164, zero := .nilptr, eqn := false }
def Tryd.ti16 : TI := { sz := 1, bytes := 8, kd := .ptr 167, zero := .nilptr, eqn := false }
def Tryd.ti17 : TI := { sz := 1, bytes := 8, kd := .ptr 175, zero := .nilptr, eqn := false }
def Tryd.ti19 : TI := { sz := 1, bytes := 8, kd := .strct [(0, 17)], zero := .agg [.nilptr], eqn := false }
def Tryd.ti20 : TI := { sz := 1, bytes := 16, kd := .iface, zero := .niliface, eqn := false }
def Tryd.ti21 : TI := { sz := 1, bytes := 4, kd := .int .i32, zero := .int .i32 0, eqn := false }
def Tryd.ti22 : TI := { sz := 1, bytes := 24, kd := .slice 3, zero := .list .full 0 [], eqn := false }
def Tryd.ti23 : TI := { sz := 1, bytes := 8, kd := .ptr 75, zero := .nilptr, eqn := false }
def Tryd.ti25 : TI := { sz := 1, bytes := 24, kd := .slice 49, zero := .list .full 0 [], eqn := false }
def Tryd.ti27 : TI := { sz := 2, bytes := 32, kd := .strct [(0, 3), (1, 25)], zero := .agg [.int .i64 0, .list .full 0 []], eqn := false }
def Tryd.ti30 : TI := { sz := 3, bytes := 48, kd := .strct [(0, 22), (1, 9), (2, 3)], zero := .agg [.list .full 0 [], .str ByteArray.empty, .int .i64 0], eqn := false }
def Tryd.ti34 : TI := { sz := 1, bytes := 8, kd := .int .i64, zero := .int .i64 0, eqn := false }
def Tryd.ti37 : TI := { sz := 1, bytes := 24, kd := .slice 22, zero := .list .full 0 [], eqn := false }
def Tryd.ti46 : TI := { sz := 1, bytes := 8, kd := .func, zero := .nilfn, eqn := false }
def Tryd.ti47 : TI := { sz := 1, bytes := 24, kd := .slice 57, zero := .list .full 0 [], eqn := false }
def Tryd.ti49 : TI := { sz := 3, bytes := 56, kd := .strct [(0, 3), (1, 37), (2, 47)], zero := .agg [.int .i64 0, .list .full 0 [], .list .full 0 []], eqn := false }
def Tryd.ti50 : TI := { sz := 1, bytes := 24, kd := .slice 5, zero := .list .full 0 [], eqn := false }
def Tryd.ti57 : TI := { sz := 2, bytes := 16, kd := .strct [(0, 3), (1, 3)], zero := .agg [.int .i64 0, .int .i64 0], eqn := true }
def Tryd.ti73 : TI := { sz := 1, bytes := 8, kd := .int .u64, zero := .int .u64 0, eqn := false }
def Tryd.ti75 : TI := { sz := 1, bytes := 8, kd := .strct [(0, 73)], zero := .agg [.int .u64 0], eqn := false }
def Tryd.ti76 : TI := { sz := 1, bytes := 8, kd := .int .u64, zero := .int .u64 0, eqn := false }
def Tryd.ti82 : TI := { sz := 1, bytes := 24, kd := .slice 87, zero := .list .full 0 [], eqn := false }
def Tryd.ti85 : TI := { sz := 4, bytes := 32, kd := .arr 4 3, zero := .agg [.int .i64 0, .int .i64 0, .int .i64 0, .int .i64 0], eqn := false }
def Tryd.ti87 : TI := { sz := 8, bytes := 64, kd := .strct [(0, 3), (1, 3), (2, 85), (6, 57)], zero := .agg [.int .i64 0, .int .i64 0, .int .i64 0, .int .i64 0, .int .i64 0, .int .i64 0, .int .i64 0, .int .i64 0], eqn := false }
def Tryd.ti91 : TI := { sz := 1, bytes := 8, kd := .func, zero := .nilfn, eqn := false }
def Tryd.ti100 : TI := { sz := 1, bytes := 8, kd := .map 3 102, zero := .nilmap, eqn := false }
def Tryd.ti102 : TI := { sz := 1, bytes := 8, kd := .int .u64, zero := .int .u64 0, eqn := false }
def Tryd.ti108 : TI := { sz := 1, bytes := 8, kd := .func, zero := .nilfn, eqn := false }
def Tryd.ti110 : TI := { sz := 1, bytes := 8, kd := .func, zero := .nilfn, eqn := false }
def Tryd.ti111 : TI := { sz := 1, bytes := 8, kd := .func, zero := .nilfn, eqn := false }
def Tryd.ti113 : TI := { sz := 1, bytes := 8, kd := .map 102 3, zero := .nilmap, eqn := false }
def Tryd.ti114 : TI := { sz := 1, bytes := 8, kd := .func, zero := .nilfn, eqn := false }
def Tryd.ti116 : TI := { sz := 1, bytes := 8, kd := .func, zero := .nilfn, eqn := false }
def Tryd.ti122 : TI := { sz := 1, bytes := 8, kd := .func, zero := .nilfn, eqn := false }
def Tryd.ti123 : TI := { sz := 1, bytes := 8, kd := .func, zero := .nilfn, eqn := false }
def Tryd.ti126 : TI := { sz := 1, bytes := 24, kd := .slice 34, zero := .list .full 0 [], eqn := false }
def Tryd.ti127 : TI := { sz := 1, bytes := 8, kd := .func, zero := .nilfn, eqn := false }
def Tryd.ti136 : TI := { sz := 1, bytes := 4, kd := .int .u32, zero := .int .u32 0, eqn := false }
def Tryd.ti139 : TI := { sz := 24, bytes := 24, kd := .arr 24 5, zero := .agg [.int .u8 0, .int .u8 0, .int .u8 0, .int .u8 0, .int .u8 0, .int .u8 0, .int .u8 0, .int .u8 0, .int .u8 0, .int .u8 0, .int .u8 0, .int .u8 0, .int .u8 0, .int .u8 0, .int .u8 0, .int .u8 0, .int .u8 0, .int .u8 0, .int .u8 0, .int .u8 0, .int .u8 0, .int .u8 0, .int .u8 0, .int .u8 0], eqn := false }
def Tryd.ti144 : TI := { sz := 1, bytes := 8, kd := .int .i64, zero := .int .i64 0, eqn := false }
def Tryd.ti151 : TI := { sz := 20, bytes := 160, kd := .arr 20 73, zero := .agg [.int .u64 0, .int .u64 0, .int .u64 0, .int .u64 0, .int .u64 0, .int .u64 0, .int .u64 0, .int .u64 0, .int .u64 0, .int .u64 0, .int .u64 0, .int .u64 0, .int .u64 0, .int .u64 0, .int .u64 0, .int .u64 0, .int .u64 0, .int .u64 0, .int .u64 0, .int .u64 0], eqn := false }
def Tryd.ti152 : TI := { sz := 65, bytes := 65, kd := .arr 65 5, zero := .agg [.int .u8 0, .int .u8 0, .int .u8 0, .int .u8 0, .int .u8 0, .int .u8 0, .int .u8 0, .int .u8 0, .int .u8 0, .int .u8 0, .int .u8 0, .int .u8 0, .int .u8 0, .int .u8 0, .int .u8 0, .int .u8 0, .int .u8 0, .int .u8 0, .int .u8 0, .int .u8 0, .int .u8 0, .int .u8 0, .int .u8 0, .int .u8 0, .int .u8 0, .int .u8 0, .int .u8 0, .int .u8 0, .int .u8 0, .int .u8 0, .int .u8 0, .int .u8 0, .int .u8 0, .int .u8 0, .int .u8 0, .int .u8 0, .int .u8 0, .int .u8 0, .int .u8 0, .int .u8 0, .int .u8 0, .int .u8 0, .int .u8 0, .int .u8 0, .int .u8 0, .int .u8 0, .int .u8 0, .int .u8 0, .int .u8 0, .int .u8 0, .int .u8 0, .int .u8 0, .int .u8 0, .int .u8 0, .int .u8 0, .int .u8 0, .int .u8 0, .int .u8 0, .int .u8 0, .int .u8 0, .int .u8 0, .int .u8 0, .int .u8 0, .int .u8 0, .int .u8 0], eqn := false }
def Tryd.ti153 : TI := { sz := 1, bytes := 8, kd := .int .u64, zero := .int .u64 0, eqn := false }
def Tryd.ti156 : TI := { sz := 1, bytes := 8, kd := .ptr 3, zero := .nilptr, eqn := false }
def Tryd.ti158 : TI := { sz := 1, bytes := 8, kd := .ptr 153, zero := .nilptr, eqn := false }
def Tryd.ti160 : TI := { sz := 32, bytes := 32, kd := .arr 32 5, zero := .agg [.int .u8 0, .int .u8 0, .int .u8 0, .int .u8 0, .int .u8 0, .int .u8 0, .int .u8 0, .int .u8 0, .int .u8 0, .int .u8 0, .int .u8 0, .int .u8 0, .int .u8 0, .int .u8 0, .int .u8 0, .int .u8 0, .int .u8 0, .int .u8 0, .int .u8 0, .int .u8 0, .int .u8 0, .int .u8 0, .int .u8 0, .int .u8 0, .int .u8 0, .int .u8 0, .int .u8 0, .int .u8 0, .int .u8 0, .int .u8 0, .int .u8 0, .int .u8 0], eqn := false }
def Tryd.ti161 : TI := { sz := 64, bytes := 64, kd := .arr 64 5, zero := .agg [.int .u8 0, .int .u8 0, .int .u8 0, .int .u8 0, .int .u8 0, .int .u8 0, .int .u8 0, .int .u8 0, .int .u8 0, .int .u8 0, .int .u8 0, .int .u8 0, .int .u8 0, .int .u8 0, .int .u8 0, .int .u8 0, .int .u8 0, .int .u8 0, .int .u8 0, .int .u8 0, .int .u8 0, .int .u8 0, .int .u8 0, .int .u8 0, .int .u8 0, .int .u8 0, .int .u8 0, .int .u8 0, .int .u8 0, .int .u8 0, .int .u8 0, .int .u8 0, .int .u8 0, .int .u8 0, .int .u8 0, .int .u8 0, .int .u8 0, .int .u8 0, .int .u8 0, .int .u8 0, .int .u8 0, .int .u8 0, .int .u8 0, .int .u8 0, .int .u8 0, .int .u8 0, .int .u8 0, .int .u8 0, .int .u8 0, .int .u8 0, .int .u8 0, .int .u8 0, .int .u8 0, .int .u8 0, .int .u8 0, .int .u8 0, .int .u8 0, .int .u8 0, .int .u8 0, .int .u8 0, .int .u8 0, .int .u8 0, .int .u8 0, .int .u8 0], eqn := false }
def Tryd.ti164 : TI := { sz := 4, bytes := 40, kd := .strct [(0, 17), (1, 17), (2, 17), (3, 9)], zero := .agg [.nilptr, .nilptr, .nilptr, .str ByteArray.empty], eqn := false }
def Tryd.ti165 : TI := { sz := 0, bytes := 0, kd := .arr 0 16, zero := .agg [], eqn := false }
def Tryd.ti167 : TI := { sz := 0, bytes := 0, kd := .strct [(0, 165)], zero := .agg [], eqn := false }
def Tryd.ti168 : TI := { sz := 1, bytes := 1, kd := .int .u8, zero := .int .u8 0, eqn := false }
def Tryd.ti169 : TI := { sz := 1, bytes := 1, kd := .int .u8, zero := .int .u8 0, eqn := false }
def Tryd.ti170 : TI := { sz := 1, bytes := 8, kd := .func, zero := .nilfn, eqn := false }
def Tryd.ti171 : TI := { sz := 1, bytes := 8, kd := .ptr 5, zero := .nilptr, eqn := false }
def Tryd.ti172 : TI := { sz := 1, bytes := 4, kd := .int .i32, zero := .int .i32 0, eqn := false }
def Tryd.ti173 : TI := { sz := 1, bytes := 4, kd := .int .i32, zero := .int .i32 0, eqn := false }
def Tryd.ti175 : TI := { sz := 11, bytes := 48, kd := .strct [(0, 12), (1, 12), (2, 136), (3, 168), (4, 5), (5, 5), (6, 169), (7, 170), (8, 171), (9, 172), (10, 173)], zero := .agg [.int .u64 0, .int .u64 0, .int .u32 0, .int .u8 0, .int .u8 0, .int .u8 0, .int .u8 0, .nilfn, .nilptr, .int .i32 0, .int .i32 0], eqn := false }
def Tryd.tyl : List (Nat × TI) := [(2, Tryd.ti2), (3, Tryd.ti3), (4, Tryd.ti4), (5, Tryd.ti5), (6, Tryd.ti6), (8, Tryd.ti8), (9, Tryd.ti9), (10, Tryd.ti10), (11, Tryd.ti11), (12, Tryd.ti12), (14, Tryd.ti14), (15, Tryd.ti15), (16, Tryd.ti16), (17, Tryd.ti17), (19, Tryd.ti19), (20, Tryd.ti20), (21, Tryd.ti21), (22, Tryd.ti22), (23, Tryd.ti23), (25, Tryd.ti25), (27, Tryd.ti27), (30, Tryd.ti30), (34, Tryd.ti34), (37, Tryd.ti37), (46, Tryd.ti46), (47, Tryd.ti47), (49, Tryd.ti49), (50, Tryd.ti50), (57, Tryd.ti57), (73, Tryd.ti73), (75, Tryd.ti75), (76, Tryd.ti76), (82, Tryd.ti82), (85, Tryd.ti85), (87, Tryd.ti87), (91, Tryd.ti91), (100, Tryd.ti100), (102, Tryd.ti102), (108, Tryd.ti108), (110, Tryd.ti110), (111, Tryd.ti111), (113, Tryd.ti113), (114, Tryd.ti114), (116, Tryd.ti116), (122, Tryd.ti122), (123, Tryd.ti123), (126, Tryd.ti126), (127, Tryd.ti127), (136, Tryd.ti136), (139, Tryd.ti139), (144, Tryd.ti144), (151, Tryd.ti151), (152, Tryd.ti152), (153, Tryd.ti153), (156, Tryd.ti156), (158, Tryd.ti158), (160, Tryd.ti160), (161, Tryd.ti161), (164, Tryd.ti164), (165, Tryd.ti165), (167, Tryd.ti167), (168, Tryd.ti168), (169, Tryd.ti169), (170, Tryd.ti170), (171, Tryd.ti171), (172, Tryd.ti172), (173, Tryd.ti173), (175, Tryd.ti175)]
def Tryd.ty (t : Nat) : TI := tyOf Tryd.tyl t
theorem Tryd.ty2 : Tryd.ty 2 = { sz := 1, bytes := 8, kd := .int .i64, zero := .int .i64 0, eqn := false } := rfl
theorem Tryd.ty3 : Tryd.ty 3 = { sz := 1, bytes := 8, kd := .int .i64, zero := .int .i64 0, eqn := false } := rfl
theorem Tryd.ty4 : Tryd.ty 4 = { sz := 1, bytes := 1, kd := .bool, zero := .bool false, eqn := false } := rfl
theorem Tryd.ty5 : Tryd.ty 5 = { sz := 1, bytes := 1, kd := .int .u8, zero := .int .u8 0, eqn := false } := rfl
theorem Tryd.ty6 : Tryd.ty 6 = { sz := 1, bytes := 1, kd := .int .u8, zero := .int .u8 0, eqn := false } := rfl
theorem Tryd.ty8 : Tryd.ty 8 = { sz := 4, bytes := 24, kd := .strct [(0, 2), (1, 3), (2, 4), (3, 6)], zero := .agg [.int .i64 0, .int .i64 0, .bool false, .int .u8 0], eqn := false } := rfl
theorem Tryd.ty9 : Tryd.ty 9 = { sz := 1, bytes := 16, kd := .str, zero := .str ByteArray.empty, eqn := false } := rfl
theorem Tryd.ty10 : Tryd.ty 10 = { sz := 1, bytes := 16, kd := .str, zero := .str ByteArray.empty, eqn := false } := rfl
theorem Tryd.ty11 : Tryd.ty 11 = { sz := 1, bytes := 16, kd := .str, zero := .str ByteArray.empty, eqn := false } := rfl
theorem Tryd.ty12 : Tryd.ty 12 = { sz := 1, bytes := 8, kd := .int .u64, zero := .int .u64 0, eqn := false } := rfl
theorem Tryd.ty14 : Tryd.ty 14 = { sz := 2, bytes := 24, kd := .strct [(0, 9), (1, 12)], zero := .agg [.str ByteArray.empty, .int .u64 0], eqn := false } := rfl
theorem Tryd.ty15 : Tryd.ty 15 = { sz := 1, bytes := 8, kd := .ptr 164, zero := .nilptr, eqn := false } := rfl
theorem Tryd.ty16 : Tryd.ty 16 = { sz := 1, bytes := 8, kd := .ptr 167, zero := .nilptr, eqn := false } := rfl
theorem Tryd.ty17 : Tryd.ty 17 = { sz := 1, bytes := 8, kd := .ptr 175, zero := .nilptr, eqn := false } := rfl
theorem Tryd.ty19 : Tryd.ty 19 = { sz := 1, bytes := 8, kd := .strct [(0, 17)], zero := .agg [.nilptr], eqn := false } := rfl
theorem Tryd.ty20 : Tryd.ty 20 = { sz := 1, bytes := 16, kd := .iface, zero := .niliface, eqn := false } := rfl
theorem Tryd.ty21 : Tryd.ty 21 = { sz := 1, bytes := 4, kd := .int .i32, zero := .int .i32 0, eqn := false } := rfl
theorem Tryd.ty22 : Tryd.ty 22 = { sz := 1, bytes := 24, kd := .slice 3, zero := .list .full 0 [], eqn := false } := rfl
theorem Tryd.ty23 : Tryd.ty 23 = { sz := 1, bytes := 8, kd := .ptr 75, zero := .nilptr, eqn := false } := rfl
theorem Tryd.ty25 : Tryd.ty 25 = { sz := 1, bytes := 24, kd := .slice 49, zero := .list .full 0 [], eqn := false } := rfl
theorem Tryd.ty27 : Tryd.ty 27 = { sz := 2, bytes := 32, kd := .strct [(0, 3), (1, 25)], zero := .agg [.int .i64 0, .list .full 0 []], eqn := false } := rfl
theorem Tryd.ty30 : Tryd.ty 30 = { sz := 3, bytes := 48, kd := .strct [(0, 22), (1, 9), (2, 3)], zero := .agg [.list .full 0 [], .str ByteArray.empty, .int .i64 0], eqn := false } := rfl
theorem Tryd.ty34 : Tryd.ty 34 = { sz := 1, bytes := 8, kd := .int .i64, zero := .int .i64 0, eqn := false } := rfl
theorem Tryd.ty37 : Tryd.ty 37 = { sz := 1, bytes := 24, kd := .slice 22, zero := .list .full 0 [], eqn := false } := rfl
theorem Tryd.ty46 : Tryd.ty 46 = { sz := 1, bytes := 8, kd := .func, zero := .nilfn, eqn := false } := rfl
theorem Tryd.ty47 : Tryd.ty 47 = { sz := 1, bytes := 24, kd := .slice 57, zero := .list .full 0 [], eqn := false } := rfl
theorem Tryd.ty49 : Tryd.ty 49 = { sz := 3, bytes := 56, kd := .strct [(0, 3), (1, 37), (2, 47)], zero := .agg [.int .i64 0, .list .full 0 [], .list .full 0 []], eqn := false } := rfl
theorem Tryd.ty50 : Tryd.ty 50 = { sz := 1, bytes := 24, kd := .slice 5, zero := .list .full 0 [], eqn := false } := rfl
theorem Tryd.ty57 : Tryd.ty 57 = { sz := 2, bytes := 16, kd := .strct [(0, 3), (1, 3)], zero := .agg [.int .i64 0, .int .i64 0], eqn := true } := rfl
theorem Tryd.ty73 : Tryd.ty 73 = { sz := 1, bytes := 8, kd := .int .u64, zero := .int .u64 0, eqn := false } := rfl
theorem Tryd.ty75 : Tryd.ty 75 = { sz := 1, bytes := 8, kd := .strct [(0, 73)], zero := .agg [.int .u64 0], eqn := false } := rfl
theorem Tryd.ty76 : Tryd.ty 76 = { sz := 1, bytes := 8, kd := .int .u64, zero := .int .u64 0, eqn := false } := rfl
theorem Tryd.ty82 : Tryd.ty 82 = { sz := 1, bytes := 24, kd := .slice 87, zero := .list .full 0 [], eqn := false } := rfl
theorem Tryd.ty85 : Tryd.ty 85 = { sz := 4, bytes := 32, kd := .arr 4 3, zero := .agg [.int .i64 0, .int .i64 0, .int .i64 0, .int .i64 0], eqn := false } := rfl
theorem Tryd.ty87 : Tryd.ty 87 = { sz := 8, bytes := 64, kd := .strct [(0, 3), (1, 3), (2, 85), (6, 57)], zero := .agg [.int .i64 0, .int .i64 0, .int .i64 0, .int .i64 0, .int .i64 0, .int .i64 0, .int .i64 0, .int .i64 0], eqn := false } := rfl
theorem Tryd.ty91 : Tryd.ty 91 = { sz := 1, bytes := 8, kd := .func, zero := .nilfn, eqn := false } := rfl
theorem Tryd.ty100 : Tryd.ty 100 = { sz := 1, bytes := 8, kd := .map 3 102, zero := .nilmap, eqn := false } := rfl
theorem Tryd.ty102 : Tryd.ty 102 = { sz := 1, bytes := 8, kd := .int .u64, zero := .int .u64 0, eqn := false } := rfl
theorem Tryd.ty108 : Tryd.ty 108 = { sz := 1, bytes := 8, kd := .func, zero := .nilfn, eqn := false } := rfl
theorem Tryd.ty110 : Tryd.ty 110 = { sz := 1, bytes := 8, kd := .func, zero := .nilfn, eqn := false } := rfl
theorem Tryd.ty111 : Tryd.ty 111 = { sz := 1, bytes := 8, kd := .func, zero := .nilfn, eqn := false } := rfl
theorem Tryd.ty113 : Tryd.ty 113 = { sz := 1, bytes := 8, kd := .map 102 3, zero := .nilmap, eqn := false } := rfl
theorem Tryd.ty114 : Tryd.ty 114 = { sz := 1, bytes := 8, kd := .func, zero := .nilfn, eqn := false } := rfl
theorem Tryd.ty116 : Tryd.ty 116 = { sz := 1, bytes := 8, kd := .func, zero := .nilfn, eqn := false } := rfl
theorem Tryd.ty122 : Tryd.ty 122 = { sz := 1, bytes := 8, kd := .func, zero := .nilfn, eqn := false } := rfl
theorem Tryd.ty123 : Tryd.ty 123 = { sz := 1, bytes := 8, kd := .func, zero := .nilfn, eqn := false } := rfl
theorem Tryd.ty126 : Tryd.ty 126 = { sz := 1, bytes := 24, kd := .slice 34, zero := .list .full 0 [], eqn := false } := rfl
theorem Tryd.ty127 : Tryd.ty 127 = { sz := 1, bytes := 8, kd := .func, zero := .nilfn, eqn := false } := rfl
theorem Tryd.ty136 : Tryd.ty 136 = { sz := 1, bytes := 4, kd := .int .u32, zero := .int .u32 0, eqn := false } := rfl
theorem Tryd.ty139 : Tryd.ty 139 = { sz := 24, bytes := 24, kd := .arr 24 5, zero := .agg [.int .u8 0, .int .u8 0, .int .u8 0, .int .u8 0, .int .u8 0, .int .u8 0, .int .u8 0, .int .u8 0, .int .u8 0, .int .u8 0, .int .u8 0, .int .u8 0, .int .u8 0, .int .u8 0, .int .u8 0, .int .u8 0, .int .u8 0, .int .u8 0, .int .u8 0, .int .u8 0, .int .u8 0, .int .u8 0, .int .u8 0, .int .u8 0], eqn := false } := rfl
theorem Tryd.ty144 : Tryd.ty 144 = { sz := 1, bytes := 8, kd := .int .i64, zero := .int .i64 0, eqn := false } := rfl
theorem Tryd.ty151 : Tryd.ty 151 = { sz := 20, bytes := 160, kd := .arr 20 73, zero := .agg [.int .u64 0, .int .u64 0, .int .u64 0, .int .u64 0, .int .u64 0, .int .u64 0, .int .u64 0, .int .u64 0, .int .u64 0, .int .u64 0, .int .u64 0, .int .u64 0, .int .u64 0, .int .u64 0, .int .u64 0, .int .u64 0, .int .u64 0, .int .u64 0, .int .u64 0, .int .u64 0], eqn := false } := rfl
theorem Tryd.ty152 : Tryd.ty 152 = { sz := 65, bytes := 65, kd := .arr 65 5, zero := .agg [.int .u8 0, .int .u8 0, .int .u8 0, .int .u8 0, .int .u8 0, .int .u8 0, .int .u8 0, .int .u8 0, .int .u8 0, .int .u8 0, .int .u8 0, .int .u8 0, .int .u8 0, .int .u8 0, .int .u8 0, .int .u8 0, .int .u8 0, .int .u8 0, .int .u8 0, .int .u8 0, .int .u8 0, .int .u8 0, .int .u8 0, .int .u8 0, .int .u8 0, .int .u8 0, .int .u8 0, .int .u8 0, .int .u8 0, .int .u8 0, .int .u8 0, .int .u8 0, .int .u8 0, .int .u8 0, .int .u8 0, .int .u8 0, .int .u8 0, .int .u8 0, .int .u8 0, .int .u8 0, .int .u8 0, .int .u8 0, .int .u8 0, .int .u8 0, .int .u8 0, .int .u8 0, .int .u8 0, .int .u8 0, .int .u8 0, .int .u8 0, .int .u8 0, .int .u8 0, .int .u8 0, .int .u8 0, .int .u8 0, .int .u8 0, .int .u8 0, .int .u8 0, .int .u8 0, .int .u8 0, .int .u8 0, .int .u8 0, .int .u8 0, .int .u8 0, .int .u8 0], eqn := false } := rfl
theorem Tryd.ty153 : Tryd.ty 153 = { sz := 1, bytes := 8, kd := .int .u64, zero := .int .u64 0, eqn := false } := rfl
theorem Tryd.ty156 : Tryd.ty 156 = { sz := 1, bytes := 8, kd := .ptr 3, zero := .nilptr, eqn := false } := rfl
theorem Tryd.ty158 : Tryd.ty 158 = { sz := 1, bytes := 8, kd := .ptr 153, zero := .nilptr, eqn := false } := rfl
theorem Tryd.ty160 : Tryd.ty 160 = { sz := 32, bytes := 32, kd := .arr 32 5, zero := .agg [.int .u8 0, .int .u8 0, .int .u8 0, .int .u8 0, .int .u8 0, .int .u8 0, .int .u8 0, .int .u8 0, .int .u8 0, .int .u8 0, .int .u8 0, .int .u8 0, .int .u8 0, .int .u8 0, .int .u8 0, .int .u8 0, .int .u8 0, .int .u8 0, .int .u8 0, .int .u8 0, .int .u8 0, .int .u8 0, .int .u8 0, .int .u8 0, .int .u8 0, .int .u8 0, .int .u8 0, .int .u8 0, .int .u8 0, .int .u8 0, .int .u8 0, .int .u8 0], eqn := false } := rfl
theorem Tryd.ty161 : Tryd.ty 161 = { sz := 64, bytes := 64, kd := .arr 64 5, zero := .agg [.int .u8 0, .int .u8 0, .int .u8 0, .int .u8 0, .int .u8 0, .int .u8 0, .int .u8 0, .int .u8 0, .int .u8 0, .int .u8 0, .int .u8 0, .int .u8 0, .int .u8 0, .int .u8 0, .int .u8 0, .int .u8 0, .int .u8 0, .int .u8 0, .int .u8 0, .int .u8 0, .int .u8 0, .int .u8 0, .int .u8 0, .int .u8 0, .int .u8 0, .int .u8 0, .int .u8 0, .int .u8 0, .int .u8 0, .int .u8 0, .int .u8 0, .int .u8 0, .int .u8 0, .int .u8 0, .int .u8 0, .int .u8 0, .int .u8 0, .int .u8 0, .int .u8 0, .int .u8 0, .int .u8 0, .int .u8 0, .int .u8 0, .int .u8 0, .int .u8 0, .int .u8 0, .int .u8 0, .int .u8 0, .int .u8 0, .int .u8 0, .int .u8 0, .int .u8 0, .int .u8 0, .int .u8 0, .int .u8 0, .int .u8 0, .int .u8 0, .int .u8 0, .int .u8 0, .int .u8 0, .int .u8 0, .int .u8 0, .int .u8 0, .int .u8 0], eqn := false } := rfl
theorem Tryd.ty164 : Tryd.ty 164 = { sz := 4, bytes := 40, kd := .strct [(0, 17), (1, 17), (2, 17), (3, 9)], zero := .agg [.nilptr, .nilptr, .nilptr, .str ByteArray.empty], eqn := false } := rfl
theorem Tryd.ty165 : Tryd.ty 165 = { sz := 0, bytes := 0, kd := .arr 0 16, zero := .agg [], eqn := false } := rfl
theorem Tryd.ty167 : Tryd.ty 167 = { sz := 0, bytes := 0, kd := .strct [(0, 165)], zero := .agg [], eqn := false } := rfl
theorem Tryd.ty168 : Tryd.ty 168 = { sz := 1, bytes := 1, kd := .int .u8, zero := .int .u8 0, eqn := false } := rfl
theorem Tryd.ty169 : Tryd.ty 169 = { sz := 1, bytes := 1, kd := .int .u8, zero := .int .u8 0, eqn := false } := rfl
theorem Tryd.ty170 : Tryd.ty 170 = { sz := 1, bytes := 8, kd := .func, zero := .nilfn, eqn := false } := rfl
theorem Tryd.ty171 : Tryd.ty 171 = { sz := 1, bytes := 8, kd := .ptr 5, zero := .nilptr, eqn := false } := rfl
theorem Tryd.ty172 : Tryd.ty 172 = { sz := 1, bytes := 4, kd := .int .i32, zero := .int .i32 0, eqn := false } := rfl
theorem Tryd.ty173 : Tryd.ty 173 = { sz := 1, bytes := 4, kd := .int .i32, zero := .int .i32 0, eqn := false } := rfl
theorem Tryd.ty175 : Tryd.ty 175 = { sz := 11, bytes := 48, kd := .strct [(0, 12), (1, 12), (2, 136), (3, 168), (4, 5), (5, 5), (6, 169), (7, 170), (8, 171), (9, 172), (10, 173)], zero := .agg [.int .u64 0, .int .u64 0, .int .u32 0, .int .u8 0, .int .u8 0, .int .u8 0, .int .u8 0, .nilfn, .nilptr, .int .i32 0, .int .i32 0], eqn := false } := rfl
theorem Tryd.tyok2 : TyOK Tryd.prog 2 Tryd.ti2 := TyOK.of _ (by kernel_rfl) (by kernel_rfl) rfl Tryd.underlying2 rfl
theorem Tryd.tyok3 : TyOK Tryd.prog 3 Tryd.ti3 := TyOK.of _ (by kernel_rfl) (by kernel_rfl) rfl Tryd.underlying3 rfl
theorem Tryd.tyok4 : TyOK Tryd.prog 4 Tryd.ti4 := TyOK.of _ (by kernel_rfl) (by kernel_rfl) rfl Tryd.underlying4 rfl
theorem Tryd.tyok5 : TyOK Tryd.prog 5 Tryd.ti5 := TyOK.of _ (by kernel_rfl) (by kernel_rfl) rfl Tryd.underlying5 rfl
theorem Tryd.tyok6 : TyOK Tryd.prog 6 Tryd.ti6 := TyOK.of _ (by kernel_rfl) (by kernel_rfl) rfl Tryd.underlying6 rfl
theorem Tryd.tyok8 : TyOK Tryd.prog 8 Tryd.ti8 := TyOK.of _ (by kernel_rfl) (by kernel_rfl) rfl Tryd.underlying8 ⟨_, rfl, rfl⟩
theorem Tryd.tyok9 : TyOK Tryd.prog 9 Tryd.ti9 := TyOK.of _ (by kernel_rfl) (by kernel_rfl) rfl Tryd.underlying9 rfl
theorem Tryd.tyok10 : TyOK Tryd.prog 10 Tryd.ti10 := TyOK.of _ (by kernel_rfl) (by kernel_rfl) rfl Tryd.underlying10 rfl
theorem Tryd.tyok11 : TyOK Tryd.prog 11 Tryd.ti11 := TyOK.of _ (by kernel_rfl) (by kernel_rfl) rfl Tryd.underlying11 rfl
theorem Tryd.tyok12 : TyOK Tryd.prog 12 Tryd.ti12 := TyOK.of _ (by kernel_rfl) (by kernel_rfl) rfl Tryd.underlying12 rfl
theorem Tryd.tyok14 : TyOK Tryd.prog 14 Tryd.ti14 := TyOK.of _ (by kernel_rfl) (by kernel_rfl) rfl Tryd.underlying14 ⟨_, rfl, rfl⟩
theorem Tryd.tyok15 : TyOK Tryd.prog 15 Tryd.ti15 := TyOK.of _ (by kernel_rfl) (by kernel_rfl) rfl Tryd.underlying15 rfl
theorem Tryd.tyok16 : TyOK Tryd.prog 16 Tryd.ti16 := TyOK.of _ (by kernel_rfl) (by kernel_rfl) rfl Tryd.underlying16 rfl
theorem Tryd.tyok17 : TyOK Tryd.prog 17 Tryd.ti17 := TyOK.of _ (by kernel_rfl) (by kernel_rfl) rfl Tryd.underlying17 rfl
theorem Tryd.tyok19 : TyOK Tryd.prog 19 Tryd.ti19 := TyOK.of _ (by kernel_rfl) (by kernel_rfl) rfl Tryd.underlying19 ⟨_, rfl, rfl⟩
theorem Tryd.tyok20 : TyOK Tryd.prog 20 Tryd.ti20 := TyOK.of _ (by kernel_rfl) (by kernel_rfl) rfl Tryd.underlying20 ⟨_, rfl⟩
theorem Tryd.tyok21 : TyOK Tryd.prog 21 Tryd.ti21 := TyOK.of _ (by kernel_rfl) (by kernel_rfl) rfl Tryd.underlying21 rfl
theorem Tryd.tyok22 : TyOK Tryd.prog 22 Tryd.ti22 := TyOK.of _ (by kernel_rfl) (by kernel_rfl) rfl Tryd.underlying22 rfl
theorem Tryd.tyok23 : TyOK Tryd.prog 23 Tryd.ti23 := TyOK.of _ (by kernel_rfl) (by kernel_rfl) rfl Tryd.underlying23 rfl
theorem Tryd.tyok25 : TyOK Tryd.prog 25 Tryd.ti25 := TyOK.of _ (by kernel_rfl) (by kernel_rfl) rfl Tryd.underlying25 rfl
theorem Tryd.tyok27 : TyOK Tryd.prog 27 Tryd.ti27 := TyOK.of _ (by kernel_rfl) (by kernel_rfl) rfl Tryd.underlying27 ⟨_, rfl, rfl⟩
theorem Tryd.tyok30 : TyOK Tryd.prog 30 Tryd.ti30 := TyOK.of _ (by kernel_rfl) (by kernel_rfl) rfl Tryd.underlying30 ⟨_, rfl, rfl⟩
theorem Tryd.tyok34 : TyOK Tryd.prog 34 Tryd.ti34 := TyOK.of _ (by kernel_rfl) (by kernel_rfl) rfl Tryd.underlying34 rfl
theorem Tryd.tyok37 : TyOK Tryd.prog 37 Tryd.ti37 := TyOK.of _ (by kernel_rfl) (by kernel_rfl) rfl Tryd.underlying37 rfl
theorem Tryd.tyok46 : TyOK Tryd.prog 46 Tryd.ti46 := TyOK.of _ (by kernel_rfl) (by kernel_rfl) rfl Tryd.underlying46 ⟨_, _, _, rfl⟩
theorem Tryd.tyok47 : TyOK Tryd.prog 47 Tryd.ti47 := TyOK.of _ (by kernel_rfl) (by kernel_rfl) rfl Tryd.underlying47 rfl
theorem Tryd.tyok49 : TyOK Tryd.prog 49 Tryd.ti49 := TyOK.of _ (by kernel_rfl) (by kernel_rfl) rfl Tryd.underlying49 ⟨_, rfl, rfl⟩
theorem Tryd.tyok50 : TyOK Tryd.prog 50 Tryd.ti50 := TyOK.of _ (by kernel_rfl) (by kernel_rfl) rfl Tryd.underlying50 rfl
theorem Tryd.tyok57 : TyOK Tryd.prog 57 Tryd.ti57 := TyOK.of _ (by kernel_rfl) (by kernel_rfl) rfl Tryd.underlying57 ⟨_, rfl, rfl⟩
theorem Tryd.tyok73 : TyOK Tryd.prog 73 Tryd.ti73 := TyOK.of _ (by kernel_rfl) (by kernel_rfl) rfl Tryd.underlying73 rfl
theorem Tryd.tyok75 : TyOK Tryd.prog 75 Tryd.ti75 := TyOK.of _ (by kernel_rfl) (by kernel_rfl) rfl Tryd.underlying75 ⟨_, rfl, rfl⟩
theorem Tryd.tyok76 : TyOK Tryd.prog 76 Tryd.ti76 := TyOK.of _ (by kernel_rfl) (by kernel_rfl) rfl Tryd.underlying76 rfl
theorem Tryd.tyok82 : TyOK Tryd.prog 82 Tryd.ti82 := TyOK.of _ (by kernel_rfl) (by kernel_rfl) rfl Tryd.underlying82 rfl
theorem Tryd.tyok85 : TyOK Tryd.prog 85 Tryd.ti85 := TyOK.of _ (by kernel_rfl) (by kernel_rfl) rfl Tryd.underlying85 rfl
theorem Tryd.tyok87 : TyOK Tryd.prog 87 Tryd.ti87 := TyOK.of _ (by kernel_rfl) (by kernel_rfl) rfl Tryd.underlying87 ⟨_, rfl, rfl⟩
theorem Tryd.tyok91 : TyOK Tryd.prog 91 Tryd.ti91 := TyOK.of _ (by kernel_rfl) (by kernel_rfl) rfl Tryd.underlying91 ⟨_, _, _, rfl⟩
theorem Tryd.tyok100 : TyOK Tryd.prog 100 Tryd.ti100 := TyOK.of _ (by kernel_rfl) (by kernel_rfl) rfl Tryd.underlying100 rfl
theorem Tryd.tyok102 : TyOK Tryd.prog 102 Tryd.ti102 := TyOK.of _ (by kernel_rfl) (by kernel_rfl) rfl Tryd.underlying102 rfl
theorem Tryd.tyok108 : TyOK Tryd.prog 108 Tryd.ti108 := TyOK.of _ (by kernel_rfl) (by kernel_rfl) rfl Tryd.underlying108 ⟨_, _, _, rfl⟩
theorem Tryd.tyok110 : TyOK Tryd.prog 110 Tryd.ti110 := TyOK.of _ (by kernel_rfl) (by kernel_rfl) rfl Tryd.underlying110 ⟨_, _, _, rfl⟩
theorem Tryd.tyok111 : TyOK Tryd.prog 111 Tryd.ti111 := TyOK.of _ (by kernel_rfl) (by kernel_rfl) rfl Tryd.underlying111 ⟨_, _, _, rfl⟩
theorem Tryd.tyok113 : TyOK Tryd.prog 113 Tryd.ti113 := TyOK.of _ (by kernel_rfl) (by kernel_rfl) rfl Tryd.underlying113 rfl
theorem Tryd.tyok114 : TyOK Tryd.prog 114 Tryd.ti114 := TyOK.of _ (by kernel_rfl) (by kernel_rfl) rfl Tryd.underlying114 ⟨_, _, _, rfl⟩
theorem Tryd.tyok116 : TyOK Tryd.prog 116 Tryd.ti116 := TyOK.of _ (by kernel_rfl) (by kernel_rfl) rfl Tryd.underlying116 ⟨_, _, _, rfl⟩
theorem Tryd.tyok122 : TyOK Tryd.prog 122 Tryd.ti122 := TyOK.of _ (by kernel_rfl) (by kernel_rfl) rfl Tryd.underlying122 ⟨_, _, _, rfl⟩
theorem Tryd.tyok123 : TyOK Tryd.prog 123 Tryd.ti123 := TyOK.of _ (by kernel_rfl) (by kernel_rfl) rfl Tryd.underlying123 ⟨_, _, _, rfl⟩
theorem Tryd.tyok126 : TyOK Tryd.prog 126 Tryd.ti126 := TyOK.of _ (by kernel_rfl) (by kernel_rfl) rfl Tryd.underlying126 rfl
theorem Tryd.tyok127 : TyOK Tryd.prog 127 Tryd.ti127 := TyOK.of _ (by kernel_rfl) (by kernel_rfl) rfl Tryd.underlying127 ⟨_, _, _, rfl⟩
theorem Tryd.tyok136 : TyOK Tryd.prog 136 Tryd.ti136 := TyOK.of _ (by kernel_rfl) (by kernel_rfl) rfl Tryd.underlying136 rfl
theorem Tryd.tyok139 : TyOK Tryd.prog 139 Tryd.ti139 := TyOK.of _ (by kernel_rfl) (by kernel_rfl) rfl Tryd.underlying139 rfl
theorem Tryd.tyok144 : TyOK Tryd.prog 144 Tryd.ti144 := TyOK.of _ (by kernel_rfl) (by kernel_rfl) rfl Tryd.underlying144 rfl
theorem Tryd.tyok151 : TyOK Tryd.prog 151 Tryd.ti151 := TyOK.of _ (by kernel_rfl) (by kernel_rfl) rfl Tryd.underlying151 rfl
theorem Tryd.tyok152 : TyOK Tryd.prog 152 Tryd.ti152 := TyOK.of _ (by kernel_rfl) (by kernel_rfl) rfl Tryd.underlying152 rfl
theorem Tryd.tyok153 : TyOK Tryd.prog 153 Tryd.ti153 := TyOK.of _ (by kernel_rfl) (by kernel_rfl) rfl Tryd.underlying153 rfl
theorem Tryd.tyok156 : TyOK Tryd.prog 156 Tryd.ti156 := TyOK.of _ (by kernel_rfl) (by kernel_rfl) rfl Tryd.underlying156 rfl
theorem Tryd.tyok158 : TyOK Tryd.prog 158 Tryd.ti158 := TyOK.of _ (by kernel_rfl) (by kernel_rfl) rfl Tryd.underlying158 rfl
theorem Tryd.tyok160 : TyOK Tryd.prog 160 Tryd.ti160 := TyOK.of _ (by kernel_rfl) (by kernel_rfl) rfl Tryd.underlying160 rfl
theorem Tryd.tyok161 : TyOK Tryd.prog 161 Tryd.ti161 := TyOK.of _ (by kernel_rfl) (by kernel_rfl) rfl Tryd.underlying161 rfl
theorem Tryd.tyok164 : TyOK Tryd.prog 164 Tryd.ti164 := TyOK.of _ (by kernel_rfl) (by kernel_rfl) rfl Tryd.underlying164 ⟨_, rfl, rfl⟩
theorem Tryd.tyok165 : TyOK Tryd.prog 165 Tryd.ti165 := TyOK.of _ (by kernel_rfl) (by kernel_rfl) rfl Tryd.underlying165 rfl
theorem Tryd.tyok167 : TyOK Tryd.prog 167 Tryd.ti167 := TyOK.of _ (by kernel_rfl) (by kernel_rfl) rfl Tryd.underlying167 ⟨_, rfl, rfl⟩
theorem Tryd.tyok168 : TyOK Tryd.prog 168 Tryd.ti168 := TyOK.of _ (by kernel_rfl) (by kernel_rfl) rfl Tryd.underlying168 rfl
theorem Tryd.tyok169 : TyOK Tryd.prog 169 Tryd.ti169 := TyOK.of _ (by kernel_rfl) (by kernel_rfl) rfl Tryd.underlying169 rfl
theorem Tryd.tyok170 : TyOK Tryd.prog 170 Tryd.ti170 := TyOK.of _ (by kernel_rfl) (by kernel_rfl) rfl Tryd.underlying170 ⟨_, _, _, rfl⟩
theorem Tryd.tyok171 : TyOK Tryd.prog 171 Tryd.ti171 := TyOK.of _ (by kernel_rfl) (by kernel_rfl) rfl Tryd.underlying171 rfl
theorem Tryd.tyok172 : TyOK Tryd.prog 172 Tryd.ti172 := TyOK.of _ (by kernel_rfl) (by kernel_rfl) rfl Tryd.underlying172 rfl
theorem Tryd.tyok173 : TyOK Tryd.prog 173 Tryd.ti173 := TyOK.of _ (by kernel_rfl) (by kernel_rfl) rfl Tryd.underlying173 rfl
theorem Tryd.tyok175 : TyOK Tryd.prog 175 Tryd.ti175 := TyOK.of _ (by kernel_rfl) (by kernel_rfl) rfl Tryd.underlying175 ⟨_, rfl, rfl⟩
theorem Tryd.tysOK : TysOK Tryd.prog Tryd.ty := tys_of (by
  simp only [Tryd.tyl, List.forall_mem_cons, List.not_mem_nil, false_implies, implies_true, and_true]
  exact ⟨Tryd.tyok2, Tryd.tyok3, Tryd.tyok4, Tryd.tyok5, Tryd.tyok6, Tryd.tyok8, Tryd.tyok9, Tryd.tyok10, Tryd.tyok11, Tryd.tyok12, Tryd.tyok14, Tryd.tyok15, Tryd.tyok16, Tryd.tyok17, Tryd.tyok19, Tryd.tyok20, Tryd.tyok21, Tryd.tyok22, Tryd.tyok23, Tryd.tyok25, Tryd.tyok27, Tryd.tyok30, Tryd.tyok34, Tryd.tyok37, Tryd.tyok46, Tryd.tyok47, Tryd.tyok49, Tryd.tyok50, Tryd.tyok57, Tryd.tyok73, Tryd.tyok75, Tryd.tyok76, Tryd.tyok82, Tryd.tyok85, Tryd.tyok87, Tryd.tyok91, Tryd.tyok100, Tryd.tyok102, Tryd.tyok108, Tryd.tyok110, Tryd.tyok111, Tryd.tyok113, Tryd.tyok114, Tryd.tyok116, Tryd.tyok122, Tryd.tyok123, Tryd.tyok126, Tryd.tyok127, Tryd.tyok136, Tryd.tyok139, Tryd.tyok144, Tryd.tyok151, Tryd.tyok152, Tryd.tyok153, Tryd.tyok156, Tryd.tyok158, Tryd.tyok160, Tryd.tyok161, Tryd.tyok164, Tryd.tyok165, Tryd.tyok167, Tryd.tyok168, Tryd.tyok169, Tryd.tyok170, Tryd.tyok171, Tryd.tyok172, Tryd.tyok173, Tryd.tyok175⟩)
-- equalities at [57]
end Go.Proofs
