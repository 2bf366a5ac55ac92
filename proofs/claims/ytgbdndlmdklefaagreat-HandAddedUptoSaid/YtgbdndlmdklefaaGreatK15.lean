/- The slots that live on from statement to statement. Written by program. -/
import Derived.Test.YtgbdndlmdklefaaGreatK11
namespace Go.Proofs
open Go Go.Mu
def Tryz.ord13 : Nat → List Nat × List (Nat × List Nat)
 | 9 => ([0, 1, 3, 7, 15, 31, 63, 127, 255, 511, 1023, 2047, 255, 4351, 12543, 28927, 65535, 131071], [(0, []), (1, []), (2, []), (3, []), (4, []), (5, []), (6, []), (7, []), (8, []), (9, []), (10, []), (11, []), (12, []), (13, []), (14, []), (15, []), (16, []), (17, [])])
 | 15 => ([0, 1, 0, 0, 8, 0, 56, 120, 255, 511, 1023], [(0, []), (1, []), (2, []), (3, []), (4, []), (5, []), (6, []), (7, []), (8, []), (9, []), (10, [])])
 | 17 => ([0, 1, 3, 7, 15, 31, 63, 127, 255, 511, 1023, 2047, 255, 4351, 12543, 28927, 65535, 131071], [(0, []), (1, []), (2, []), (3, []), (4, []), (5, []), (6, []), (7, []), (8, []), (9, []), (10, []), (11, []), (12, []), (13, []), (14, []), (15, []), (16, []), (17, [])])
 | 20 => ([0, 0, 2, 7, 15, 31, 63, 127, 255, 31, 543, 1567, 3615, 8191, 16383], [(0, []), (1, []), (2, []), (3, []), (4, []), (5, []), (6, []), (7, []), (8, []), (9, []), (10, []), (11, []), (12, []), (13, []), (14, [])])
 | 26 => ([0, 1, 3, 3, 15, 31, 3, 3, 195, 451, 1023, 2047, 4095], [(0, []), (1, []), (2, []), (3, []), (4, []), (5, []), (6, []), (7, []), (8, []), (9, []), (10, []), (11, []), (12, [])])
 | _ => ([], [])
theorem Tryz.ord13_9 : Tryz.ord13 9 = ([0, 1, 3, 7, 15, 31, 63, 127, 255, 511, 1023, 2047, 255, 4351, 12543, 28927, 65535, 131071], [(0, []), (1, []), (2, []), (3, []), (4, []), (5, []), (6, []), (7, []), (8, []), (9, []), (10, []), (11, []), (12, []), (13, []), (14, []), (15, []), (16, []), (17, [])]) := rfl
theorem Tryz.ord13_15 : Tryz.ord13 15 = ([0, 1, 0, 0, 8, 0, 56, 120, 255, 511, 1023], [(0, []), (1, []), (2, []), (3, []), (4, []), (5, []), (6, []), (7, []), (8, []), (9, []), (10, [])]) := rfl
theorem Tryz.ord13_17 : Tryz.ord13 17 = ([0, 1, 3, 7, 15, 31, 63, 127, 255, 511, 1023, 2047, 255, 4351, 12543, 28927, 65535, 131071], [(0, []), (1, []), (2, []), (3, []), (4, []), (5, []), (6, []), (7, []), (8, []), (9, []), (10, []), (11, []), (12, []), (13, []), (14, []), (15, []), (16, []), (17, [])]) := rfl
theorem Tryz.ord13_20 : Tryz.ord13 20 = ([0, 0, 2, 7, 15, 31, 63, 127, 255, 31, 543, 1567, 3615, 8191, 16383], [(0, []), (1, []), (2, []), (3, []), (4, []), (5, []), (6, []), (7, []), (8, []), (9, []), (10, []), (11, []), (12, []), (13, []), (14, [])]) := rfl
theorem Tryz.ord13_26 : Tryz.ord13 26 = ([0, 1, 3, 3, 15, 31, 3, 3, 195, 451, 1023, 2047, 4095], [(0, []), (1, []), (2, []), (3, []), (4, []), (5, []), (6, []), (7, []), (8, []), (9, []), (10, []), (11, []), (12, [])]) := rfl
def Tryz.ord19 : Nat → List Nat × List (Nat × List Nat)
 | 5 => ([0, 0, 2, 6, 14, 0, 0, 96, 224, 480, 1022, 2046, 4095, 8191, 16383], [(0, []), (1, []), (2, []), (3, []), (4, []), (5, []), (6, []), (7, []), (8, []), (9, []), (10, []), (11, []), (12, []), (13, []), (14, [])])
 | 6 => ([0, 0, 2, 6, 14, 0, 32, 96, 224, 480, 1022, 2047, 4095, 8191], [(0, []), (1, []), (2, []), (3, []), (4, []), (5, []), (6, []), (7, []), (8, []), (9, []), (10, []), (11, []), (12, []), (13, [])])
 | _ => ([], [])
theorem Tryz.ord19_5 : Tryz.ord19 5 = ([0, 0, 2, 6, 14, 0, 0, 96, 224, 480, 1022, 2046, 4095, 8191, 16383], [(0, []), (1, []), (2, []), (3, []), (4, []), (5, []), (6, []), (7, []), (8, []), (9, []), (10, []), (11, []), (12, []), (13, []), (14, [])]) := rfl
theorem Tryz.ord19_6 : Tryz.ord19 6 = ([0, 0, 2, 6, 14, 0, 32, 96, 224, 480, 1022, 2047, 4095, 8191], [(0, []), (1, []), (2, []), (3, []), (4, []), (5, []), (6, []), (7, []), (8, []), (9, []), (10, []), (11, []), (12, []), (13, [])]) := rfl
def Tryz.ord20 : Nat → List Nat × List (Nat × List Nat)
 | 15 => ([0, 1, 0, 0, 8, 24, 60, 0, 252, 508, 1020, 2047, 4095, 8191], [(0, []), (1, []), (2, []), (3, []), (4, []), (5, []), (7, []), (6, [1]), (8, [1]), (9, []), (10, []), (11, []), (12, []), (13, [])])
 | 20 => ([0, 1, 0, 4, 15, 0, 32, 0, 128, 511, 31, 2047, 4095, 8191], [(0, []), (1, []), (2, []), (3, []), (5, []), (6, []), (7, []), (8, []), (4, [6]), (10, []), (9, []), (11, []), (12, []), (13, [])])
 | 21 => ([0, 0, 1, 7], [(0, []), (1, []), (2, [1]), (3, [])])
 | _ => ([], [])
theorem Tryz.ord20_15 : Tryz.ord20 15 = ([0, 1, 0, 0, 8, 24, 60, 0, 252, 508, 1020, 2047, 4095, 8191], [(0, []), (1, []), (2, []), (3, []), (4, []), (5, []), (7, []), (6, [1]), (8, [1]), (9, []), (10, []), (11, []), (12, []), (13, [])]) := rfl
theorem Tryz.ord20_20 : Tryz.ord20 20 = ([0, 1, 0, 4, 15, 0, 32, 0, 128, 511, 31, 2047, 4095, 8191], [(0, []), (1, []), (2, []), (3, []), (5, []), (6, []), (7, []), (8, []), (4, [6]), (10, []), (9, []), (11, []), (12, []), (13, [])]) := rfl
theorem Tryz.ord20_21 : Tryz.ord20 21 = ([0, 0, 1, 7], [(0, []), (1, []), (2, [1]), (3, [])]) := rfl
def Tryz.ord25 : Nat → List Nat × List (Nat × List Nat)
 | 1 => ([0, 0, 0, 6, 14, 31, 63, 127, 127, 127, 0, 1279, 3583, 8191], [(0, []), (1, []), (2, []), (3, [0]), (4, []), (5, []), (6, []), (7, []), (8, []), (9, []), (10, []), (11, []), (12, []), (13, [])])
 | _ => ([], [])
theorem Tryz.ord25_1 : Tryz.ord25 1 = ([0, 0, 0, 6, 14, 31, 63, 127, 127, 127, 0, 1279, 3583, 8191], [(0, []), (1, []), (2, []), (3, [0]), (4, []), (5, []), (6, []), (7, []), (8, []), (9, []), (10, []), (11, []), (12, []), (13, [])]) := rfl
def Tryz.ord26 : Nat → List Nat × List (Nat × List Nat)
 | 6 => ([0, 1, 3, 7, 15, 31, 63, 127, 255, 511, 1023, 2047, 4095, 8191, 16383, 32767, 65535, 131071, 262143, 524287, 1048575, 2097151, 4194303, 8388607, 8388607, 33554431, 67108863, 134217727, 268435455, 268435455, 268435455, 1879048191, 4294967295, 8589934591, 17179869183, 34359738367, 34359738367, 137438953471, 274877906943, 549755813887, 1099511627775, 1099511627775, 4398046511103, 8796093022207, 17592186044415], [(0, []), (1, []), (2, []), (3, []), (4, []), (5, []), (6, []), (7, []), (8, []), (9, []), (10, []), (11, []), (12, []), (13, []), (14, []), (15, []), (16, []), (17, []), (18, []), (19, []), (20, []), (21, []), (22, []), (23, []), (24, [23]), (25, []), (26, []), (27, []), (28, []), (29, []), (30, []), (31, []), (32, []), (33, []), (34, []), (35, []), (36, []), (37, []), (38, []), (39, []), (40, []), (41, []), (42, []), (43, []), (44, [])])
 | _ => ([], [])
theorem Tryz.ord26_6 : Tryz.ord26 6 = ([0, 1, 3, 7, 15, 31, 63, 127, 255, 511, 1023, 2047, 4095, 8191, 16383, 32767, 65535, 131071, 262143, 524287, 1048575, 2097151, 4194303, 8388607, 8388607, 33554431, 67108863, 134217727, 268435455, 268435455, 268435455, 1879048191, 4294967295, 8589934591, 17179869183, 34359738367, 34359738367, 137438953471, 274877906943, 549755813887, 1099511627775, 1099511627775, 4398046511103, 8796093022207, 17592186044415], [(0, []), (1, []), (2, []), (3, []), (4, []), (5, []), (6, []), (7, []), (8, []), (9, []), (10, []), (11, []), (12, []), (13, []), (14, []), (15, []), (16, []), (17, []), (18, []), (19, []), (20, []), (21, []), (22, []), (23, []), (24, [23]), (25, []), (26, []), (27, []), (28, []), (29, []), (30, []), (31, []), (32, []), (33, []), (34, []), (35, []), (36, []), (37, []), (38, []), (39, []), (40, []), (41, []), (42, []), (43, []), (44, [])]) := rfl
def Tryz.ord33 : Nat → List Nat × List (Nat × List Nat)
 | 4 => ([0, 0, 0, 6, 0, 30, 63, 127, 255, 255, 255, 0, 2559, 7167, 16383], [(0, []), (1, []), (2, []), (4, []), (3, [0]), (5, []), (6, []), (7, []), (8, []), (9, []), (10, []), (11, []), (12, []), (13, []), (14, [])])
 | _ => ([], [])
theorem Tryz.ord33_4 : Tryz.ord33 4 = ([0, 0, 0, 6, 0, 30, 63, 127, 255, 255, 255, 0, 2559, 7167, 16383], [(0, []), (1, []), (2, []), (4, []), (3, [0]), (5, []), (6, []), (7, []), (8, []), (9, []), (10, []), (11, []), (12, []), (13, []), (14, [])]) := rfl
def Tryz.ord35 : Nat → List Nat × List (Nat × List Nat)
 | 4 => ([0, 0, 0, 6, 0, 30, 63, 127, 255, 255, 255, 0, 2559, 7167, 16383], [(0, []), (1, []), (2, []), (4, []), (3, [0]), (5, []), (6, []), (7, []), (8, []), (9, []), (10, []), (11, []), (12, []), (13, []), (14, [])])
 | _ => ([], [])
theorem Tryz.ord35_4 : Tryz.ord35 4 = ([0, 0, 0, 6, 0, 30, 63, 127, 255, 255, 255, 0, 2559, 7167, 16383], [(0, []), (1, []), (2, []), (4, []), (3, [0]), (5, []), (6, []), (7, []), (8, []), (9, []), (10, []), (11, []), (12, []), (13, []), (14, [])]) := rfl
def Tryz.ord44 : Nat → List Nat × List (Nat × List Nat)
 | 5 => ([0, 0, 3, 7, 0, 0, 48, 112, 255, 511], [(0, []), (1, []), (2, []), (3, []), (4, []), (5, []), (6, []), (7, []), (8, []), (9, [])])
 | _ => ([], [])
theorem Tryz.ord44_5 : Tryz.ord44 5 = ([0, 0, 3, 7, 0, 0, 48, 112, 255, 511], [(0, []), (1, []), (2, []), (3, []), (4, []), (5, []), (6, []), (7, []), (8, []), (9, [])]) := rfl
def Tryz.ord50 : Nat → List Nat × List (Nat × List Nat)
 | 5 => ([0, 0, 3, 7, 0, 0, 48, 112, 255, 511], [(0, []), (1, []), (2, []), (3, []), (4, []), (5, []), (6, []), (7, []), (8, []), (9, [])])
 | _ => ([], [])
theorem Tryz.ord50_5 : Tryz.ord50 5 = ([0, 0, 3, 7, 0, 0, 48, 112, 255, 511], [(0, []), (1, []), (2, []), (3, []), (4, []), (5, []), (6, []), (7, []), (8, []), (9, [])]) := rfl
def Tryz.ord51 : Nat → List Nat × List (Nat × List Nat)
 | 5 => ([0, 0, 3, 7, 0, 0, 48, 112, 255, 511], [(0, []), (1, []), (2, []), (3, []), (4, []), (5, []), (6, []), (7, []), (8, []), (9, [])])
 | _ => ([], [])
theorem Tryz.ord51_5 : Tryz.ord51 5 = ([0, 0, 3, 7, 0, 0, 48, 112, 255, 511], [(0, []), (1, []), (2, []), (3, []), (4, []), (5, []), (6, []), (7, []), (8, []), (9, [])]) := rfl
def Tryz.ord57 : Nat → List Nat × List (Nat × List Nat)
 | 17 => ([0, 1, 3, 3, 11, 3, 59, 123, 3, 259, 3, 1795, 3843, 7939, 3, 3, 3, 98307, 229379, 3, 1015811, 2064387, 4194303, 8388607, 16777215], [(0, []), (1, []), (2, []), (3, []), (4, []), (5, []), (6, []), (7, []), (8, []), (9, []), (10, []), (11, []), (12, []), (14, []), (15, []), (16, []), (17, []), (18, []), (19, []), (20, []), (21, []), (13, [2, 4, 7, 18, 21]), (22, []), (23, []), (24, [])])
 | _ => ([], [])
theorem Tryz.ord57_17 : Tryz.ord57 17 = ([0, 1, 3, 3, 11, 3, 59, 123, 3, 259, 3, 1795, 3843, 7939, 3, 3, 3, 98307, 229379, 3, 1015811, 2064387, 4194303, 8388607, 16777215], [(0, []), (1, []), (2, []), (3, []), (4, []), (5, []), (6, []), (7, []), (8, []), (9, []), (10, []), (11, []), (12, []), (14, []), (15, []), (16, []), (17, []), (18, []), (19, []), (20, []), (21, []), (13, [2, 4, 7, 18, 21]), (22, []), (23, []), (24, [])]) := rfl
def Tryz.ord62 : Nat → List Nat × List (Nat × List Nat)
 | 10 => ([0, 1, 3, 0, 8, 31, 63], [(0, []), (1, []), (3, []), (4, []), (2, [3]), (5, []), (6, [])])
 | 14 => ([0, 0, 0, 0, 0, 0, 48, 112, 240, 496, 1008, 0, 0, 6144, 14336, 30720, 63488, 131056, 262131, 524275, 1048563, 2097139, 4194303, 8388607, 16777215, 33554431], [(0, []), (1, []), (2, []), (3, []), (4, []), (5, []), (6, []), (7, []), (8, []), (9, []), (11, []), (12, []), (13, []), (14, []), (15, []), (16, []), (10, [16]), (17, []), (18, []), (19, []), (20, []), (21, []), (22, []), (23, []), (24, []), (25, [])])
 | _ => ([], [])
theorem Tryz.ord62_10 : Tryz.ord62 10 = ([0, 1, 3, 0, 8, 31, 63], [(0, []), (1, []), (3, []), (4, []), (2, [3]), (5, []), (6, [])]) := rfl
theorem Tryz.ord62_14 : Tryz.ord62 14 = ([0, 0, 0, 0, 0, 0, 48, 112, 240, 496, 1008, 0, 0, 6144, 14336, 30720, 63488, 131056, 262131, 524275, 1048563, 2097139, 4194303, 8388607, 16777215, 33554431], [(0, []), (1, []), (2, []), (3, []), (4, []), (5, []), (6, []), (7, []), (8, []), (9, []), (11, []), (12, []), (13, []), (14, []), (15, []), (16, []), (10, [16]), (17, []), (18, []), (19, []), (20, []), (21, []), (22, []), (23, []), (24, []), (25, [])]) := rfl
def Tryz.ord64 : Nat → List Nat × List (Nat × List Nat)
 | 3 => ([0, 1, 0, 0, 0, 0, 32, 124, 255, 0, 0, 1024, 3072, 0, 8192, 32508, 65535, 131071], [(0, []), (1, []), (2, []), (3, []), (4, []), (5, []), (6, []), (9, []), (10, []), (11, []), (12, []), (13, []), (14, []), (7, [1, 11, 14]), (8, []), (15, [1]), (16, []), (17, [])])
 | _ => ([], [])
theorem Tryz.ord64_3 : Tryz.ord64 3 = ([0, 1, 0, 0, 0, 0, 32, 124, 255, 0, 0, 1024, 3072, 0, 8192, 32508, 65535, 131071], [(0, []), (1, []), (2, []), (3, []), (4, []), (5, []), (6, []), (9, []), (10, []), (11, []), (12, []), (13, []), (14, []), (7, [1, 11, 14]), (8, []), (15, [1]), (16, []), (17, [])]) := rfl
def Tryz.ord89 : Nat → List Nat × List (Nat × List Nat)
 | 6 => ([0, 0, 3, 7, 0, 0, 32, 112, 240, 511], [(0, []), (1, []), (2, []), (3, []), (4, []), (5, []), (6, []), (7, []), (8, []), (9, [])])
 | 11 => ([0, 0, 3, 7, 0, 0, 32, 112, 240, 511], [(0, []), (1, []), (2, []), (3, []), (4, []), (5, []), (6, []), (7, []), (8, []), (9, [])])
 | _ => ([], [])
theorem Tryz.ord89_6 : Tryz.ord89 6 = ([0, 0, 3, 7, 0, 0, 32, 112, 240, 511], [(0, []), (1, []), (2, []), (3, []), (4, []), (5, []), (6, []), (7, []), (8, []), (9, [])]) := rfl
theorem Tryz.ord89_11 : Tryz.ord89 11 = ([0, 0, 3, 7, 0, 0, 32, 112, 240, 511], [(0, []), (1, []), (2, []), (3, []), (4, []), (5, []), (6, []), (7, []), (8, []), (9, [])]) := rfl
def Tryz.ord92 : Nat → List Nat × List (Nat × List Nat)
 | 1 => ([0, 1, 3, 0, 0, 16, 63, 55, 255, 511, 1023], [(0, []), (1, []), (2, [2]), (3, []), (4, []), (5, []), (7, []), (6, []), (8, []), (9, []), (10, [])])
 | _ => ([], [])
theorem Tryz.ord92_1 : Tryz.ord92 1 = ([0, 1, 3, 0, 0, 16, 63, 55, 255, 511, 1023], [(0, []), (1, []), (2, [2]), (3, []), (4, []), (5, []), (7, []), (6, []), (8, []), (9, []), (10, [])]) := rfl
def Tryz.ord94 : Nat → List Nat × List (Nat × List Nat)
 | 6 => ([0, 1, 0, 4, 12, 0, 60, 127, 0, 256, 0, 1024, 3072, 0, 15360, 32512, 65535, 131071], [(0, []), (1, []), (2, []), (3, []), (4, []), (5, []), (6, []), (7, []), (8, []), (9, []), (10, []), (11, []), (12, []), (13, []), (14, []), (15, []), (16, []), (17, [])])
 | _ => ([], [])
theorem Tryz.ord94_6 : Tryz.ord94 6 = ([0, 1, 0, 4, 12, 0, 60, 127, 0, 256, 0, 1024, 3072, 0, 15360, 32512, 65535, 131071], [(0, []), (1, []), (2, []), (3, []), (4, []), (5, []), (6, []), (7, []), (8, []), (9, []), (10, []), (11, []), (12, []), (13, []), (14, []), (15, []), (16, []), (17, [])]) := rfl
def Tryz.ord111 : Nat → List Nat × List (Nat × List Nat)
 | 4 => ([0, 1, 3, 0, 0, 0, 32, 120, 255, 0, 1023], [(0, []), (1, []), (2, []), (3, []), (4, []), (5, []), (6, []), (7, [2]), (8, []), (9, []), (10, [])])
 | _ => ([], [])
theorem Tryz.ord111_4 : Tryz.ord111 4 = ([0, 1, 3, 0, 0, 0, 32, 120, 255, 0, 1023], [(0, []), (1, []), (2, []), (3, []), (4, []), (5, []), (6, []), (7, [2]), (8, []), (9, []), (10, [])]) := rfl
def Tryz.ord117 : Nat → List Nat × List (Nat × List Nat)
 | 16 => ([0, 0, 3, 7, 0, 16, 63, 127, 255], [(0, []), (1, []), (2, []), (3, []), (4, []), (5, []), (6, []), (7, []), (8, [])])
 | _ => ([], [])
theorem Tryz.ord117_16 : Tryz.ord117 16 = ([0, 0, 3, 7, 0, 16, 63, 127, 255], [(0, []), (1, []), (2, []), (3, []), (4, []), (5, []), (6, []), (7, []), (8, [])]) := rfl
def Tryz.ord124 : Nat → List Nat × List (Nat × List Nat)
 | 1 => ([0, 0, 2, 6, 15, 0, 0, 64, 192, 511, 1023, 0, 4095], [(0, []), (1, []), (2, []), (3, []), (5, []), (6, []), (7, []), (8, []), (4, [8]), (9, []), (10, []), (11, []), (12, [])])
 | 5 => ([0, 1, 0, 0, 12, 31, 0, 64, 0, 0, 796, 2012, 4095, 8191], [(0, []), (1, []), (2, []), (3, []), (6, []), (7, []), (8, []), (9, []), (4, [1, 7, 9]), (5, []), (10, [1, 7]), (11, []), (12, []), (13, [])])
 | _ => ([], [])
theorem Tryz.ord124_1 : Tryz.ord124 1 = ([0, 0, 2, 6, 15, 0, 0, 64, 192, 511, 1023, 0, 4095], [(0, []), (1, []), (2, []), (3, []), (5, []), (6, []), (7, []), (8, []), (4, [8]), (9, []), (10, []), (11, []), (12, [])]) := rfl
theorem Tryz.ord124_5 : Tryz.ord124 5 = ([0, 1, 0, 0, 12, 31, 0, 64, 0, 0, 796, 2012, 4095, 8191], [(0, []), (1, []), (2, []), (3, []), (6, []), (7, []), (8, []), (9, []), (4, [1, 7, 9]), (5, []), (10, [1, 7]), (11, []), (12, []), (13, [])]) := rfl
def Tryz.ord126 : Nat → List Nat × List (Nat × List Nat)
 | 1 => ([0, 0, 0, 6, 15, 31, 63, 63, 127, 511], [(0, []), (1, []), (2, []), (3, [0]), (4, []), (5, []), (6, []), (7, []), (8, []), (9, [])])
 | _ => ([], [])
theorem Tryz.ord126_1 : Tryz.ord126 1 = ([0, 0, 0, 6, 15, 31, 63, 63, 127, 511], [(0, []), (1, []), (2, []), (3, [0]), (4, []), (5, []), (6, []), (7, []), (8, []), (9, [])]) := rfl
def Tryz.ord141 : Nat → List Nat × List (Nat × List Nat)
 | 17 => ([0, 1, 3, 7, 7, 23, 63, 127, 7, 7, 775, 1799, 4095, 8191, 16383], [(0, []), (1, []), (2, []), (3, []), (4, []), (5, []), (6, []), (7, []), (8, []), (9, []), (10, []), (11, []), (12, []), (13, []), (14, [])])
 | _ => ([], [])
theorem Tryz.ord141_17 : Tryz.ord141 17 = ([0, 1, 3, 7, 7, 23, 63, 127, 7, 7, 775, 1799, 4095, 8191, 16383], [(0, []), (1, []), (2, []), (3, []), (4, []), (5, []), (6, []), (7, []), (8, []), (9, []), (10, []), (11, []), (12, []), (13, []), (14, [])]) := rfl
def Tryz.ord147 : Nat → List Nat × List (Nat × List Nat)
 | 17 => ([0, 0, 2, 1, 15], [(0, []), (1, []), (2, []), (3, [2]), (4, [])])
 | _ => ([], [])
theorem Tryz.ord147_17 : Tryz.ord147 17 = ([0, 0, 2, 1, 15], [(0, []), (1, []), (2, []), (3, [2]), (4, [])]) := rfl
def Tryz.ord159 : Nat → List Nat × List (Nat × List Nat)
 | 5 => ([0, 0, 0, 4, 14, 30, 63, 127], [(0, []), (1, []), (2, []), (3, []), (4, [0]), (5, []), (6, []), (7, [])])
 | _ => ([], [])
theorem Tryz.ord159_5 : Tryz.ord159 5 = ([0, 0, 0, 4, 14, 30, 63, 127], [(0, []), (1, []), (2, []), (3, []), (4, [0]), (5, []), (6, []), (7, [])]) := rfl
def Tryz.ord179 : Nat → List Nat × List (Nat × List Nat)
 | 17 => ([0, 1, 3, 7, 7, 7, 39, 119, 247, 7, 7, 1543, 3591, 8191, 16383, 32767, 65535], [(0, []), (1, []), (2, []), (3, []), (4, []), (5, []), (6, []), (7, []), (8, []), (9, []), (10, []), (11, []), (12, []), (13, []), (14, []), (15, []), (16, [])])
 | _ => ([], [])
theorem Tryz.ord179_17 : Tryz.ord179 17 = ([0, 1, 3, 7, 7, 7, 39, 119, 247, 7, 7, 1543, 3591, 8191, 16383, 32767, 65535], [(0, []), (1, []), (2, []), (3, []), (4, []), (5, []), (6, []), (7, []), (8, []), (9, []), (10, []), (11, []), (12, []), (13, []), (14, []), (15, []), (16, [])]) := rfl
def Tryz.ord182 : Nat → List Nat × List (Nat × List Nat)
 | 4 => ([0, 0, 3, 7, 15, 15, 63, 127, 15, 15, 527, 1807, 3855, 8191, 16383], [(0, []), (1, []), (2, []), (3, []), (4, []), (5, []), (6, []), (7, []), (8, []), (9, []), (10, []), (11, []), (12, []), (13, []), (14, [])])
 | 6 => ([0, 0, 0, 0, 8, 0, 0, 64, 224, 480, 0, 0, 3072, 7168, 16355, 32739, 65535, 131071], [(0, []), (1, []), (2, []), (3, []), (4, []), (5, []), (6, []), (7, []), (8, []), (9, []), (10, []), (11, []), (12, []), (13, []), (14, []), (15, []), (16, []), (17, [])])
 | _ => ([], [])
theorem Tryz.ord182_4 : Tryz.ord182 4 = ([0, 0, 3, 7, 15, 15, 63, 127, 15, 15, 527, 1807, 3855, 8191, 16383], [(0, []), (1, []), (2, []), (3, []), (4, []), (5, []), (6, []), (7, []), (8, []), (9, []), (10, []), (11, []), (12, []), (13, []), (14, [])]) := rfl
theorem Tryz.ord182_6 : Tryz.ord182 6 = ([0, 0, 0, 0, 8, 0, 0, 64, 224, 480, 0, 0, 3072, 7168, 16355, 32739, 65535, 131071], [(0, []), (1, []), (2, []), (3, []), (4, []), (5, []), (6, []), (7, []), (8, []), (9, []), (10, []), (11, []), (12, []), (13, []), (14, []), (15, []), (16, []), (17, [])]) := rfl
def Tryz.ord187 : Nat → List Nat × List (Nat × List Nat)
 | 5 => ([0, 0, 3, 7, 15, 15, 63, 127, 15, 15, 527, 1807, 3855, 8191, 16383, 32767], [(0, []), (1, []), (2, []), (3, []), (4, []), (5, []), (6, []), (7, []), (8, []), (9, []), (10, []), (11, []), (12, []), (13, []), (14, []), (15, [])])
 | 11 => ([0, 0, 0, 0, 8, 0, 0, 64, 224, 480, 0, 0, 3072, 7168, 16355, 32739, 65535, 131071], [(0, []), (1, []), (2, []), (3, []), (4, []), (5, []), (6, []), (7, []), (8, []), (9, []), (10, []), (11, []), (12, []), (13, []), (14, []), (15, []), (16, []), (17, [])])
 | 16 => ([0, 0, 3, 7, 0, 0, 32, 112, 240, 511, 1023], [(0, []), (1, []), (2, []), (3, []), (4, []), (5, []), (6, []), (7, []), (8, []), (9, []), (10, [])])
 | 17 => ([0, 0, 0, 0, 8, 0, 0, 64, 224, 480, 0, 0, 3072, 7168, 16355, 32739, 65535, 131071], [(0, []), (1, []), (2, []), (3, []), (4, []), (5, []), (6, []), (7, []), (8, []), (9, []), (10, []), (11, []), (12, []), (13, []), (14, []), (15, []), (16, []), (17, [])])
 | 22 => ([0, 0, 3, 7, 0, 0, 32, 112, 240, 511, 1023], [(0, []), (1, []), (2, []), (3, []), (4, []), (5, []), (6, []), (7, []), (8, []), (9, []), (10, [])])
 | 23 => ([0, 0, 0, 0, 8, 0, 0, 64, 224, 480, 0, 0, 3072, 7168, 16355, 32739, 65535, 131071], [(0, []), (1, []), (2, []), (3, []), (4, []), (5, []), (6, []), (7, []), (8, []), (9, []), (10, []), (11, []), (12, []), (13, []), (14, []), (15, []), (16, []), (17, [])])
 | _ => ([], [])
theorem Tryz.ord187_5 : Tryz.ord187 5 = ([0, 0, 3, 7, 15, 15, 63, 127, 15, 15, 527, 1807, 3855, 8191, 16383, 32767], [(0, []), (1, []), (2, []), (3, []), (4, []), (5, []), (6, []), (7, []), (8, []), (9, []), (10, []), (11, []), (12, []), (13, []), (14, []), (15, [])]) := rfl
theorem Tryz.ord187_11 : Tryz.ord187 11 = ([0, 0, 0, 0, 8, 0, 0, 64, 224, 480, 0, 0, 3072, 7168, 16355, 32739, 65535, 131071], [(0, []), (1, []), (2, []), (3, []), (4, []), (5, []), (6, []), (7, []), (8, []), (9, []), (10, []), (11, []), (12, []), (13, []), (14, []), (15, []), (16, []), (17, [])]) := rfl
theorem Tryz.ord187_16 : Tryz.ord187 16 = ([0, 0, 3, 7, 0, 0, 32, 112, 240, 511, 1023], [(0, []), (1, []), (2, []), (3, []), (4, []), (5, []), (6, []), (7, []), (8, []), (9, []), (10, [])]) := rfl
theorem Tryz.ord187_17 : Tryz.ord187 17 = ([0, 0, 0, 0, 8, 0, 0, 64, 224, 480, 0, 0, 3072, 7168, 16355, 32739, 65535, 131071], [(0, []), (1, []), (2, []), (3, []), (4, []), (5, []), (6, []), (7, []), (8, []), (9, []), (10, []), (11, []), (12, []), (13, []), (14, []), (15, []), (16, []), (17, [])]) := rfl
theorem Tryz.ord187_22 : Tryz.ord187 22 = ([0, 0, 3, 7, 0, 0, 32, 112, 240, 511, 1023], [(0, []), (1, []), (2, []), (3, []), (4, []), (5, []), (6, []), (7, []), (8, []), (9, []), (10, [])]) := rfl
theorem Tryz.ord187_23 : Tryz.ord187 23 = ([0, 0, 0, 0, 8, 0, 0, 64, 224, 480, 0, 0, 3072, 7168, 16355, 32739, 65535, 131071], [(0, []), (1, []), (2, []), (3, []), (4, []), (5, []), (6, []), (7, []), (8, []), (9, []), (10, []), (11, []), (12, []), (13, []), (14, []), (15, []), (16, []), (17, [])]) := rfl
def Tryz.ord208 : Nat → List Nat × List (Nat × List Nat)
 | 4 => ([0, 1, 3, 7, 15, 0, 32, 96, 255, 511], [(0, []), (1, []), (2, []), (3, []), (4, []), (5, []), (6, []), (7, []), (8, []), (9, [])])
 | 15 => ([0, 0, 2, 6, 0, 16, 48, 127, 0, 256, 768, 2047, 4095, 8191, 16383], [(0, []), (1, []), (2, []), (3, []), (4, []), (5, []), (6, []), (8, []), (9, []), (10, []), (7, [10]), (11, []), (12, []), (13, []), (14, [])])
 | _ => ([], [])
theorem Tryz.ord208_4 : Tryz.ord208 4 = ([0, 1, 3, 7, 15, 0, 32, 96, 255, 511], [(0, []), (1, []), (2, []), (3, []), (4, []), (5, []), (6, []), (7, []), (8, []), (9, [])]) := rfl
theorem Tryz.ord208_15 : Tryz.ord208 15 = ([0, 0, 2, 6, 0, 16, 48, 127, 0, 256, 768, 2047, 4095, 8191, 16383], [(0, []), (1, []), (2, []), (3, []), (4, []), (5, []), (6, []), (8, []), (9, []), (10, []), (7, [10]), (11, []), (12, []), (13, []), (14, [])]) := rfl
def Tryz.ord210 : Nat → List Nat × List (Nat × List Nat)
 | 4 => ([0, 0, 3, 7, 15, 15, 15, 111, 239, 15, 15, 1039, 3599, 7695, 16383, 32767, 65535], [(0, []), (1, []), (2, []), (3, []), (4, []), (5, []), (6, []), (7, []), (8, []), (9, []), (10, []), (11, []), (12, []), (13, []), (14, []), (15, []), (16, [])])
 | 6 => ([0, 0, 0, 0, 8, 0, 0, 64, 224, 480, 0, 0, 3072, 7168, 16355, 32739, 65535, 131071], [(0, []), (1, []), (2, []), (3, []), (4, []), (5, []), (6, []), (7, []), (8, []), (9, []), (10, []), (11, []), (12, []), (13, []), (14, []), (15, []), (16, []), (17, [])])
 | _ => ([], [])
theorem Tryz.ord210_4 : Tryz.ord210 4 = ([0, 0, 3, 7, 15, 15, 15, 111, 239, 15, 15, 1039, 3599, 7695, 16383, 32767, 65535], [(0, []), (1, []), (2, []), (3, []), (4, []), (5, []), (6, []), (7, []), (8, []), (9, []), (10, []), (11, []), (12, []), (13, []), (14, []), (15, []), (16, [])]) := rfl
theorem Tryz.ord210_6 : Tryz.ord210 6 = ([0, 0, 0, 0, 8, 0, 0, 64, 224, 480, 0, 0, 3072, 7168, 16355, 32739, 65535, 131071], [(0, []), (1, []), (2, []), (3, []), (4, []), (5, []), (6, []), (7, []), (8, []), (9, []), (10, []), (11, []), (12, []), (13, []), (14, []), (15, []), (16, []), (17, [])]) := rfl
def Tryz.ord229 : Nat → List Nat × List (Nat × List Nat)
 | 1 => ([0, 1, 3, 7, 15, 0, 32, 96, 255, 511], [(0, []), (1, []), (2, []), (3, []), (4, []), (5, []), (6, []), (7, []), (8, []), (9, [])])
 | _ => ([], [])
theorem Tryz.ord229_1 : Tryz.ord229 1 = ([0, 1, 3, 7, 15, 0, 32, 96, 255, 511], [(0, []), (1, []), (2, []), (3, []), (4, []), (5, []), (6, []), (7, []), (8, []), (9, [])]) := rfl
def Tryz.ord230 : Nat → List Nat × List (Nat × List Nat)
 | 1 => ([0, 1, 3, 0, 8, 24, 63, 0, 128, 384, 0, 1024, 3072, 8064, 16383, 32767], [(0, []), (1, []), (2, []), (3, []), (4, []), (5, []), (6, []), (7, []), (8, []), (9, []), (10, []), (11, []), (12, []), (13, []), (14, []), (15, [])])
 | _ => ([], [])
theorem Tryz.ord230_1 : Tryz.ord230 1 = ([0, 1, 3, 0, 8, 24, 63, 0, 128, 384, 0, 1024, 3072, 8064, 16383, 32767], [(0, []), (1, []), (2, []), (3, []), (4, []), (5, []), (6, []), (7, []), (8, []), (9, []), (10, []), (11, []), (12, []), (13, []), (14, []), (15, [])]) := rfl
def Tryz.ord236 : Nat → List Nat × List (Nat × List Nat)
 | 1 => ([0, 0, 3, 7, 0, 0, 48, 112, 255], [(0, []), (1, []), (2, []), (3, []), (4, []), (5, []), (6, []), (7, []), (8, [])])
 | _ => ([], [])
theorem Tryz.ord236_1 : Tryz.ord236 1 = ([0, 0, 3, 7, 0, 0, 48, 112, 255], [(0, []), (1, []), (2, []), (3, []), (4, []), (5, []), (6, []), (7, []), (8, [])]) := rfl
def Tryz.ord257 : Nat → List Nat × List (Nat × List Nat)
 | 1 => ([0, 0, 2, 6, 0, 16, 48, 127, 0, 256, 768, 2047, 0, 4096, 12288, 28672, 61440, 0, 131072, 393216, 917504, 1966080, 4194303, 8388607], [(0, []), (1, []), (2, []), (3, []), (4, []), (5, []), (6, []), (8, []), (9, []), (10, []), (12, []), (13, []), (14, []), (15, []), (16, []), (17, []), (18, []), (19, []), (20, []), (21, []), (7, [10, 15, 20]), (11, []), (22, []), (23, [])])
 | _ => ([], [])
theorem Tryz.ord257_1 : Tryz.ord257 1 = ([0, 0, 2, 6, 0, 16, 48, 127, 0, 256, 768, 2047, 0, 4096, 12288, 28672, 61440, 0, 131072, 393216, 917504, 1966080, 4194303, 8388607], [(0, []), (1, []), (2, []), (3, []), (4, []), (5, []), (6, []), (8, []), (9, []), (10, []), (12, []), (13, []), (14, []), (15, []), (16, []), (17, []), (18, []), (19, []), (20, []), (21, []), (7, [10, 15, 20]), (11, []), (22, []), (23, [])]) := rfl
def Tryz.ord258 : Nat → List Nat × List (Nat × List Nat)
 | 1 => ([0, 1, 3, 7, 15, 0, 32, 96, 224, 480, 1023, 2047], [(0, []), (1, []), (2, []), (3, []), (4, []), (5, []), (6, []), (7, []), (8, []), (9, []), (10, []), (11, [])])
 | _ => ([], [])
theorem Tryz.ord258_1 : Tryz.ord258 1 = ([0, 1, 3, 7, 15, 0, 32, 96, 224, 480, 1023, 2047], [(0, []), (1, []), (2, []), (3, []), (4, []), (5, []), (6, []), (7, []), (8, []), (9, []), (10, []), (11, [])]) := rfl
end Go.Proofs
set_option linter.unusedVariables false
namespace Go.Proofs
def Tryz.kp13 (t : Nat) : Bool := if t < 1 then true else if t < 2 then false else if t < 7 then true else if t < 8 then false else if t < 21 then true else if t < 56 then false else if t < 57 then true else if t < 79 then false else if t < 80 then true else if t < 84 then false else if t < 85 then true else if t < 121 then false else if t < 122 then true else if t < 136 then false else if t < 137 then true else if t < 142 then false else if t < 143 then true else if t < 158 then false else if t < 159 then true else false
def Tryz.kp19 (t : Nat) : Bool := if t < 1 then true else if t < 2 then false else if t < 5 then true else if t < 10 then false else if t < 11 then true else false
def Tryz.kp20 (t : Nat) : Bool := if t < 4 then true else if t < 8 then false else if t < 18 then true else if t < 39 then false else if t < 40 then true else if t < 43 then false else if t < 44 then true else if t < 61 then false else if t < 62 then true else if t < 81 then false else if t < 82 then true else false
def Tryz.kp21 (t : Nat) : Bool := if t < 3 then true else if t < 6 then false else if t < 7 then true else false
def Tryz.kp22 (t : Nat) : Bool := if t < 4 then true else if t < 5 then false else if t < 7 then true else if t < 14 then false else if t < 15 then true else false
def Tryz.kp23 (t : Nat) : Bool := if t < 8 then true else if t < 14 then false else if t < 15 then true else if t < 17 then false else if t < 20 then true else if t < 23 then false else if t < 24 then true else if t < 27 then false else if t < 28 then true else if t < 34 then false else if t < 35 then true else false
def Tryz.kp25 (t : Nat) : Bool := if t < 3 then true else if t < 4 then false else if t < 6 then true else if t < 7 then false else if t < 11 then true else if t < 22 then false else if t < 23 then true else if t < 25 then false else if t < 26 then true else if t < 27 then false else if t < 28 then true else if t < 33 then false else if t < 34 then true else if t < 42 then false else if t < 43 then true else false
def Tryz.kp26 (t : Nat) : Bool := if t < 11 then true else false
def Tryz.kp30 (t : Nat) : Bool := if t < 6 then true else if t < 17 then false else if t < 18 then true else false
def Tryz.kp33 (t : Nat) : Bool := if t < 5 then true else if t < 8 then false else if t < 15 then true else if t < 19 then false else if t < 20 then true else if t < 32 then false else if t < 33 then true else false
def Tryz.kp35 (t : Nat) : Bool := if t < 4 then true else if t < 6 then false else if t < 13 then true else if t < 14 then false else if t < 16 then true else if t < 17 then false else if t < 18 then true else if t < 30 then false else if t < 31 then true else if t < 33 then false else if t < 37 then true else if t < 42 then false else if t < 43 then true else if t < 49 then false else if t < 50 then true else if t < 66 then false else if t < 67 then true else false
def Tryz.kp38 (t : Nat) : Bool := if t < 2 then true else if t < 4 then false else if t < 5 then true else if t < 6 then false else if t < 7 then true else false
def Tryz.kp39 (t : Nat) : Bool := if t < 2 then true else if t < 4 then false else if t < 5 then true else if t < 7 then false else if t < 8 then true else false
def Tryz.kp42 (t : Nat) : Bool := if t < 3 then true else if t < 4 then false else if t < 5 then true else false
def Tryz.kp44 (t : Nat) : Bool := if t < 2 then true else if t < 4 then false else if t < 7 then true else if t < 18 then false else if t < 19 then true else false
def Tryz.kp50 (t : Nat) : Bool := if t < 2 then true else if t < 4 then false else if t < 7 then true else if t < 18 then false else if t < 19 then true else false
def Tryz.kp51 (t : Nat) : Bool := if t < 2 then true else if t < 4 then false else if t < 7 then true else if t < 18 then false else if t < 19 then true else false
def Tryz.kp60 (t : Nat) : Bool := if t < 2 then true else if t < 4 then false else if t < 5 then true else false
def Tryz.kp61 (t : Nat) : Bool := if t < 3 then true else if t < 6 then false else if t < 7 then true else false
def Tryz.kp62 (t : Nat) : Bool := if t < 7 then true else if t < 8 then false else if t < 11 then true else if t < 13 then false else if t < 14 then true else if t < 17 then false else if t < 18 then true else if t < 23 then false else if t < 24 then true else if t < 33 then false else if t < 34 then true else if t < 47 then false else if t < 50 then true else if t < 85 then false else if t < 86 then true else false
def Tryz.kp63 (t : Nat) : Bool := if t < 5 then true else if t < 10 then false else if t < 11 then true else false
def Tryz.kp64 (t : Nat) : Bool := if t < 4 then true else if t < 5 then false else if t < 7 then true else if t < 8 then false else if t < 13 then true else if t < 50 then false else if t < 51 then true else if t < 61 then false else if t < 62 then true else false
def Tryz.kp69 (t : Nat) : Bool := if t < 6 then true else if t < 8 then false else if t < 11 then true else if t < 15 then false else if t < 16 then true else if t < 35 then false else if t < 36 then true else false
def Tryz.kp76 (t : Nat) : Bool := if t < 8 then true else if t < 14 then false else if t < 15 then true else if t < 18 then false else if t < 21 then true else false
def Tryz.kp84 (t : Nat) : Bool := if t < 3 then true else if t < 4 then false else if t < 9 then true else if t < 10 then false else if t < 12 then true else if t < 18 then false else if t < 19 then true else if t < 21 then false else if t < 25 then true else if t < 28 then false else if t < 29 then true else if t < 36 then false else if t < 37 then true else false
def Tryz.kp85 (t : Nat) : Bool := if t < 1 then true else if t < 2 then false else if t < 7 then true else if t < 9 then false else if t < 10 then true else if t < 11 then false else if t < 12 then true else if t < 19 then false else if t < 20 then true else false
def Tryz.kp86 (t : Nat) : Bool := if t < 2 then true else if t < 4 then false else if t < 6 then true else if t < 7 then false else if t < 12 then true else if t < 16 then false else if t < 17 then true else false
def Tryz.kp87 (t : Nat) : Bool := if t < 3 then true else if t < 4 then false else if t < 5 then true else if t < 10 then false else if t < 11 then true else false
def Tryz.kp88 (t : Nat) : Bool := if t < 1 then true else if t < 2 then false else if t < 3 then true else false
def Tryz.kp89 (t : Nat) : Bool := if t < 1 then true else if t < 2 then false else if t < 6 then true else if t < 8 then false else if t < 9 then true else if t < 13 then false else if t < 14 then true else if t < 25 then false else if t < 26 then true else if t < 32 then false else if t < 33 then true else if t < 44 then false else if t < 45 then true else false
def Tryz.kp90 (t : Nat) : Bool := if t < 2 then true else false
def Tryz.kp91 (t : Nat) : Bool := if t < 1 then true else false
def Tryz.kp92 (t : Nat) : Bool := if t < 3 then true else false
def Tryz.kp93 (t : Nat) : Bool := if t < 1 then true else if t < 2 then false else if t < 3 then true else if t < 5 then false else if t < 6 then true else false
def Tryz.kp94 (t : Nat) : Bool := if t < 5 then true else if t < 8 then false else if t < 12 then true else if t < 18 then false else if t < 19 then true else if t < 20 then false else if t < 21 then true else false
def Tryz.kp99 (t : Nat) : Bool := if t < 3 then true else if t < 6 then false else if t < 7 then true else false
def Tryz.kp102 (t : Nat) : Bool := if t < 1 then true else if t < 2 then false else if t < 4 then true else false
def Tryz.kp103 (t : Nat) : Bool := if t < 7 then true else if t < 10 then false else if t < 11 then true else false
def Tryz.kp106 (t : Nat) : Bool := if t < 2 then true else if t < 4 then false else if t < 5 then true else false
def Tryz.kp107 (t : Nat) : Bool := if t < 3 then true else if t < 4 then false else if t < 7 then true else if t < 9 then false else if t < 11 then true else if t < 13 then false else if t < 14 then true else false
def Tryz.kp111 (t : Nat) : Bool := if t < 6 then true else if t < 8 then false else if t < 11 then true else if t < 25 then false else if t < 26 then true else false
def Tryz.kp112 (t : Nat) : Bool := if t < 1 then true else if t < 2 then false else if t < 6 then true else if t < 8 then false else if t < 10 then true else if t < 13 then false else if t < 14 then true else false
def Tryz.kp117 (t : Nat) : Bool := if t < 3 then true else if t < 4 then false else if t < 11 then true else if t < 15 then false else if t < 16 then true else if t < 22 then false else if t < 23 then true else if t < 31 then false else if t < 32 then true else if t < 37 then false else if t < 38 then true else if t < 45 then false else if t < 48 then true else false
def Tryz.kp118 (t : Nat) : Bool := if t < 1 then true else if t < 2 then false else if t < 3 then true else if t < 4 then false else if t < 5 then true else false
def Tryz.kp119 (t : Nat) : Bool := if t < 1 then true else if t < 2 then false else if t < 3 then true else if t < 4 then false else if t < 5 then true else false
def Tryz.kp120 (t : Nat) : Bool := if t < 1 then true else if t < 2 then false else if t < 3 then true else if t < 4 then false else if t < 5 then true else false
def Tryz.kp121 (t : Nat) : Bool := if t < 1 then true else if t < 2 then false else if t < 3 then true else if t < 4 then false else if t < 5 then true else false
def Tryz.kp122 (t : Nat) : Bool := if t < 5 then true else if t < 10 then false else if t < 11 then true else false
def Tryz.kp123 (t : Nat) : Bool := if t < 6 then true else if t < 9 then false else if t < 10 then true else if t < 16 then false else if t < 17 then true else false
def Tryz.kp124 (t : Nat) : Bool := if t < 2 then true else if t < 4 then false else if t < 6 then true else if t < 7 then false else if t < 8 then true else if t < 19 then false else if t < 23 then true else false
def Tryz.kp125 (t : Nat) : Bool := if t < 4 then true else false
def Tryz.kp126 (t : Nat) : Bool := if t < 3 then true else if t < 4 then false else if t < 10 then true else if t < 11 then false else if t < 13 then true else if t < 22 then false else if t < 23 then true else if t < 25 then false else if t < 29 then true else if t < 37 then false else if t < 38 then true else false
def Tryz.kp127 (t : Nat) : Bool := if t < 3 then true else if t < 4 then false else if t < 5 then true else if t < 6 then false else if t < 9 then true else if t < 13 then false else if t < 14 then true else if t < 18 then false else if t < 19 then true else if t < 24 then false else if t < 28 then true else if t < 30 then false else if t < 31 then true else if t < 39 then false else if t < 40 then true else if t < 45 then false else if t < 46 then true else if t < 56 then false else if t < 57 then true else if t < 58 then false else if t < 62 then true else if t < 70 then false else if t < 71 then true else false
def Tryz.kp128 (t : Nat) : Bool := if t < 3 then true else if t < 4 then false else if t < 9 then true else if t < 13 then false else if t < 14 then true else if t < 20 then false else if t < 21 then true else if t < 29 then false else if t < 30 then true else if t < 41 then false else if t < 42 then true else if t < 54 then false else if t < 56 then true else if t < 74 then false else if t < 75 then true else false
def Tryz.kp133 (t : Nat) : Bool := if t < 5 then true else if t < 6 then false else if t < 13 then true else if t < 14 then false else if t < 16 then true else if t < 24 then false else if t < 25 then true else if t < 32 then false else if t < 33 then true else if t < 35 then false else if t < 36 then true else if t < 47 then false else if t < 48 then true else if t < 49 then false else if t < 50 then true else if t < 61 then false else if t < 62 then true else false
def Tryz.kp136 (t : Nat) : Bool := if t < 6 then true else if t < 7 then false else if t < 8 then true else if t < 12 then false else if t < 15 then true else if t < 19 then false else if t < 22 then true else if t < 26 then false else if t < 27 then true else if t < 29 then false else if t < 33 then true else if t < 41 then false else if t < 42 then true else false
def Tryz.kp137 (t : Nat) : Bool := if t < 6 then true else if t < 8 then false else if t < 9 then true else if t < 10 then false else if t < 13 then true else if t < 16 then false else if t < 17 then true else false
def Tryz.kp138 (t : Nat) : Bool := if t < 2 then true else if t < 4 then false else if t < 5 then true else false
def Tryz.kp139 (t : Nat) : Bool := if t < 2 then true else if t < 4 then false else if t < 13 then true else if t < 19 then false else if t < 20 then true else if t < 28 then false else if t < 29 then true else if t < 35 then false else if t < 36 then true else false
def Tryz.kp140 (t : Nat) : Bool := if t < 2 then true else if t < 4 then false else if t < 5 then true else false
def Tryz.kp141 (t : Nat) : Bool := if t < 4 then true else if t < 8 then false else if t < 19 then true else if t < 23 then false else if t < 24 then true else if t < 29 then false else if t < 30 then true else if t < 35 then false else if t < 36 then true else if t < 50 then false else if t < 51 then true else if t < 68 then false else if t < 69 then true else if t < 72 then false else if t < 73 then true else if t < 87 then false else if t < 88 then true else if t < 113 then false else if t < 114 then true else false
def Tryz.kp142 (t : Nat) : Bool := if t < 1 then true else if t < 2 then false else if t < 3 then true else false
def Tryz.kp143 (t : Nat) : Bool := if t < 1 then true else if t < 2 then false else if t < 3 then true else false
def Tryz.kp144 (t : Nat) : Bool := if t < 4 then true else if t < 6 then false else if t < 8 then true else if t < 9 then false else if t < 10 then true else if t < 12 then false else if t < 16 then true else if t < 27 then false else if t < 28 then true else false
def Tryz.kp146 (t : Nat) : Bool := if t < 4 then true else if t < 5 then false else if t < 7 then true else if t < 31 then false else if t < 32 then true else if t < 39 then false else if t < 40 then true else if t < 45 then false else if t < 49 then true else if t < 51 then false else if t < 52 then true else if t < 59 then false else if t < 60 then true else if t < 68 then false else if t < 69 then true else false
def Tryz.kp147 (t : Nat) : Bool := if t < 10 then true else if t < 15 then false else if t < 19 then true else if t < 34 then false else if t < 37 then true else if t < 54 then false else if t < 55 then true else false
def Tryz.kp150 (t : Nat) : Bool := if t < 5 then true else false
def Tryz.kp151 (t : Nat) : Bool := if t < 7 then true else if t < 10 then false else if t < 13 then true else if t < 16 then false else if t < 19 then true else if t < 24 then false else if t < 25 then true else false
def Tryz.kp155 (t : Nat) : Bool := if t < 2 then true else if t < 4 then false else if t < 5 then true else false
def Tryz.kp156 (t : Nat) : Bool := if t < 3 then true else if t < 4 then false else if t < 5 then true else false
def Tryz.kp157 (t : Nat) : Bool := if t < 2 then true else if t < 4 then false else if t < 5 then true else false
def Tryz.kp158 (t : Nat) : Bool := if t < 1 then true else if t < 2 then false else if t < 3 then true else false
def Tryz.kp159 (t : Nat) : Bool := if t < 4 then true else if t < 5 then false else if t < 6 then true else if t < 7 then false else if t < 11 then true else false
def Tryz.kp160 (t : Nat) : Bool := if t < 3 then true else if t < 4 then false else if t < 7 then true else if t < 10 then false else if t < 11 then true else if t < 13 then false else if t < 14 then true else false
def Tryz.kp161 (t : Nat) : Bool := if t < 3 then true else if t < 4 then false else if t < 5 then true else if t < 11 then false else if t < 12 then true else false
def Tryz.kp162 (t : Nat) : Bool := if t < 3 then true else if t < 6 then false else if t < 7 then true else false
def Tryz.kp169 (t : Nat) : Bool := if t < 3 then true else if t < 4 then false else if t < 5 then true else if t < 6 then false else if t < 8 then true else if t < 13 then false else if t < 14 then true else false
def Tryz.kp170 (t : Nat) : Bool := if t < 2 then true else if t < 4 then false else if t < 6 then true else if t < 7 then false else if t < 8 then true else if t < 9 then false else if t < 10 then true else if t < 11 then false else if t < 15 then true else if t < 19 then false else if t < 23 then true else false
def Tryz.kp171 (t : Nat) : Bool := if t < 4 then true else false
def Tryz.kp178 (t : Nat) : Bool := if t < 1 then true else if t < 2 then false else if t < 3 then true else false
def Tryz.kp179 (t : Nat) : Bool := if t < 5 then true else if t < 10 then false else if t < 21 then true else if t < 25 then false else if t < 26 then true else if t < 32 then false else if t < 33 then true else if t < 39 then false else if t < 40 then true else if t < 56 then false else if t < 57 then true else if t < 75 then false else if t < 76 then true else if t < 80 then false else if t < 81 then true else if t < 97 then false else if t < 98 then true else if t < 125 then false else if t < 126 then true else false
def Tryz.kp180 (t : Nat) : Bool := if t < 2 then true else if t < 4 then false else if t < 7 then true else if t < 11 then false else if t < 14 then true else if t < 16 then false else if t < 17 then true else if t < 19 then false else if t < 20 then true else false
def Tryz.kp181 (t : Nat) : Bool := if t < 2 then true else if t < 4 then false else if t < 6 then true else if t < 7 then false else if t < 10 then true else if t < 16 then false else if t < 17 then true else false
def Tryz.kp182 (t : Nat) : Bool := if t < 3 then true else if t < 6 then false else if t < 8 then true else if t < 12 then false else if t < 13 then true else if t < 30 then false else if t < 31 then true else false
def Tryz.kp185 (t : Nat) : Bool := if t < 3 then true else if t < 6 then false else if t < 13 then true else if t < 32 then false else if t < 33 then true else if t < 34 then false else if t < 35 then true else if t < 49 then false else if t < 50 then true else if t < 51 then false else if t < 52 then true else if t < 54 then false else if t < 55 then true else false
def Tryz.kp187 (t : Nat) : Bool := if t < 3 then true else if t < 6 then false else if t < 11 then true else if t < 14 then false else if t < 15 then true else if t < 32 then false else if t < 33 then true else if t < 37 then false else if t < 38 then true else if t < 41 then false else if t < 42 then true else if t < 61 then false else if t < 62 then true else if t < 65 then false else if t < 66 then true else if t < 78 then false else if t < 79 then true else if t < 98 then false else if t < 99 then true else if t < 103 then false else if t < 104 then true else if t < 116 then false else if t < 117 then true else false
def Tryz.kp188 (t : Nat) : Bool := if t < 2 then true else if t < 4 then false else if t < 5 then true else false
def Tryz.kp192 (t : Nat) : Bool := if t < 1 then true else if t < 2 then false else if t < 3 then true else if t < 4 then false else if t < 5 then true else if t < 8 then false else if t < 9 then true else if t < 14 then false else if t < 15 then true else false
def Tryz.kp193 (t : Nat) : Bool := if t < 6 then true else false
def Tryz.kp199 (t : Nat) : Bool := if t < 5 then true else false
def Tryz.kp200 (t : Nat) : Bool := if t < 7 then true else if t < 8 then false else if t < 10 then true else if t < 14 then false else if t < 15 then true else if t < 21 then false else if t < 22 then true else if t < 36 then false else if t < 37 then true else if t < 51 then false else if t < 52 then true else false
def Tryz.kp201 (t : Nat) : Bool := if t < 2 then true else if t < 4 then false else if t < 6 then true else if t < 7 then false else if t < 10 then true else if t < 16 then false else if t < 17 then true else false
def Tryz.kp202 (t : Nat) : Bool := if t < 3 then true else if t < 4 then false else if t < 8 then true else false
def Tryz.kp203 (t : Nat) : Bool := if t < 5 then true else false
def Tryz.kp204 (t : Nat) : Bool := if t < 7 then true else if t < 8 then false else if t < 9 then true else if t < 10 then false else if t < 12 then true else if t < 16 then false else if t < 21 then true else if t < 26 then false else if t < 27 then true else if t < 44 then false else if t < 45 then true else if t < 55 then false else if t < 56 then true else false
def Tryz.kp208 (t : Nat) : Bool := if t < 2 then true else if t < 3 then false else if t < 11 then true else if t < 12 then false else if t < 14 then true else if t < 38 then false else if t < 39 then true else if t < 48 then false else if t < 49 then true else if t < 55 then false else if t < 57 then true else if t < 73 then false else if t < 74 then true else false
def Tryz.kp209 (t : Nat) : Bool := if t < 1 then true else if t < 2 then false else if t < 3 then true else false
def Tryz.kp210 (t : Nat) : Bool := if t < 4 then true else if t < 8 then false else if t < 10 then true else if t < 14 then false else if t < 15 then true else if t < 34 then false else if t < 35 then true else false
def Tryz.kp218 (t : Nat) : Bool := if t < 1 then true else if t < 2 then false else if t < 3 then true else false
def Tryz.kp223 (t : Nat) : Bool := if t < 5 then true else if t < 10 then false else if t < 11 then true else false
def Tryz.kp229 (t : Nat) : Bool := if t < 6 then true else false
def Tryz.kp230 (t : Nat) : Bool := if t < 4 then true else if t < 6 then false else if t < 7 then true else false
def Tryz.kp232 (t : Nat) : Bool := if t < 1 then true else if t < 2 then false else if t < 3 then true else false
def Tryz.kp236 (t : Nat) : Bool := if t < 4 then true else if t < 8 then false else if t < 10 then true else if t < 18 then false else if t < 19 then true else false
def Tryz.kp257 (t : Nat) : Bool := if t < 5 then true else false
def Tryz.kp258 (t : Nat) : Bool := if t < 5 then true else false
end Go.Proofs
