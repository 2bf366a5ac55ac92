/- The slots that live on from statement to statement. Written by program. -/
import Derived.Test.YtgbdndlmdklefaaGreatK11
import Derived.Test.YtgbdndlmdklefaaGreatK12
import Derived.Test.YtgbdndlmdklefaaGreatK13
import Derived.Laws.StructEq
namespace Go.Proofs
open Go Go.Mu
def Tryz.ord19 : Nat → List Nat × List (Nat × List Nat)
 | 5 => ([0, 0, 2, 6, 14, 0, 0, 96, 224, 480, 1022, 2046, 4095, 8191, 16383], [(0, []), (1, []), (2, []), (3, []), (4, []), (5, []), (6, []), (7, []), (8, []), (9, []), (10, []), (11, []), (12, []), (13, []), (14, [])])
 | 6 => ([0, 0, 2, 6, 14, 0, 32, 96, 224, 480, 1022, 2047, 4095, 8191], [(0, []), (1, []), (2, []), (3, []), (4, []), (5, []), (6, []), (7, []), (8, []), (9, []), (10, []), (11, []), (12, []), (13, [])])
 | _ => ([], [])
theorem Tryz.ord19_5 : Tryz.ord19 5 = ([0, 0, 2, 6, 14, 0, 0, 96, 224, 480, 1022, 2046, 4095, 8191, 16383], [(0, []), (1, []), (2, []), (3, []), (4, []), (5, []), (6, []), (7, []), (8, []), (9, []), (10, []), (11, []), (12, []), (13, []), (14, [])]) := rfl
theorem Tryz.ord19_6 : Tryz.ord19 6 = ([0, 0, 2, 6, 14, 0, 32, 96, 224, 480, 1022, 2047, 4095, 8191], [(0, []), (1, []), (2, []), (3, []), (4, []), (5, []), (6, []), (7, []), (8, []), (9, []), (10, []), (11, []), (12, []), (13, [])]) := rfl
def Tryz.ord20 : Nat → List Nat × List (Nat × List Nat)
 | 15 => ([0, 1, 0, 0, 8, 24, 60, 0, 252, 508, 1020, 2047, 4095, 8191], [(0, []), (1, []), (2, []), (3, []), (4, []), (5, []), (7, []), (6, [1]), (8, [1]), (9, []), (10, []), (11, []), (12, []), (13, [])])
 | 20 => ([0, 1, 0, 4, 15, 0, 32, 0, 128, 511, 31, 2047, 4095, 8191], [(0, []), (1, []), (2, []), (3, []), (5, []), (6, []), (7, []), (8, []), (4, [6]), (10, []), (9, []), (11, []), (12, []), (13, [])])
 | 21 => ([0, 0, 1, 7], [(0, []), (1, []), (2, [1]), (3, [])])
 | _ => ([], [])
theorem Tryz.ord20_15 : Tryz.ord20 15 = ([0, 1, 0, 0, 8, 24, 60, 0, 252, 508, 1020, 2047, 4095, 8191], [(0, []), (1, []), (2, []), (3, []), (4, []), (5, []), (7, []), (6, [1]), (8, [1]), (9, []), (10, []), (11, []), (12, []), (13, [])]) := rfl
theorem Tryz.ord20_20 : Tryz.ord20 20 = ([0, 1, 0, 4, 15, 0, 32, 0, 128, 511, 31, 2047, 4095, 8191], [(0, []), (1, []), (2, []), (3, []), (5, []), (6, []), (7, []), (8, []), (4, [6]), (10, []), (9, []), (11, []), (12, []), (13, [])]) := rfl
theorem Tryz.ord20_21 : Tryz.ord20 21 = ([0, 0, 1, 7], [(0, []), (1, []), (2, [1]), (3, [])]) := rfl
def Tryz.ord25 : Nat → List Nat × List (Nat × List Nat)
 | 1 => ([0, 0, 0, 6, 14, 31, 63, 127, 127, 127, 0, 1279, 3583, 8191], [(0, []), (1, []), (2, []), (3, [0]), (4, []), (5, []), (6, []), (7, []), (8, []), (9, []), (10, []), (11, []), (12, []), (13, [])])
 | _ => ([], [])
theorem Tryz.ord25_1 : Tryz.ord25 1 = ([0, 0, 0, 6, 14, 31, 63, 127, 127, 127, 0, 1279, 3583, 8191], [(0, []), (1, []), (2, []), (3, [0]), (4, []), (5, []), (6, []), (7, []), (8, []), (9, []), (10, []), (11, []), (12, []), (13, [])]) := rfl
def Tryz.ord26 : Nat → List Nat × List (Nat × List Nat)
 | 6 => ([0, 1, 3, 7, 15, 31, 63, 127, 255, 511, 1023, 2047, 4095, 8191, 16383, 32767, 65535, 131071, 262143, 524287, 1048575, 2097151, 4194303, 8388607, 8388607, 33554431, 67108863, 134217727, 268435455, 268435455, 268435455, 1879048191, 4294967295, 8589934591, 17179869183, 34359738367, 34359738367, 137438953471, 274877906943, 549755813887, 1099511627775, 1099511627775, 4398046511103, 8796093022207, 17592186044415], [(0, []), (1, []), (2, []), (3, []), (4, []), (5, []), (6, []), (7, []), (8, []), (9, []), (10, []), (11, []), (12, []), (13, []), (14, []), (15, []), (16, []), (17, []), (18, []), (19, []), (20, []), (21, []), (22, []), (23, []), (24, [23]), (25, []), (26, []), (27, []), (28, []), (29, []), (30, []), (31, []), (32, []), (33, []), (34, []), (35, []), (36, []), (37, []), (38, []), (39, []), (40, []), (41, []), (42, []), (43, []), (44, [])])
 | _ => ([], [])
theorem Tryz.ord26_6 : Tryz.ord26 6 = ([0, 1, 3, 7, 15, 31, 63, 127, 255, 511, 1023, 2047, 4095, 8191, 16383, 32767, 65535, 131071, 262143, 524287, 1048575, 2097151, 4194303, 8388607, 8388607, 33554431, 67108863, 134217727, 268435455, 268435455, 268435455, 1879048191, 4294967295, 8589934591, 17179869183, 34359738367, 34359738367, 137438953471, 274877906943, 549755813887, 1099511627775, 1099511627775, 4398046511103, 8796093022207, 17592186044415], [(0, []), (1, []), (2, []), (3, []), (4, []), (5, []), (6, []), (7, []), (8, []), (9, []), (10, []), (11, []), (12, []), (13, []), (14, []), (15, []), (16, []), (17, []), (18, []), (19, []), (20, []), (21, []), (22, []), (23, []), (24, [23]), (25, []), (26, []), (27, []), (28, []), (29, []), (30, []), (31, []), (32, []), (33, []), (34, []), (35, []), (36, []), (37, []), (38, []), (39, []), (40, []), (41, []), (42, []), (43, []), (44, [])]) := rfl
def Tryz.ord33 : Nat → List Nat × List (Nat × List Nat)
 | 4 => ([0, 0, 0, 6, 0, 30, 63, 127, 255, 255, 255, 0, 2559, 7167, 16383], [(0, []), (1, []), (2, []), (4, []), (3, [0]), (5, []), (6, []), (7, []), (8, []), (9, []), (10, []), (11, []), (12, []), (13, []), (14, [])])
 | _ => ([], [])
theorem Tryz.ord33_4 : Tryz.ord33 4 = ([0, 0, 0, 6, 0, 30, 63, 127, 255, 255, 255, 0, 2559, 7167, 16383], [(0, []), (1, []), (2, []), (4, []), (3, [0]), (5, []), (6, []), (7, []), (8, []), (9, []), (10, []), (11, []), (12, []), (13, []), (14, [])]) := rfl
def Tryz.ord35 : Nat → List Nat × List (Nat × List Nat)
 | 4 => ([0, 0, 0, 6, 0, 30, 63, 127, 255, 255, 255, 0, 2559, 7167, 16383], [(0, []), (1, []), (2, []), (4, []), (3, [0]), (5, []), (6, []), (7, []), (8, []), (9, []), (10, []), (11, []), (12, []), (13, []), (14, [])])
 | _ => ([], [])
theorem Tryz.ord35_4 : Tryz.ord35 4 = ([0, 0, 0, 6, 0, 30, 63, 127, 255, 255, 255, 0, 2559, 7167, 16383], [(0, []), (1, []), (2, []), (4, []), (3, [0]), (5, []), (6, []), (7, []), (8, []), (9, []), (10, []), (11, []), (12, []), (13, []), (14, [])]) := rfl
def Tryz.ord44 : Nat → List Nat × List (Nat × List Nat)
 | 5 => ([0, 0, 3, 7, 0, 0, 48, 112, 255, 511], [(0, []), (1, []), (2, []), (3, []), (4, []), (5, []), (6, []), (7, []), (8, []), (9, [])])
 | _ => ([], [])
theorem Tryz.ord44_5 : Tryz.ord44 5 = ([0, 0, 3, 7, 0, 0, 48, 112, 255, 511], [(0, []), (1, []), (2, []), (3, []), (4, []), (5, []), (6, []), (7, []), (8, []), (9, [])]) := rfl
def Tryz.ord50 : Nat → List Nat × List (Nat × List Nat)
 | 5 => ([0, 0, 3, 7, 0, 0, 48, 112, 255, 511], [(0, []), (1, []), (2, []), (3, []), (4, []), (5, []), (6, []), (7, []), (8, []), (9, [])])
 | _ => ([], [])
theorem Tryz.ord50_5 : Tryz.ord50 5 = ([0, 0, 3, 7, 0, 0, 48, 112, 255, 511], [(0, []), (1, []), (2, []), (3, []), (4, []), (5, []), (6, []), (7, []), (8, []), (9, [])]) := rfl
def Tryz.ord51 : Nat → List Nat × List (Nat × List Nat)
 | 5 => ([0, 0, 3, 7, 0, 0, 48, 112, 255, 511], [(0, []), (1, []), (2, []), (3, []), (4, []), (5, []), (6, []), (7, []), (8, []), (9, [])])
 | _ => ([], [])
theorem Tryz.ord51_5 : Tryz.ord51 5 = ([0, 0, 3, 7, 0, 0, 48, 112, 255, 511], [(0, []), (1, []), (2, []), (3, []), (4, []), (5, []), (6, []), (7, []), (8, []), (9, [])]) := rfl
def Tryz.ord57 : Nat → List Nat × List (Nat × List Nat)
 | 17 => ([0, 1, 3, 3, 11, 3, 59, 123, 3, 259, 3, 1795, 3843, 7939, 3, 3, 3, 98307, 229379, 3, 1015811, 2064387, 4194303, 8388607, 16777215], [(0, []), (1, []), (2, []), (3, []), (4, []), (5, []), (6, []), (7, []), (8, []), (9, []), (10, []), (11, []), (12, []), (14, []), (15, []), (16, []), (17, []), (18, []), (19, []), (20, []), (21, []), (13, [2, 4, 7, 18, 21]), (22, []), (23, []), (24, [])])
 | _ => ([], [])
theorem Tryz.ord57_17 : Tryz.ord57 17 = ([0, 1, 3, 3, 11, 3, 59, 123, 3, 259, 3, 1795, 3843, 7939, 3, 3, 3, 98307, 229379, 3, 1015811, 2064387, 4194303, 8388607, 16777215], [(0, []), (1, []), (2, []), (3, []), (4, []), (5, []), (6, []), (7, []), (8, []), (9, []), (10, []), (11, []), (12, []), (14, []), (15, []), (16, []), (17, []), (18, []), (19, []), (20, []), (21, []), (13, [2, 4, 7, 18, 21]), (22, []), (23, []), (24, [])]) := rfl
def Tryz.ord64 : Nat → List Nat × List (Nat × List Nat)
 | 3 => ([0, 1, 0, 0, 0, 0, 32, 124, 255, 0, 0, 1024, 3072, 0, 8192, 32508, 65535, 131071], [(0, []), (1, []), (2, []), (3, []), (4, []), (5, []), (6, []), (9, []), (10, []), (11, []), (12, []), (13, []), (14, []), (7, [1, 11, 14]), (8, []), (15, [1]), (16, []), (17, [])])
 | _ => ([], [])
theorem Tryz.ord64_3 : Tryz.ord64 3 = ([0, 1, 0, 0, 0, 0, 32, 124, 255, 0, 0, 1024, 3072, 0, 8192, 32508, 65535, 131071], [(0, []), (1, []), (2, []), (3, []), (4, []), (5, []), (6, []), (9, []), (10, []), (11, []), (12, []), (13, []), (14, []), (7, [1, 11, 14]), (8, []), (15, [1]), (16, []), (17, [])]) := rfl
def Tryz.ord89 : Nat → List Nat × List (Nat × List Nat)
 | 6 => ([0, 0, 3, 7, 0, 0, 32, 112, 240, 511], [(0, []), (1, []), (2, []), (3, []), (4, []), (5, []), (6, []), (7, []), (8, []), (9, [])])
 | 11 => ([0, 0, 3, 7, 0, 0, 32, 112, 240, 511], [(0, []), (1, []), (2, []), (3, []), (4, []), (5, []), (6, []), (7, []), (8, []), (9, [])])
 | _ => ([], [])
theorem Tryz.ord89_6 : Tryz.ord89 6 = ([0, 0, 3, 7, 0, 0, 32, 112, 240, 511], [(0, []), (1, []), (2, []), (3, []), (4, []), (5, []), (6, []), (7, []), (8, []), (9, [])]) := rfl
theorem Tryz.ord89_11 : Tryz.ord89 11 = ([0, 0, 3, 7, 0, 0, 32, 112, 240, 511], [(0, []), (1, []), (2, []), (3, []), (4, []), (5, []), (6, []), (7, []), (8, []), (9, [])]) := rfl
def Tryz.ord94 : Nat → List Nat × List (Nat × List Nat)
 | 6 => ([0, 1, 0, 4, 12, 0, 60, 127, 0, 256, 0, 1024, 3072, 0, 15360, 32512, 65535, 131071], [(0, []), (1, []), (2, []), (3, []), (4, []), (5, []), (6, []), (7, []), (8, []), (9, []), (10, []), (11, []), (12, []), (13, []), (14, []), (15, []), (16, []), (17, [])])
 | _ => ([], [])
theorem Tryz.ord94_6 : Tryz.ord94 6 = ([0, 1, 0, 4, 12, 0, 60, 127, 0, 256, 0, 1024, 3072, 0, 15360, 32512, 65535, 131071], [(0, []), (1, []), (2, []), (3, []), (4, []), (5, []), (6, []), (7, []), (8, []), (9, []), (10, []), (11, []), (12, []), (13, []), (14, []), (15, []), (16, []), (17, [])]) := rfl
def Tryz.ord111 : Nat → List Nat × List (Nat × List Nat)
 | 4 => ([0, 1, 3, 0, 0, 0, 32, 120, 255, 0, 1023], [(0, []), (1, []), (2, []), (3, []), (4, []), (5, []), (6, []), (7, [2]), (8, []), (9, []), (10, [])])
 | _ => ([], [])
theorem Tryz.ord111_4 : Tryz.ord111 4 = ([0, 1, 3, 0, 0, 0, 32, 120, 255, 0, 1023], [(0, []), (1, []), (2, []), (3, []), (4, []), (5, []), (6, []), (7, [2]), (8, []), (9, []), (10, [])]) := rfl
def Tryz.ord117 : Nat → List Nat × List (Nat × List Nat)
 | 16 => ([0, 0, 3, 7, 0, 16, 63, 127, 255], [(0, []), (1, []), (2, []), (3, []), (4, []), (5, []), (6, []), (7, []), (8, [])])
 | _ => ([], [])
theorem Tryz.ord117_16 : Tryz.ord117 16 = ([0, 0, 3, 7, 0, 16, 63, 127, 255], [(0, []), (1, []), (2, []), (3, []), (4, []), (5, []), (6, []), (7, []), (8, [])]) := rfl
def Tryz.ord126 : Nat → List Nat × List (Nat × List Nat)
 | 1 => ([0, 0, 0, 6, 15, 31, 63, 63, 127, 511], [(0, []), (1, []), (2, []), (3, [0]), (4, []), (5, []), (6, []), (7, []), (8, []), (9, [])])
 | _ => ([], [])
theorem Tryz.ord126_1 : Tryz.ord126 1 = ([0, 0, 0, 6, 15, 31, 63, 63, 127, 511], [(0, []), (1, []), (2, []), (3, [0]), (4, []), (5, []), (6, []), (7, []), (8, []), (9, [])]) := rfl
def Tryz.ord141 : Nat → List Nat × List (Nat × List Nat)
 | 17 => ([0, 1, 3, 7, 7, 23, 63, 127, 7, 7, 775, 1799, 4095, 8191, 16383], [(0, []), (1, []), (2, []), (3, []), (4, []), (5, []), (6, []), (7, []), (8, []), (9, []), (10, []), (11, []), (12, []), (13, []), (14, [])])
 | _ => ([], [])
theorem Tryz.ord141_17 : Tryz.ord141 17 = ([0, 1, 3, 7, 7, 23, 63, 127, 7, 7, 775, 1799, 4095, 8191, 16383], [(0, []), (1, []), (2, []), (3, []), (4, []), (5, []), (6, []), (7, []), (8, []), (9, []), (10, []), (11, []), (12, []), (13, []), (14, [])]) := rfl
def Tryz.ord147 : Nat → List Nat × List (Nat × List Nat)
 | 17 => ([0, 0, 2, 1, 15], [(0, []), (1, []), (2, []), (3, [2]), (4, [])])
 | _ => ([], [])
theorem Tryz.ord147_17 : Tryz.ord147 17 = ([0, 0, 2, 1, 15], [(0, []), (1, []), (2, []), (3, [2]), (4, [])]) := rfl
def Tryz.ord159 : Nat → List Nat × List (Nat × List Nat)
 | 5 => ([0, 0, 0, 4, 14, 30, 63, 127], [(0, []), (1, []), (2, []), (3, []), (4, [0]), (5, []), (6, []), (7, [])])
 | _ => ([], [])
theorem Tryz.ord159_5 : Tryz.ord159 5 = ([0, 0, 0, 4, 14, 30, 63, 127], [(0, []), (1, []), (2, []), (3, []), (4, [0]), (5, []), (6, []), (7, [])]) := rfl
def Tryz.ord179 : Nat → List Nat × List (Nat × List Nat)
 | 17 => ([0, 1, 3, 7, 7, 7, 39, 119, 247, 7, 7, 1543, 3591, 8191, 16383, 32767, 65535], [(0, []), (1, []), (2, []), (3, []), (4, []), (5, []), (6, []), (7, []), (8, []), (9, []), (10, []), (11, []), (12, []), (13, []), (14, []), (15, []), (16, [])])
 | _ => ([], [])
theorem Tryz.ord179_17 : Tryz.ord179 17 = ([0, 1, 3, 7, 7, 7, 39, 119, 247, 7, 7, 1543, 3591, 8191, 16383, 32767, 65535], [(0, []), (1, []), (2, []), (3, []), (4, []), (5, []), (6, []), (7, []), (8, []), (9, []), (10, []), (11, []), (12, []), (13, []), (14, []), (15, []), (16, [])]) := rfl
def Tryz.ord182 : Nat → List Nat × List (Nat × List Nat)
 | 4 => ([0, 0, 3, 7, 15, 15, 63, 127, 15, 15, 527, 1807, 3855, 8191, 16383], [(0, []), (1, []), (2, []), (3, []), (4, []), (5, []), (6, []), (7, []), (8, []), (9, []), (10, []), (11, []), (12, []), (13, []), (14, [])])
 | 6 => ([0, 0, 0, 0, 8, 0, 0, 64, 224, 480, 0, 0, 3072, 7168, 16355, 32739, 65535, 131071], [(0, []), (1, []), (2, []), (3, []), (4, []), (5, []), (6, []), (7, []), (8, []), (9, []), (10, []), (11, []), (12, []), (13, []), (14, []), (15, []), (16, []), (17, [])])
 | _ => ([], [])
theorem Tryz.ord182_4 : Tryz.ord182 4 = ([0, 0, 3, 7, 15, 15, 63, 127, 15, 15, 527, 1807, 3855, 8191, 16383], [(0, []), (1, []), (2, []), (3, []), (4, []), (5, []), (6, []), (7, []), (8, []), (9, []), (10, []), (11, []), (12, []), (13, []), (14, [])]) := rfl
theorem Tryz.ord182_6 : Tryz.ord182 6 = ([0, 0, 0, 0, 8, 0, 0, 64, 224, 480, 0, 0, 3072, 7168, 16355, 32739, 65535, 131071], [(0, []), (1, []), (2, []), (3, []), (4, []), (5, []), (6, []), (7, []), (8, []), (9, []), (10, []), (11, []), (12, []), (13, []), (14, []), (15, []), (16, []), (17, [])]) := rfl
def Tryz.ord187 : Nat → List Nat × List (Nat × List Nat)
 | 5 => ([0, 0, 3, 7, 15, 15, 63, 127, 15, 15, 527, 1807, 3855, 8191, 16383, 32767], [(0, []), (1, []), (2, []), (3, []), (4, []), (5, []), (6, []), (7, []), (8, []), (9, []), (10, []), (11, []), (12, []), (13, []), (14, []), (15, [])])
 | 11 => ([0, 0, 0, 0, 8, 0, 0, 64, 224, 480, 0, 0, 3072, 7168, 16355, 32739, 65535, 131071], [(0, []), (1, []), (2, []), (3, []), (4, []), (5, []), (6, []), (7, []), (8, []), (9, []), (10, []), (11, []), (12, []), (13, []), (14, []), (15, []), (16, []), (17, [])])
 | 16 => ([0, 0, 3, 7, 0, 0, 32, 112, 240, 511, 1023], [(0, []), (1, []), (2, []), (3, []), (4, []), (5, []), (6, []), (7, []), (8, []), (9, []), (10, [])])
 | 17 => ([0, 0, 0, 0, 8, 0, 0, 64, 224, 480, 0, 0, 3072, 7168, 16355, 32739, 65535, 131071], [(0, []), (1, []), (2, []), (3, []), (4, []), (5, []), (6, []), (7, []), (8, []), (9, []), (10, []), (11, []), (12, []), (13, []), (14, []), (15, []), (16, []), (17, [])])
 | 22 => ([0, 0, 3, 7, 0, 0, 32, 112, 240, 511, 1023], [(0, []), (1, []), (2, []), (3, []), (4, []), (5, []), (6, []), (7, []), (8, []), (9, []), (10, [])])
 | 23 => ([0, 0, 0, 0, 8, 0, 0, 64, 224, 480, 0, 0, 3072, 7168, 16355, 32739, 65535, 131071], [(0, []), (1, []), (2, []), (3, []), (4, []), (5, []), (6, []), (7, []), (8, []), (9, []), (10, []), (11, []), (12, []), (13, []), (14, []), (15, []), (16, []), (17, [])])
 | _ => ([], [])
theorem Tryz.ord187_5 : Tryz.ord187 5 = ([0, 0, 3, 7, 15, 15, 63, 127, 15, 15, 527, 1807, 3855, 8191, 16383, 32767], [(0, []), (1, []), (2, []), (3, []), (4, []), (5, []), (6, []), (7, []), (8, []), (9, []), (10, []), (11, []), (12, []), (13, []), (14, []), (15, [])]) := rfl
theorem Tryz.ord187_11 : Tryz.ord187 11 = ([0, 0, 0, 0, 8, 0, 0, 64, 224, 480, 0, 0, 3072, 7168, 16355, 32739, 65535, 131071], [(0, []), (1, []), (2, []), (3, []), (4, []), (5, []), (6, []), (7, []), (8, []), (9, []), (10, []), (11, []), (12, []), (13, []), (14, []), (15, []), (16, []), (17, [])]) := rfl
theorem Tryz.ord187_16 : Tryz.ord187 16 = ([0, 0, 3, 7, 0, 0, 32, 112, 240, 511, 1023], [(0, []), (1, []), (2, []), (3, []), (4, []), (5, []), (6, []), (7, []), (8, []), (9, []), (10, [])]) := rfl
theorem Tryz.ord187_17 : Tryz.ord187 17 = ([0, 0, 0, 0, 8, 0, 0, 64, 224, 480, 0, 0, 3072, 7168, 16355, 32739, 65535, 131071], [(0, []), (1, []), (2, []), (3, []), (4, []), (5, []), (6, []), (7, []), (8, []), (9, []), (10, []), (11, []), (12, []), (13, []), (14, []), (15, []), (16, []), (17, [])]) := rfl
theorem Tryz.ord187_22 : Tryz.ord187 22 = ([0, 0, 3, 7, 0, 0, 32, 112, 240, 511, 1023], [(0, []), (1, []), (2, []), (3, []), (4, []), (5, []), (6, []), (7, []), (8, []), (9, []), (10, [])]) := rfl
theorem Tryz.ord187_23 : Tryz.ord187 23 = ([0, 0, 0, 0, 8, 0, 0, 64, 224, 480, 0, 0, 3072, 7168, 16355, 32739, 65535, 131071], [(0, []), (1, []), (2, []), (3, []), (4, []), (5, []), (6, []), (7, []), (8, []), (9, []), (10, []), (11, []), (12, []), (13, []), (14, []), (15, []), (16, []), (17, [])]) := rfl
def Tryz.ord210 : Nat → List Nat × List (Nat × List Nat)
 | 4 => ([0, 0, 3, 7, 15, 15, 15, 111, 239, 15, 15, 1039, 3599, 7695, 16383, 32767, 65535], [(0, []), (1, []), (2, []), (3, []), (4, []), (5, []), (6, []), (7, []), (8, []), (9, []), (10, []), (11, []), (12, []), (13, []), (14, []), (15, []), (16, [])])
 | 6 => ([0, 0, 0, 0, 8, 0, 0, 64, 224, 480, 0, 0, 3072, 7168, 16355, 32739, 65535, 131071], [(0, []), (1, []), (2, []), (3, []), (4, []), (5, []), (6, []), (7, []), (8, []), (9, []), (10, []), (11, []), (12, []), (13, []), (14, []), (15, []), (16, []), (17, [])])
 | _ => ([], [])
theorem Tryz.ord210_4 : Tryz.ord210 4 = ([0, 0, 3, 7, 15, 15, 15, 111, 239, 15, 15, 1039, 3599, 7695, 16383, 32767, 65535], [(0, []), (1, []), (2, []), (3, []), (4, []), (5, []), (6, []), (7, []), (8, []), (9, []), (10, []), (11, []), (12, []), (13, []), (14, []), (15, []), (16, [])]) := rfl
theorem Tryz.ord210_6 : Tryz.ord210 6 = ([0, 0, 0, 0, 8, 0, 0, 64, 224, 480, 0, 0, 3072, 7168, 16355, 32739, 65535, 131071], [(0, []), (1, []), (2, []), (3, []), (4, []), (5, []), (6, []), (7, []), (8, []), (9, []), (10, []), (11, []), (12, []), (13, []), (14, []), (15, []), (16, []), (17, [])]) := rfl
def Tryz.ord229 : Nat → List Nat × List (Nat × List Nat)
 | 1 => ([0, 1, 3, 7, 15, 0, 32, 96, 255, 511], [(0, []), (1, []), (2, []), (3, []), (4, []), (5, []), (6, []), (7, []), (8, []), (9, [])])
 | _ => ([], [])
theorem Tryz.ord229_1 : Tryz.ord229 1 = ([0, 1, 3, 7, 15, 0, 32, 96, 255, 511], [(0, []), (1, []), (2, []), (3, []), (4, []), (5, []), (6, []), (7, []), (8, []), (9, [])]) := rfl
def Tryz.ord230 : Nat → List Nat × List (Nat × List Nat)
 | 1 => ([0, 1, 3, 0, 8, 24, 63, 0, 128, 384, 0, 1024, 3072, 8064, 16383, 32767], [(0, []), (1, []), (2, []), (3, []), (4, []), (5, []), (6, []), (7, []), (8, []), (9, []), (10, []), (11, []), (12, []), (13, []), (14, []), (15, [])])
 | _ => ([], [])
theorem Tryz.ord230_1 : Tryz.ord230 1 = ([0, 1, 3, 0, 8, 24, 63, 0, 128, 384, 0, 1024, 3072, 8064, 16383, 32767], [(0, []), (1, []), (2, []), (3, []), (4, []), (5, []), (6, []), (7, []), (8, []), (9, []), (10, []), (11, []), (12, []), (13, []), (14, []), (15, [])]) := rfl
def Tryz.ord236 : Nat → List Nat × List (Nat × List Nat)
 | 1 => ([0, 0, 3, 7, 0, 0, 48, 112, 255], [(0, []), (1, []), (2, []), (3, []), (4, []), (5, []), (6, []), (7, []), (8, [])])
 | _ => ([], [])
theorem Tryz.ord236_1 : Tryz.ord236 1 = ([0, 0, 3, 7, 0, 0, 48, 112, 255], [(0, []), (1, []), (2, []), (3, []), (4, []), (5, []), (6, []), (7, []), (8, [])]) := rfl
def Tryz.ord257 : Nat → List Nat × List (Nat × List Nat)
 | 1 => ([0, 0, 2, 6, 0, 16, 48, 127, 0, 256, 768, 2047, 0, 4096, 12288, 28672, 61440, 0, 131072, 393216, 917504, 1966080, 4194303, 8388607], [(0, []), (1, []), (2, []), (3, []), (4, []), (5, []), (6, []), (8, []), (9, []), (10, []), (12, []), (13, []), (14, []), (15, []), (16, []), (17, []), (18, []), (19, []), (20, []), (21, []), (7, [10, 15, 20]), (11, []), (22, []), (23, [])])
 | _ => ([], [])
theorem Tryz.ord257_1 : Tryz.ord257 1 = ([0, 0, 2, 6, 0, 16, 48, 127, 0, 256, 768, 2047, 0, 4096, 12288, 28672, 61440, 0, 131072, 393216, 917504, 1966080, 4194303, 8388607], [(0, []), (1, []), (2, []), (3, []), (4, []), (5, []), (6, []), (8, []), (9, []), (10, []), (12, []), (13, []), (14, []), (15, []), (16, []), (17, []), (18, []), (19, []), (20, []), (21, []), (7, [10, 15, 20]), (11, []), (22, []), (23, [])]) := rfl
def Tryz.ord258 : Nat → List Nat × List (Nat × List Nat)
 | 1 => ([0, 1, 3, 7, 15, 0, 32, 96, 224, 480, 1023, 2047], [(0, []), (1, []), (2, []), (3, []), (4, []), (5, []), (6, []), (7, []), (8, []), (9, []), (10, []), (11, [])])
 | _ => ([], [])
theorem Tryz.ord258_1 : Tryz.ord258 1 = ([0, 1, 3, 7, 15, 0, 32, 96, 224, 480, 1023, 2047], [(0, []), (1, []), (2, []), (3, []), (4, []), (5, []), (6, []), (7, []), (8, []), (9, []), (10, []), (11, [])]) := rfl
end Go.Proofs
set_option linter.unusedVariables false
namespace Go.Proofs
def Tryz.kp3 (t : Nat) : Bool := if t < 1 then true else if t < 2 then false else if t < 5 then true else if t < 6 then false else if t < 13 then true else if t < 14 then false else if t < 15 then true else if t < 23 then false else if t < 24 then true else if t < 65 then false else if t < 66 then true else if t < 69 then false else if t < 70 then true else if t < 75 then false else if t < 76 then true else if t < 84 then false else if t < 85 then true else if t < 119 then false else if t < 120 then true else false
def Tryz.kp19 (t : Nat) : Bool := if t < 1 then true else if t < 2 then false else if t < 5 then true else if t < 10 then false else if t < 11 then true else false
def Tryz.kp20 (t : Nat) : Bool := if t < 4 then true else if t < 8 then false else if t < 18 then true else if t < 39 then false else if t < 40 then true else if t < 43 then false else if t < 44 then true else if t < 61 then false else if t < 62 then true else if t < 81 then false else if t < 82 then true else false
def Tryz.kp21 (t : Nat) : Bool := if t < 3 then true else if t < 6 then false else if t < 7 then true else false
def Tryz.kp22 (t : Nat) : Bool := if t < 4 then true else if t < 5 then false else if t < 7 then true else if t < 14 then false else if t < 15 then true else false
def Tryz.kp23 (t : Nat) : Bool := if t < 8 then true else if t < 14 then false else if t < 15 then true else if t < 17 then false else if t < 20 then true else if t < 23 then false else if t < 24 then true else if t < 27 then false else if t < 28 then true else if t < 34 then false else if t < 35 then true else false
def Tryz.kp24 (t : Nat) : Bool := if t < 2 then true else if t < 4 then false else if t < 6 then true else if t < 9 then false else if t < 10 then true else if t < 17 then false else if t < 18 then true else false
def Tryz.kp25 (t : Nat) : Bool := if t < 3 then true else if t < 4 then false else if t < 6 then true else if t < 7 then false else if t < 11 then true else if t < 22 then false else if t < 23 then true else if t < 25 then false else if t < 26 then true else if t < 27 then false else if t < 28 then true else if t < 33 then false else if t < 34 then true else if t < 42 then false else if t < 43 then true else false
def Tryz.kp26 (t : Nat) : Bool := if t < 11 then true else false
def Tryz.kp33 (t : Nat) : Bool := if t < 5 then true else if t < 8 then false else if t < 15 then true else if t < 19 then false else if t < 20 then true else if t < 32 then false else if t < 33 then true else false
def Tryz.kp35 (t : Nat) : Bool := if t < 4 then true else if t < 6 then false else if t < 13 then true else if t < 14 then false else if t < 16 then true else if t < 17 then false else if t < 18 then true else if t < 30 then false else if t < 31 then true else if t < 33 then false else if t < 37 then true else if t < 42 then false else if t < 43 then true else if t < 49 then false else if t < 50 then true else if t < 66 then false else if t < 67 then true else false
def Tryz.kp38 (t : Nat) : Bool := if t < 2 then true else if t < 4 then false else if t < 5 then true else if t < 6 then false else if t < 7 then true else false
def Tryz.kp39 (t : Nat) : Bool := if t < 2 then true else if t < 4 then false else if t < 5 then true else if t < 7 then false else if t < 8 then true else false
def Tryz.kp50 (t : Nat) : Bool := if t < 2 then true else if t < 4 then false else if t < 7 then true else if t < 18 then false else if t < 19 then true else false
def Tryz.kp51 (t : Nat) : Bool := if t < 2 then true else if t < 4 then false else if t < 7 then true else if t < 18 then false else if t < 19 then true else false
def Tryz.kp60 (t : Nat) : Bool := if t < 2 then true else if t < 4 then false else if t < 5 then true else false
def Tryz.kp61 (t : Nat) : Bool := if t < 3 then true else if t < 6 then false else if t < 7 then true else false
def Tryz.kp63 (t : Nat) : Bool := if t < 5 then true else if t < 10 then false else if t < 11 then true else false
def Tryz.kp64 (t : Nat) : Bool := if t < 4 then true else if t < 5 then false else if t < 7 then true else if t < 8 then false else if t < 13 then true else if t < 50 then false else if t < 51 then true else if t < 61 then false else if t < 62 then true else false
def Tryz.kp69 (t : Nat) : Bool := if t < 6 then true else if t < 8 then false else if t < 11 then true else if t < 15 then false else if t < 16 then true else if t < 35 then false else if t < 36 then true else false
def Tryz.kp84 (t : Nat) : Bool := if t < 3 then true else if t < 4 then false else if t < 9 then true else if t < 10 then false else if t < 12 then true else if t < 18 then false else if t < 19 then true else if t < 21 then false else if t < 25 then true else if t < 28 then false else if t < 29 then true else if t < 36 then false else if t < 37 then true else false
def Tryz.kp85 (t : Nat) : Bool := if t < 1 then true else if t < 2 then false else if t < 7 then true else if t < 9 then false else if t < 10 then true else if t < 11 then false else if t < 12 then true else if t < 19 then false else if t < 20 then true else false
def Tryz.kp86 (t : Nat) : Bool := if t < 2 then true else if t < 4 then false else if t < 6 then true else if t < 7 then false else if t < 12 then true else if t < 16 then false else if t < 17 then true else false
def Tryz.kp87 (t : Nat) : Bool := if t < 3 then true else if t < 4 then false else if t < 5 then true else if t < 10 then false else if t < 11 then true else false
def Tryz.kp88 (t : Nat) : Bool := if t < 1 then true else if t < 2 then false else if t < 3 then true else false
def Tryz.kp89 (t : Nat) : Bool := if t < 1 then true else if t < 2 then false else if t < 6 then true else if t < 8 then false else if t < 9 then true else if t < 13 then false else if t < 14 then true else if t < 25 then false else if t < 26 then true else if t < 32 then false else if t < 33 then true else if t < 44 then false else if t < 45 then true else false
def Tryz.kp90 (t : Nat) : Bool := if t < 2 then true else false
def Tryz.kp91 (t : Nat) : Bool := if t < 1 then true else false
def Tryz.kp93 (t : Nat) : Bool := if t < 1 then true else if t < 2 then false else if t < 3 then true else if t < 5 then false else if t < 6 then true else false
def Tryz.kp94 (t : Nat) : Bool := if t < 5 then true else if t < 8 then false else if t < 12 then true else if t < 18 then false else if t < 19 then true else if t < 20 then false else if t < 21 then true else false
def Tryz.kp99 (t : Nat) : Bool := if t < 3 then true else if t < 6 then false else if t < 7 then true else false
def Tryz.kp102 (t : Nat) : Bool := if t < 1 then true else if t < 2 then false else if t < 4 then true else false
def Tryz.kp103 (t : Nat) : Bool := if t < 7 then true else if t < 10 then false else if t < 11 then true else false
def Tryz.kp106 (t : Nat) : Bool := if t < 2 then true else if t < 4 then false else if t < 5 then true else false
def Tryz.kp107 (t : Nat) : Bool := if t < 3 then true else if t < 4 then false else if t < 7 then true else if t < 9 then false else if t < 11 then true else if t < 13 then false else if t < 14 then true else false
def Tryz.kp111 (t : Nat) : Bool := if t < 6 then true else if t < 8 then false else if t < 11 then true else if t < 25 then false else if t < 26 then true else false
def Tryz.kp112 (t : Nat) : Bool := if t < 1 then true else if t < 2 then false else if t < 6 then true else if t < 8 then false else if t < 10 then true else if t < 13 then false else if t < 14 then true else false
def Tryz.kp117 (t : Nat) : Bool := if t < 3 then true else if t < 4 then false else if t < 11 then true else if t < 15 then false else if t < 16 then true else if t < 22 then false else if t < 23 then true else if t < 31 then false else if t < 32 then true else if t < 37 then false else if t < 38 then true else if t < 45 then false else if t < 48 then true else false
def Tryz.kp122 (t : Nat) : Bool := if t < 5 then true else if t < 10 then false else if t < 11 then true else false
def Tryz.kp123 (t : Nat) : Bool := if t < 6 then true else if t < 9 then false else if t < 10 then true else if t < 16 then false else if t < 17 then true else false
def Tryz.kp126 (t : Nat) : Bool := if t < 3 then true else if t < 4 then false else if t < 10 then true else if t < 11 then false else if t < 13 then true else if t < 22 then false else if t < 23 then true else if t < 25 then false else if t < 29 then true else if t < 37 then false else if t < 38 then true else false
def Tryz.kp127 (t : Nat) : Bool := if t < 3 then true else if t < 4 then false else if t < 5 then true else if t < 6 then false else if t < 9 then true else if t < 13 then false else if t < 14 then true else if t < 18 then false else if t < 19 then true else if t < 24 then false else if t < 28 then true else if t < 30 then false else if t < 31 then true else if t < 39 then false else if t < 40 then true else if t < 45 then false else if t < 46 then true else if t < 56 then false else if t < 57 then true else if t < 58 then false else if t < 62 then true else if t < 70 then false else if t < 71 then true else false
def Tryz.kp128 (t : Nat) : Bool := if t < 3 then true else if t < 4 then false else if t < 9 then true else if t < 13 then false else if t < 14 then true else if t < 20 then false else if t < 21 then true else if t < 29 then false else if t < 30 then true else if t < 41 then false else if t < 42 then true else if t < 54 then false else if t < 56 then true else if t < 74 then false else if t < 75 then true else false
def Tryz.kp136 (t : Nat) : Bool := if t < 6 then true else if t < 7 then false else if t < 8 then true else if t < 12 then false else if t < 15 then true else if t < 19 then false else if t < 22 then true else if t < 26 then false else if t < 27 then true else if t < 29 then false else if t < 33 then true else if t < 41 then false else if t < 42 then true else false
def Tryz.kp137 (t : Nat) : Bool := if t < 6 then true else if t < 8 then false else if t < 9 then true else if t < 10 then false else if t < 13 then true else if t < 16 then false else if t < 17 then true else false
def Tryz.kp138 (t : Nat) : Bool := if t < 2 then true else if t < 4 then false else if t < 5 then true else false
def Tryz.kp139 (t : Nat) : Bool := if t < 2 then true else if t < 4 then false else if t < 13 then true else if t < 19 then false else if t < 20 then true else if t < 28 then false else if t < 29 then true else if t < 35 then false else if t < 36 then true else false
def Tryz.kp140 (t : Nat) : Bool := if t < 2 then true else if t < 4 then false else if t < 5 then true else false
def Tryz.kp141 (t : Nat) : Bool := if t < 4 then true else if t < 8 then false else if t < 19 then true else if t < 23 then false else if t < 24 then true else if t < 29 then false else if t < 30 then true else if t < 35 then false else if t < 36 then true else if t < 50 then false else if t < 51 then true else if t < 68 then false else if t < 69 then true else if t < 72 then false else if t < 73 then true else if t < 87 then false else if t < 88 then true else if t < 113 then false else if t < 114 then true else false
def Tryz.kp142 (t : Nat) : Bool := if t < 1 then true else if t < 2 then false else if t < 3 then true else false
def Tryz.kp144 (t : Nat) : Bool := if t < 4 then true else if t < 6 then false else if t < 8 then true else if t < 9 then false else if t < 10 then true else if t < 12 then false else if t < 16 then true else if t < 27 then false else if t < 28 then true else false
def Tryz.kp146 (t : Nat) : Bool := if t < 4 then true else if t < 5 then false else if t < 7 then true else if t < 31 then false else if t < 32 then true else if t < 39 then false else if t < 40 then true else if t < 45 then false else if t < 49 then true else if t < 51 then false else if t < 52 then true else if t < 59 then false else if t < 60 then true else if t < 68 then false else if t < 69 then true else false
def Tryz.kp147 (t : Nat) : Bool := if t < 10 then true else if t < 15 then false else if t < 19 then true else if t < 34 then false else if t < 37 then true else if t < 54 then false else if t < 55 then true else false
def Tryz.kp150 (t : Nat) : Bool := if t < 5 then true else false
def Tryz.kp151 (t : Nat) : Bool := if t < 7 then true else if t < 10 then false else if t < 13 then true else if t < 16 then false else if t < 19 then true else if t < 24 then false else if t < 25 then true else false
def Tryz.kp155 (t : Nat) : Bool := if t < 2 then true else if t < 4 then false else if t < 5 then true else false
def Tryz.kp156 (t : Nat) : Bool := if t < 3 then true else if t < 4 then false else if t < 5 then true else false
def Tryz.kp157 (t : Nat) : Bool := if t < 2 then true else if t < 4 then false else if t < 5 then true else false
def Tryz.kp158 (t : Nat) : Bool := if t < 1 then true else if t < 2 then false else if t < 3 then true else false
def Tryz.kp159 (t : Nat) : Bool := if t < 4 then true else if t < 5 then false else if t < 6 then true else if t < 7 then false else if t < 11 then true else false
def Tryz.kp160 (t : Nat) : Bool := if t < 3 then true else if t < 4 then false else if t < 7 then true else if t < 10 then false else if t < 11 then true else if t < 13 then false else if t < 14 then true else false
def Tryz.kp161 (t : Nat) : Bool := if t < 3 then true else if t < 4 then false else if t < 5 then true else if t < 11 then false else if t < 12 then true else false
def Tryz.kp162 (t : Nat) : Bool := if t < 3 then true else if t < 6 then false else if t < 7 then true else false
def Tryz.kp169 (t : Nat) : Bool := if t < 3 then true else if t < 4 then false else if t < 5 then true else if t < 6 then false else if t < 8 then true else if t < 13 then false else if t < 14 then true else false
def Tryz.kp178 (t : Nat) : Bool := if t < 1 then true else if t < 2 then false else if t < 3 then true else false
def Tryz.kp179 (t : Nat) : Bool := if t < 5 then true else if t < 10 then false else if t < 21 then true else if t < 25 then false else if t < 26 then true else if t < 32 then false else if t < 33 then true else if t < 39 then false else if t < 40 then true else if t < 56 then false else if t < 57 then true else if t < 75 then false else if t < 76 then true else if t < 80 then false else if t < 81 then true else if t < 97 then false else if t < 98 then true else if t < 125 then false else if t < 126 then true else false
def Tryz.kp180 (t : Nat) : Bool := if t < 2 then true else if t < 4 then false else if t < 7 then true else if t < 11 then false else if t < 14 then true else if t < 16 then false else if t < 17 then true else if t < 19 then false else if t < 20 then true else false
def Tryz.kp181 (t : Nat) : Bool := if t < 2 then true else if t < 4 then false else if t < 6 then true else if t < 7 then false else if t < 10 then true else if t < 16 then false else if t < 17 then true else false
def Tryz.kp182 (t : Nat) : Bool := if t < 3 then true else if t < 6 then false else if t < 8 then true else if t < 12 then false else if t < 13 then true else if t < 30 then false else if t < 31 then true else false
def Tryz.kp185 (t : Nat) : Bool := if t < 3 then true else if t < 6 then false else if t < 13 then true else if t < 32 then false else if t < 33 then true else if t < 34 then false else if t < 35 then true else if t < 49 then false else if t < 50 then true else if t < 51 then false else if t < 52 then true else if t < 54 then false else if t < 55 then true else false
def Tryz.kp187 (t : Nat) : Bool := if t < 3 then true else if t < 6 then false else if t < 11 then true else if t < 14 then false else if t < 15 then true else if t < 32 then false else if t < 33 then true else if t < 37 then false else if t < 38 then true else if t < 41 then false else if t < 42 then true else if t < 61 then false else if t < 62 then true else if t < 65 then false else if t < 66 then true else if t < 78 then false else if t < 79 then true else if t < 98 then false else if t < 99 then true else if t < 103 then false else if t < 104 then true else if t < 116 then false else if t < 117 then true else false
def Tryz.kp188 (t : Nat) : Bool := if t < 2 then true else if t < 4 then false else if t < 5 then true else false
def Tryz.kp192 (t : Nat) : Bool := if t < 1 then true else if t < 2 then false else if t < 3 then true else if t < 4 then false else if t < 5 then true else if t < 8 then false else if t < 9 then true else if t < 14 then false else if t < 15 then true else false
def Tryz.kp193 (t : Nat) : Bool := if t < 6 then true else false
def Tryz.kp199 (t : Nat) : Bool := if t < 5 then true else false
def Tryz.kp200 (t : Nat) : Bool := if t < 7 then true else if t < 8 then false else if t < 10 then true else if t < 14 then false else if t < 15 then true else if t < 21 then false else if t < 22 then true else if t < 36 then false else if t < 37 then true else if t < 51 then false else if t < 52 then true else false
def Tryz.kp201 (t : Nat) : Bool := if t < 2 then true else if t < 4 then false else if t < 6 then true else if t < 7 then false else if t < 10 then true else if t < 16 then false else if t < 17 then true else false
def Tryz.kp202 (t : Nat) : Bool := if t < 3 then true else if t < 4 then false else if t < 8 then true else false
def Tryz.kp203 (t : Nat) : Bool := if t < 5 then true else false
def Tryz.kp204 (t : Nat) : Bool := if t < 7 then true else if t < 8 then false else if t < 9 then true else if t < 10 then false else if t < 12 then true else if t < 16 then false else if t < 21 then true else if t < 26 then false else if t < 27 then true else if t < 44 then false else if t < 45 then true else if t < 55 then false else if t < 56 then true else false
def Tryz.kp209 (t : Nat) : Bool := if t < 1 then true else if t < 2 then false else if t < 3 then true else false
def Tryz.kp210 (t : Nat) : Bool := if t < 4 then true else if t < 8 then false else if t < 10 then true else if t < 14 then false else if t < 15 then true else if t < 34 then false else if t < 35 then true else false
def Tryz.kp218 (t : Nat) : Bool := if t < 1 then true else if t < 2 then false else if t < 3 then true else false
def Tryz.kp223 (t : Nat) : Bool := if t < 5 then true else if t < 10 then false else if t < 11 then true else false
def Tryz.kp229 (t : Nat) : Bool := if t < 6 then true else false
def Tryz.kp230 (t : Nat) : Bool := if t < 4 then true else if t < 6 then false else if t < 7 then true else false
def Tryz.kp232 (t : Nat) : Bool := if t < 1 then true else if t < 2 then false else if t < 3 then true else false
def Tryz.kp236 (t : Nat) : Bool := if t < 4 then true else if t < 8 then false else if t < 10 then true else if t < 18 then false else if t < 19 then true else false
def Tryz.kp257 (t : Nat) : Bool := if t < 5 then true else false
def Tryz.kp258 (t : Nat) : Bool := if t < 5 then true else false
end Go.Proofs
set_option linter.unusedSimpArgs false
namespace Go.Proofs
open Go Go.Mu
theorem agg_len6 {xs : List Int} (h : xs.length = 6) : ∃ x1 x2 x3 x4 x5 x6, xs = [x1, x2, x3, x4, x5, x6] := by
 match xs, h with
 | [x1, x2, x3, x4, x5, x6], _ => exact ⟨x1, x2, x3, x4, x5, x6, rfl⟩
theorem agg_len5 {xs : List Int} (h : xs.length = 5) : ∃ x1 x2 x3 x4 x5, xs = [x1, x2, x3, x4, x5] := by
 match xs, h with
 | [x1, x2, x3, x4, x5], _ => exact ⟨x1, x2, x3, x4, x5, rfl⟩
theorem agg_len4 {xs : List Int} (h : xs.length = 4) : ∃ x1 x2 x3 x4, xs = [x1, x2, x3, x4] := by
 match xs, h with
 | [x1, x2, x3, x4], _ => exact ⟨x1, x2, x3, x4, rfl⟩
theorem agg_len2 {xs : List Int} (h : xs.length = 2) : ∃ x1 x2, xs = [x1, x2] := by
 match xs, h with
 | [x1, x2], _ => exact ⟨x1, x2, rfl⟩
theorem Tryz.ck3r (e : Bool) (d : Nat) (x : Int) (w : World) : (Instr.checkKey e (d + 1) 3 (.int .i64 x)).run Tryz.prog w = .ok () w := by
 have hu : ∀ w, (underlying 3).run Tryz.prog w = .ok (.int .i64) w := fun w => run_underlying Tryz.underlying3 w
 simp only [Instr.checkKey, Sem.run_bind, hu, Result.andThen_ok, Sem.run_pure]
theorem Tryz.eq26r (d : Nat) (a1 a2 b1 b2 : Int) (w : World) : (Op.equalIn (d + 2) 26 (.agg #[.int .i64 a1, .int .i64 a2]) (.agg #[.int .i64 b1, .int .i64 b2])).run Tryz.prog w = .ok (a1 == b1 && (a2 == b2)) w := by
 rw [run_equalIn_struct w (d + 1) 26 _ _ (by simp only [Program.fieldsOf, Tryz.underlying26]) (by kernel_rfl)]
 simp only [Program.fieldsOf, Tryz.underlying26]
 have ha3 : ∀ w, (isAgg 3).run Tryz.prog w = .ok false w := fun w => run_agg (ty := Tryz.ty) Tryz.tysOK (by rw [Tryz.ty3]; rfl) w
 have hs3 : ∀ w, (Go.sizeOf 3).run Tryz.prog w = .ok 1 w := fun w => run_size (ty := Tryz.ty) Tryz.tysOK (by rw [Tryz.ty3]; simp) w
 by_cases h1 : a1 = b1 <;> by_cases h2 : a2 = b2 <;> simp [Op.eqFields, part, ha3, hs3, run_equalIn_int _ _ _ _ _ _ _ Tryz.underlying3, h1, h2]
theorem Tryz.ck26r (e : Bool) (d : Nat) (a1 a2 : Int) (w : World) : (Instr.checkKey e (d + 2) 26 (.agg #[.int .i64 a1, .int .i64 a2])).run Tryz.prog w = .ok () w := by
 have hu := fun w => run_underlying Tryz.underlying26 w
 have ha3 : ∀ w, (isAgg 3).run Tryz.prog w = .ok false w := fun w => run_agg (ty := Tryz.ty) Tryz.tysOK (by rw [Tryz.ty3]; rfl) w
 have hs3 : ∀ w, (Go.sizeOf 3).run Tryz.prog w = .ok 1 w := fun w => run_size (ty := Tryz.ty) Tryz.tysOK (by rw [Tryz.ty3]; simp) w
 rw [show d + 2 = (d + 1) + 1 from rfl, Instr.checkKey]
 simp [hu, Std.Legacy.Range.forIn_eq_forIn_range', Std.Legacy.Range.size, List.range', part, ha3, hs3, Tryz.ck3r]
theorem Tryz.eq67r (d : Nat) (a1 a2 b1 b2 : Int) (w : World) : (Op.equalIn (d + 2) 67 (.agg #[.int .i64 a1, .int .i64 a2]) (.agg #[.int .i64 b1, .int .i64 b2])).run Tryz.prog w = .ok (a1 == b1 && (a2 == b2)) w := by
 rw [run_equalIn_struct w (d + 1) 67 _ _ (by simp only [Program.fieldsOf, Tryz.underlying67]) (by kernel_rfl)]
 simp only [Program.fieldsOf, Tryz.underlying67]
 have ha3 : ∀ w, (isAgg 3).run Tryz.prog w = .ok false w := fun w => run_agg (ty := Tryz.ty) Tryz.tysOK (by rw [Tryz.ty3]; rfl) w
 have hs3 : ∀ w, (Go.sizeOf 3).run Tryz.prog w = .ok 1 w := fun w => run_size (ty := Tryz.ty) Tryz.tysOK (by rw [Tryz.ty3]; simp) w
 by_cases h1 : a1 = b1 <;> by_cases h2 : a2 = b2 <;> simp [Op.eqFields, part, ha3, hs3, run_equalIn_int _ _ _ _ _ _ _ Tryz.underlying3, h1, h2]
set_option maxHeartbeats 4000000 in
theorem Tryz.eq105r (d : Nat) (a1 a2 a3 a4 a5 a6 b1 b2 b3 b4 b5 b6 : Int) (w : World) : (Op.equalIn (d + 3) 105 (.agg #[.int .i64 a1, .int .i64 a2, .int .i64 a3, .int .i64 a4, .int .i64 a5, .int .i64 a6]) (.agg #[.int .i64 b1, .int .i64 b2, .int .i64 b3, .int .i64 b4, .int .i64 b5, .int .i64 b6])).run Tryz.prog w = .ok (a1 == b1 && (a2 == b2 && (a3 == b3 && (a4 == b4 && (a5 == b5 && (a6 == b6)))))) w := by
 rw [run_equalIn_struct w (d + 2) 105 _ _ (by simp only [Program.fieldsOf, Tryz.underlying105]) (by kernel_rfl)]
 simp only [Program.fieldsOf, Tryz.underlying105]
 have ha3 : ∀ w, (isAgg 3).run Tryz.prog w = .ok false w := fun w => run_agg (ty := Tryz.ty) Tryz.tysOK (by rw [Tryz.ty3]; rfl) w
 have hs3 : ∀ w, (Go.sizeOf 3).run Tryz.prog w = .ok 1 w := fun w => run_size (ty := Tryz.ty) Tryz.tysOK (by rw [Tryz.ty3]; simp) w
 have ha26 : ∀ w, (isAgg 26).run Tryz.prog w = .ok true w := fun w => run_agg (ty := Tryz.ty) Tryz.tysOK (by rw [Tryz.ty26]; rfl) w
 have hs26 : ∀ w, (Go.sizeOf 26).run Tryz.prog w = .ok 2 w := fun w => run_size (ty := Tryz.ty) Tryz.tysOK (by rw [Tryz.ty26]; simp) w
 by_cases h1 : a1 = b1 <;> by_cases h2 : a2 = b2 <;> by_cases h3 : a3 = b3 <;> by_cases h4 : a4 = b4 <;> by_cases h5 : a5 = b5 <;> by_cases h6 : a6 = b6 <;> simp [Op.eqFields, part, ha3, ha26, hs3, hs26, run_equalIn_int _ _ _ _ _ _ _ Tryz.underlying3, Tryz.eq26r, h1, h2, h3, h4, h5, h6]
set_option maxHeartbeats 4000000 in
theorem Tryz.eq127r (d : Nat) (a1 a2 a3 a4 b1 b2 b3 b4 : Int) (w : World) : (Op.equalIn (d + 2) 127 (.agg #[.int .i64 a1, .int .i64 a2, .int .i64 a3, .int .i64 a4]) (.agg #[.int .i64 b1, .int .i64 b2, .int .i64 b3, .int .i64 b4])).run Tryz.prog w = .ok (a1 == b1 && (a2 == b2 && (a3 == b3 && (a4 == b4)))) w := by
 have hu : ∀ w, (underlying 127).run Tryz.prog w = .ok (.array 4 3) w := fun w => run_underlying Tryz.underlying127 w
 have ha3 : ∀ w, (isAgg 3).run Tryz.prog w = .ok false w := fun w => run_agg (ty := Tryz.ty) Tryz.tysOK (by rw [Tryz.ty3]; rfl) w
 have hs3 : ∀ w, (Go.sizeOf 3).run Tryz.prog w = .ok 1 w := fun w => run_size (ty := Tryz.ty) Tryz.tysOK (by rw [Tryz.ty3]; simp) w
 rw [show d + 2 = (d + 1) + 1 from rfl, Op.equalIn]
 by_cases h1 : a1 = b1 <;> by_cases h2 : a2 = b2 <;> by_cases h3 : a3 = b3 <;> by_cases h4 : a4 = b4 <;> simp [hu, Std.Legacy.Range.forIn_eq_forIn_range', Std.Legacy.Range.size, List.range', part, ha3, hs3, run_equalIn_int _ _ _ _ _ _ _ Tryz.underlying3, h1, h2, h3, h4]
set_option maxHeartbeats 4000000 in
theorem Tryz.ck127r (e : Bool) (d : Nat) (a1 a2 a3 a4 : Int) (w : World) : (Instr.checkKey e (d + 2) 127 (.agg #[.int .i64 a1, .int .i64 a2, .int .i64 a3, .int .i64 a4])).run Tryz.prog w = .ok () w := by
 have hu := fun w => run_underlying Tryz.underlying127 w
 have ha3 : ∀ w, (isAgg 3).run Tryz.prog w = .ok false w := fun w => run_agg (ty := Tryz.ty) Tryz.tysOK (by rw [Tryz.ty3]; rfl) w
 have hs3 : ∀ w, (Go.sizeOf 3).run Tryz.prog w = .ok 1 w := fun w => run_size (ty := Tryz.ty) Tryz.tysOK (by rw [Tryz.ty3]; simp) w
 rw [show d + 2 = (d + 1) + 1 from rfl, Instr.checkKey]
 simp [hu, Std.Legacy.Range.forIn_eq_forIn_range', Std.Legacy.Range.size, List.range', part, ha3, hs3, Tryz.ck3r]
set_option maxHeartbeats 4000000 in
theorem Tryz.eq210r (d : Nat) (a1 a2 a3 a4 a5 b1 b2 b3 b4 b5 : Int) (w : World) : (Op.equalIn (d + 3) 210 (.agg #[.int .i64 a1, .int .i64 a2, .int .i64 a3, .int .i64 a4, .int .i64 a5]) (.agg #[.int .i64 b1, .int .i64 b2, .int .i64 b3, .int .i64 b4, .int .i64 b5])).run Tryz.prog w = .ok (a1 == b1 && (a2 == b2 && (a3 == b3 && (a4 == b4 && (a5 == b5))))) w := by
 rw [run_equalIn_struct w (d + 2) 210 _ _ (by simp only [Program.fieldsOf, Tryz.underlying210]) (by kernel_rfl)]
 simp only [Program.fieldsOf, Tryz.underlying210]
 have ha3 : ∀ w, (isAgg 3).run Tryz.prog w = .ok false w := fun w => run_agg (ty := Tryz.ty) Tryz.tysOK (by rw [Tryz.ty3]; rfl) w
 have hs3 : ∀ w, (Go.sizeOf 3).run Tryz.prog w = .ok 1 w := fun w => run_size (ty := Tryz.ty) Tryz.tysOK (by rw [Tryz.ty3]; simp) w
 have ha26 : ∀ w, (isAgg 26).run Tryz.prog w = .ok true w := fun w => run_agg (ty := Tryz.ty) Tryz.tysOK (by rw [Tryz.ty26]; rfl) w
 have hs26 : ∀ w, (Go.sizeOf 26).run Tryz.prog w = .ok 2 w := fun w => run_size (ty := Tryz.ty) Tryz.tysOK (by rw [Tryz.ty26]; simp) w
 by_cases h1 : a1 = b1 <;> by_cases h2 : a2 = b2 <;> by_cases h3 : a3 = b3 <;> by_cases h4 : a4 = b4 <;> by_cases h5 : a5 = b5 <;> simp [Op.eqFields, part, ha3, ha26, hs3, hs26, run_equalIn_int _ _ _ _ _ _ _ Tryz.underlying3, Tryz.eq26r, h1, h2, h3, h4, h5]
set_option maxHeartbeats 4000000 in
theorem Tryz.ck210r (e : Bool) (d : Nat) (a1 a2 a3 a4 a5 : Int) (w : World) : (Instr.checkKey e (d + 3) 210 (.agg #[.int .i64 a1, .int .i64 a2, .int .i64 a3, .int .i64 a4, .int .i64 a5])).run Tryz.prog w = .ok () w := by
 have hu := fun w => run_underlying Tryz.underlying210 w
 have ha3 : ∀ w, (isAgg 3).run Tryz.prog w = .ok false w := fun w => run_agg (ty := Tryz.ty) Tryz.tysOK (by rw [Tryz.ty3]; rfl) w
 have hs3 : ∀ w, (Go.sizeOf 3).run Tryz.prog w = .ok 1 w := fun w => run_size (ty := Tryz.ty) Tryz.tysOK (by rw [Tryz.ty3]; simp) w
 have ha26 : ∀ w, (isAgg 26).run Tryz.prog w = .ok true w := fun w => run_agg (ty := Tryz.ty) Tryz.tysOK (by rw [Tryz.ty26]; rfl) w
 have hs26 : ∀ w, (Go.sizeOf 26).run Tryz.prog w = .ok 2 w := fun w => run_size (ty := Tryz.ty) Tryz.tysOK (by rw [Tryz.ty26]; simp) w
 rw [show d + 3 = (d + 2) + 1 from rfl, Instr.checkKey]
 simp [hu, Std.Legacy.Range.forIn_eq_forIn_range', Std.Legacy.Range.size, List.range', part, ha3, ha26, hs3, hs26, Tryz.ck3r, Tryz.ck26r]
theorem Tryz.eqsOK : EqsOK Tryz.prog Tryz.ty := by
 have heqn : ∀ t, (Tryz.ty t).eqn = true → t = 26 ∨ t = 67 ∨ t = 105 ∨ t = 127 := by
  intro t ht
  unfold Tryz.ty tyOf at ht
  cases hf : Tryz.tyl.find? (fun p => p.1 == t) with
  | none => rw [hf] at ht; cases ht
  | some p =>
   have h1 := List.mem_of_find?_eq_some hf
   have h2 := List.find?_some hf
   simp at h2; subst h2
   rw [hf] at ht
   have h3 : (Tryz.tyl.all fun p => !p.2.eqn || (p.1 == 26 || p.1 == 67 || p.1 == 105 || p.1 == 127)) = true := rfl
   have h4 := List.all_eq_true.1 h3 p h1
   have ht' : p.2.eqn = true := ht
   simpa [ht', or_assoc] using h4
 have hkeyn : ∀ t, (Tryz.ty t).keyn = true → t = 127 ∨ t = 210 := by
  intro t ht
  unfold Tryz.ty tyOf at ht
  cases hf : Tryz.tyl.find? (fun p => p.1 == t) with
  | none => rw [hf] at ht; cases ht
  | some p =>
   have h1 := List.mem_of_find?_eq_some hf
   have h2 := List.find?_some hf
   simp at h2; subst h2
   rw [hf] at ht
   have h3 : (Tryz.tyl.all fun p => !p.2.keyn || (p.1 == 127 || p.1 == 210)) = true := rfl
   have h4 := List.all_eq_true.1 h3 p h1
   have ht' : p.2.keyn = true := ht
   simpa [ht', or_assoc] using h4
 refine ⟨fun t ht => ?_, fun t ht xs ys w h1 h2 => ?_, fun t ht => ?_, fun t ht xs ys w h1 h2 => ?_, fun t ht e xs w h1 => ?_⟩
 ·rcases heqn t ht with rfl | rfl | rfl | rfl <;> kernel_rfl
 ·rcases heqn t ht with rfl | rfl | rfl | rfl
  ·obtain ⟨u1, u2, rfl⟩ := agg_len2 h1
   obtain ⟨v1, v2, rfl⟩ := agg_len2 h2
   have := Tryz.eq26r 9998 u1 u2 v1 v2 w
   simpa [Op.equal, Op.maxDepth] using this
  ·obtain ⟨u1, u2, rfl⟩ := agg_len2 h1
   obtain ⟨v1, v2, rfl⟩ := agg_len2 h2
   have := Tryz.eq67r 9998 u1 u2 v1 v2 w
   simpa [Op.equal, Op.maxDepth] using this
  ·obtain ⟨u1, u2, u3, u4, u5, u6, rfl⟩ := agg_len6 h1
   obtain ⟨v1, v2, v3, v4, v5, v6, rfl⟩ := agg_len6 h2
   have := Tryz.eq105r 9997 u1 u2 u3 u4 u5 u6 v1 v2 v3 v4 v5 v6 w
   simpa [Op.equal, Op.maxDepth] using this
  ·obtain ⟨u1, u2, u3, u4, rfl⟩ := agg_len4 h1
   obtain ⟨v1, v2, v3, v4, rfl⟩ := agg_len4 h2
   have := Tryz.eq127r 9998 u1 u2 u3 u4 v1 v2 v3 v4 w
   simpa [Op.equal, Op.maxDepth] using this
 ·rcases hkeyn t ht with rfl | rfl <;> (intro h; cases h)
 ·rcases hkeyn t ht with rfl | rfl
  ·obtain ⟨u1, u2, u3, u4, rfl⟩ := agg_len4 h1
   obtain ⟨v1, v2, v3, v4, rfl⟩ := agg_len4 h2
   have := Tryz.eq127r 9998 u1 u2 u3 u4 v1 v2 v3 v4 w
   simpa [Op.equal, Op.maxDepth] using this
  ·obtain ⟨u1, u2, u3, u4, u5, rfl⟩ := agg_len5 h1
   obtain ⟨v1, v2, v3, v4, v5, rfl⟩ := agg_len5 h2
   have := Tryz.eq210r 9997 u1 u2 u3 u4 u5 v1 v2 v3 v4 v5 w
   simpa [Op.equal, Op.maxDepth] using this
 ·rcases hkeyn t ht with rfl | rfl
  ·obtain ⟨u1, u2, u3, u4, rfl⟩ := agg_len4 h1
   exact Tryz.ck127r e 9998 u1 u2 u3 u4 w
  ·obtain ⟨u1, u2, u3, u4, u5, rfl⟩ := agg_len5 h1
   exact Tryz.ck210r e 9997 u1 u2 u3 u4 u5 w
theorem method_of {P : Program} {t : TypeId} {s : String} {f : FuncId} {fs : Array Field} (h1 : ((P.info? t).bind fun i => i.methods.find? fun m => m.name == s).map (fun m => (m.path.toList, m.func)) = some ([], some (f, false)))
  (h2 : P.underlying t = some (.struct fs)) (n : Nat) (c : Value) (w : World) : (method (n + 1) t c s).run P w = .ok (f, c) w := by
 cases hi : P.info? t with
 | none => rw [hi] at h1; cases h1
 | some i =>
  rw [hi] at h1
  simp only [Option.bind_some] at h1
  cases hm : i.methods.find? (fun m => m.name == s) with
  | none => rw [hm] at h1; cases h1
  | some m =>
   rw [hm] at h1
   simp only [Option.map_some, Option.some.injEq, Prod.mk.injEq] at h1
   obtain ⟨hp, hf⟩ := h1
   have hpe : m.path = #[] := by apply Array.ext'; simpa using hp
   simp [method, typeInfo, underlying, hi, hm, hpe, hf, follow, receiverAt, h2, Place.get, Sem.run_bind, Result.andThen_ok]
theorem method_tm {P : Program} {t : TypeId} {s : String} {f : FuncId} {fs : Array Field} (h1 : ((P.info? t).bind fun i => i.methods.find? fun m => m.name == s).map (fun m => (m.path.toList, m.func)) = some ([], some (f, false)))
  (h2 : P.underlying t = some (.struct fs)) (n : Nat) (c : Value) : Tm P (method (n + 1) t c s) fun r => r.1 = f := by
 unfold method typeInfo
 refine Tm_bind (Tm_bind (Tm_program ?_))
 split
 ·rename_i i hi
  rw [hi] at h1
  simp only [Option.bind_some] at h1
  refine Tm_pure ?_
  cases hm : i.methods.find? (fun m => m.name == s) with
  | none => rw [hm] at h1; cases h1
  | some m =>
   rw [hm] at h1
   simp only [Option.map_some, Option.some.injEq, Prod.mk.injEq] at h1
   obtain ⟨hp, hf⟩ := h1
   have hpe : m.path = #[] := by apply Array.ext'; simpa using hp
   simp only [hpe, hf, follow]
   refine Tm_bind (Tm_pure ?_)
   refine Tm_bind ?_
   unfold receiverAt
   refine Tm_bind (Tm_underlyingP fun d hd => ?_)
   rw [h2] at hd
   simp only [Option.some.injEq] at hd
   subst hd
   exact rfl
 ·trivial
def Tryz.mt (t : TypeId) (s : String) : Option FuncId := if s = "musette/meter.is" then (if t = 252 then some 229 else if t = 254 then some 257 else if t = 255 then some 258 else none) else none
theorem Tryz.mtOK (t : TypeId) (s : String) (f : FuncId) (h : Tryz.mt t s = some f) (c : Value) (w : World) : (method (Tryz.prog.types.size + Made.depth) t c s).run Tryz.prog w = .ok (f, c) w := by
 have hn : Tryz.prog.types.size + Made.depth = (Tryz.prog.types.size + (Made.depth - 1)) + 1 := by
  have : 1 ≤ Made.depth := by decide
  omega
 rw [hn]
 unfold Tryz.mt at h
 split at h
 ·rename_i hs; subst hs
  split at h
  ·rename_i ht; subst ht; simp at h; subst h
   exact method_of (by kernel_rfl) Tryz.underlying252 _ c w
  ·split at h
   ·rename_i ht; subst ht; simp at h; subst h
    exact method_of (by kernel_rfl) Tryz.underlying254 _ c w
   ·split at h
    ·rename_i ht; subst ht; simp at h; subst h
     exact method_of (by kernel_rfl) Tryz.underlying255 _ c w
    ·cases h
 ·cases h
set_option maxRecDepth 200000 in
theorem Tryz.mtOKT (t : TypeId) (s : String) (f : FuncId) (h : Tryz.mt t s = some f) (c : Value) : Tm Tryz.prog (method (Tryz.prog.types.size + Made.depth) t c s) fun r => r.1 = f := by
 have hn : Tryz.prog.types.size + Made.depth = (Tryz.prog.types.size + (Made.depth - 1)) + 1 := by
  have : 1 ≤ Made.depth := by decide
  omega
 rw [hn]
 unfold Tryz.mt at h
 split at h
 ·rename_i hs; subst hs
  split at h
  ·rename_i ht; subst ht; simp at h; subst h
   exact method_tm (by kernel_rfl) Tryz.underlying252 _ c
  ·split at h
   ·rename_i ht; subst ht; simp at h; subst h
    exact method_tm (by kernel_rfl) Tryz.underlying254 _ c
   ·split at h
    ·rename_i ht; subst ht; simp at h; subst h
     exact method_tm (by kernel_rfl) Tryz.underlying255 _ c
    ·cases h
 ·cases h
noncomputable def Tryz.E {S : MC Tryz.prog} (N : Nat) (ord : Nat → List Nat × List (Nat × List Nat)) (fs : FuncId → List AV → Option AV) : Env := { P := Tryz.prog, S := S, ty := Tryz.ty, N := N, mt := Tryz.mt, ord := ord, fs := fs }
theorem Tryz.EN {S : MC Tryz.prog} {N : Nat} {ord : Nat → List Nat × List (Nat × List Nat)} {fs : FuncId → List AV → Option AV} : (Tryz.E (S := S) N ord fs).N = N := rfl
theorem Tryz.Emt {S : MC Tryz.prog} {N : Nat} {ord : Nat → List Nat × List (Nat × List Nat)} {fs : FuncId → List AV → Option AV} : (Tryz.E (S := S) N ord fs).mt = Tryz.mt := rfl
theorem Tryz.EP {S : MC Tryz.prog} {N : Nat} {ord : Nat → List Nat × List (Nat × List Nat)} {fs : FuncId → List AV → Option AV} : (Tryz.E (S := S) N ord fs).P = Tryz.prog := rfl
theorem Tryz.Ety {S : MC Tryz.prog} {N : Nat} {ord : Nat → List Nat × List (Nat × List Nat)} {fs : FuncId → List AV → Option AV} : (Tryz.E (S := S) N ord fs).ty = Tryz.ty := rfl
theorem Tryz.Eord {S : MC Tryz.prog} {N : Nat} {ord : Nat → List Nat × List (Nat × List Nat)} {fs : FuncId → List AV → Option AV} : (Tryz.E (S := S) N ord fs).ord = ord := rfl
theorem Tryz.Efs {S : MC Tryz.prog} {N : Nat} {ord : Nat → List Nat × List (Nat × List Nat)} {fs : FuncId → List AV → Option AV} : (Tryz.E (S := S) N ord fs).fs = fs := rfl
theorem Tryz.mt_count : Tryz.mt 252 "musette/meter.is" = some 229 := rfl
theorem Tryz.mt_beat : Tryz.mt 254 "musette/meter.is" = some 257 := rfl
theorem Tryz.mt_higher : Tryz.mt 255 "musette/meter.is" = some 258 := rfl
set_option maxRecDepth 200000 in
theorem Tryz.envOK {S : MC Tryz.prog} (N : Nat) (ord : Nat → List Nat × List (Nat × List Nat)) (fs : FuncId → List AV → Option AV) (h : ∀ f xs v, fs f xs = some v → PureV S f xs v) : EnvOK (Tryz.E (S := S) N ord fs) := ⟨Tryz.tysOK, Tryz.eqsOK, Tryz.mtOK, Tryz.mtOKT, by kernel_rfl, h⟩
def fs0 : FuncId → List AV → Option AV := fun _ _ => none
theorem fs0_ok {S : MC Tryz.prog} : ∀ f xs v, fs0 f xs = some v → PureV S f xs v := fun _ _ _ h => by cases h
theorem Callable.of {P : Program} {f : FuncId} {fn : Func} (h1 : P.funcs[f]? = some fn) (h2 : fn.body.isNone = false) (h3 : (fn.name == "runtime.NumGoroutine") = false) : Callable P f := ⟨fn, h1, h3, h2⟩
theorem Tryz.ES_ {S : MC Tryz.prog} {N : Nat} {ord : Nat → List Nat × List (Nat × List Nat)} {fs : FuncId → List AV → Option AV} : (Tryz.E (S := S) N ord fs).S = S := rfl
attribute [go_sem] Tryz.ES_
theorem PvE {E : Env} (hE : EnvOK E) {f : FuncId} {fn : Func} {c : Code} {args : List AV} {v : AV} (hp : Plain v) (kp : Nat → Bool) (hf : E.P.funcs[f]? = some fn) (hb : fn.body = some c)
  (h : ∀ σ, ev E none 100000 [.code c] ⟨kp, [], number 0 args⟩ σ (retPost E fn.results.toList (Gives σ v)))
  (hN : fn.ntmps = E.N := by kernel_rfl) (hA : args.length ≤ E.N := by simp [Tryz.E]) (h2 : fn.body.isNone = false := by kernel_rfl) (h3 : (fn.name == "runtime.NumGoroutine") = false := by kernel_rfl) (hO : todoOK E [.code c] = true := by kernel_rfl) : PureV E.S f args v :=
 PureV.of_ev hE hp kp hf hb hN hA (Callable.of hf h2 h3) hO h
theorem AcE {E : Env} (hE : EnvOK E) {f : FuncId} {fn : Func} {c : Code} {args : List AV} {σ : List AObj} {Q : AV → List AObj → Prop} (kp : Nat → Bool) (hf : E.P.funcs[f]? = some fn) (hb : fn.body = some c)
  (h : ev E none 100000 [.code c] ⟨kp, [], number 0 args⟩ σ (retPost E fn.results.toList Q))
  (hN : fn.ntmps = E.N := by kernel_rfl) (hA : args.length ≤ E.N := by simp [Tryz.E]) (h2 : fn.body.isNone = false := by kernel_rfl) (h3 : (fn.name == "runtime.NumGoroutine") = false := by kernel_rfl) (hO : todoOK E [.code c] = true := by kernel_rfl) : ACalls E.S f args σ Q :=
 ACalls.of_ev hE kp hf hb hN hA (Callable.of hf h2 h3) hO h
end Go.Proofs
