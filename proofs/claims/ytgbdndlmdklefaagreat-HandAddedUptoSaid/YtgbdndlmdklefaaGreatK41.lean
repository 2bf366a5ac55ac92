/- The environment in which the first append to an empty literal of some types gives a slice that is written into. -/
import Derived.Test.YtgbdndlmdklefaaGreatK16
import Derived.Test.YtgbdndlmdklefaaGreatK40
import Derived.Test.YtgbdndlmdklefaaGreatK38
set_option linter.unusedSimpArgs false
set_option linter.unusedVariables false
namespace Go.Proofs
open Go Go.Mu
def vTy (t : Nat) : Bool := t == 28
def Tryz.tyW (t : Nat) : TI := if vTy t = true then (Tryz.ty t).v else Tryz.ty t
theorem Tryz.tyW_kd (t : Nat) : (Tryz.tyW t).kd = (Tryz.ty t).kd := by unfold Tryz.tyW; split <;> rfl
theorem Tryz.tyW_sz (t : Nat) : (Tryz.tyW t).sz = (Tryz.ty t).sz := by unfold Tryz.tyW; split <;> rfl
theorem Tryz.tyW_bytes (t : Nat) : (Tryz.tyW t).bytes = (Tryz.ty t).bytes := by unfold Tryz.tyW; split <;> rfl
theorem Tryz.tyW_zero (t : Nat) : (Tryz.tyW t).zero = (Tryz.ty t).zero := by unfold Tryz.tyW; split <;> rfl
theorem Tryz.tyW_eqn (t : Nat) : (Tryz.tyW t).eqn = (Tryz.ty t).eqn := by unfold Tryz.tyW; split <;> rfl
theorem Tryz.tyW_keyn (t : Nat) : (Tryz.tyW t).keyn = (Tryz.ty t).keyn := by unfold Tryz.tyW; split <;> rfl
theorem Tryz.tysOKW : TysOK Tryz.prog Tryz.tyW := fun t h => by
 rw [Tryz.tyW_kd] at h
 have h2 := Tryz.tysOK t h
 exact ⟨by rw [Tryz.tyW_sz, Tryz.tyW_bytes, Tryz.tyW_zero]; exact h2.info, by rw [Tryz.tyW_kd]; exact h2.kd⟩
theorem Tryz.tyW1 : Tryz.tyW 1 = { sz := 1, bytes := 8, kd := .func, zero := .nilfn, eqn := false } := rfl
theorem Tryz.tyW2 : Tryz.tyW 2 = { sz := 1, bytes := 8, kd := .int .i64, zero := .int .i64 0, eqn := false } := rfl
theorem Tryz.tyW3 : Tryz.tyW 3 = { sz := 1, bytes := 8, kd := .int .i64, zero := .int .i64 0, eqn := false } := rfl
theorem Tryz.tyW4 : Tryz.tyW 4 = { sz := 1, bytes := 1, kd := .bool, zero := .bool false, eqn := false } := rfl
theorem Tryz.tyW5 : Tryz.tyW 5 = { sz := 1, bytes := 1, kd := .int .u8, zero := .int .u8 0, eqn := false } := rfl
theorem Tryz.tyW6 : Tryz.tyW 6 = { sz := 1, bytes := 1, kd := .int .u8, zero := .int .u8 0, eqn := false } := rfl
theorem Tryz.tyW8 : Tryz.tyW 8 = { sz := 4, bytes := 24, kd := .strct [(0, 2), (1, 3), (2, 4), (3, 6)], zero := .agg [.int .i64 0, .int .i64 0, .bool false, .int .u8 0], eqn := false } := rfl
theorem Tryz.tyW9 : Tryz.tyW 9 = { sz := 1, bytes := 16, kd := .str, zero := .str ByteArray.empty, eqn := false } := rfl
theorem Tryz.tyW10 : Tryz.tyW 10 = { sz := 1, bytes := 16, kd := .str, zero := .str ByteArray.empty, eqn := false } := rfl
theorem Tryz.tyW11 : Tryz.tyW 11 = { sz := 1, bytes := 16, kd := .str, zero := .str ByteArray.empty, eqn := false } := rfl
theorem Tryz.tyW12 : Tryz.tyW 12 = { sz := 1, bytes := 8, kd := .int .u64, zero := .int .u64 0, eqn := false } := rfl
theorem Tryz.tyW14 : Tryz.tyW 14 = { sz := 2, bytes := 24, kd := .strct [(0, 9), (1, 12)], zero := .agg [.str ByteArray.empty, .int .u64 0], eqn := false } := rfl
theorem Tryz.tyW15 : Tryz.tyW 15 = { sz := 1, bytes := 8, kd := .ptr 281, zero := .nilptr, eqn := false } := rfl
theorem Tryz.tyW16 : Tryz.tyW 16 = { sz := 1, bytes := 8, kd := .ptr 284, zero := .nilptr, eqn := false } := rfl
theorem Tryz.tyW17 : Tryz.tyW 17 = { sz := 1, bytes := 8, kd := .ptr 292, zero := .nilptr, eqn := false } := rfl
theorem Tryz.tyW19 : Tryz.tyW 19 = { sz := 1, bytes := 8, kd := .strct [(0, 17)], zero := .agg [.nilptr], eqn := false } := rfl
theorem Tryz.tyW22 : Tryz.tyW 22 = { sz := 1, bytes := 24, kd := .slice 3, zero := .list .full 0 [], eqn := false } := rfl
theorem Tryz.tyW23 : Tryz.tyW 23 = { sz := 1, bytes := 8, kd := .ptr 116, zero := .nilptr, eqn := false } := rfl
theorem Tryz.tyW26 : Tryz.tyW 26 = { sz := 2, bytes := 16, kd := .strct [(0, 3), (1, 3)], zero := .agg [.int .i64 0, .int .i64 0], eqn := true } := rfl
theorem Tryz.tyW27 : Tryz.tyW 27 = { sz := 1, bytes := 24, kd := .slice 67, zero := .list .full 0 [], eqn := false } := rfl
theorem Tryz.tyW28 : Tryz.tyW 28 = { sz := 1, bytes := 24, kd := .slice 51, zero := .list .full 0 [], eqn := false, vc := true } := rfl
theorem Tryz.tyW30 : Tryz.tyW 30 = { sz := 6, bytes := 80, kd := .strct [(0, 3), (1, 3), (2, 26), (4, 27), (5, 28)], zero := .agg [.int .i64 0, .int .i64 0, .int .i64 0, .int .i64 0, .list .full 0 [], .list .full 0 []], eqn := false } := rfl
theorem Tryz.tyW32 : Tryz.tyW 32 = { sz := 2, bytes := 48, kd := .strct [(0, 22), (1, 22)], zero := .agg [.list .full 0 [], .list .full 0 []], eqn := false } := rfl
theorem Tryz.tyW36 : Tryz.tyW 36 = { sz := 1, bytes := 24, kd := .slice 22, zero := .list .full 0 [], eqn := false } := rfl
theorem Tryz.tyW37 : Tryz.tyW 37 = { sz := 1, bytes := 8, kd := .int .i64, zero := .int .i64 0, eqn := false } := rfl
theorem Tryz.tyW46 : Tryz.tyW 46 = { sz := 1, bytes := 24, kd := .slice 26, zero := .list .full 0 [], eqn := false } := rfl
theorem Tryz.tyW47 : Tryz.tyW 47 = { sz := 1, bytes := 24, kd := .slice 105, zero := .list .full 0 [], eqn := false } := rfl
theorem Tryz.tyW49 : Tryz.tyW 49 = { sz := 3, bytes := 56, kd := .strct [(0, 3), (1, 46), (2, 47)], zero := .agg [.int .i64 0, .list .full 0 [], .list .full 0 []], eqn := false } := rfl
theorem Tryz.tyW51 : Tryz.tyW 51 = { sz := 6, bytes := 80, kd := .strct [(0, 3), (1, 3), (2, 3), (3, 49)], zero := .agg [.int .i64 0, .int .i64 0, .int .i64 0, .int .i64 0, .list .full 0 [], .list .full 0 []], eqn := false } := rfl
theorem Tryz.tyW54 : Tryz.tyW 54 = { sz := 1, bytes := 24, kd := .slice 30, zero := .list .full 0 [], eqn := false } := rfl
theorem Tryz.tyW64 : Tryz.tyW 64 = { sz := 1, bytes := 8, kd := .func, zero := .nilfn, eqn := false } := rfl
theorem Tryz.tyW67 : Tryz.tyW 67 = { sz := 2, bytes := 16, kd := .strct [(0, 3), (1, 3)], zero := .agg [.int .i64 0, .int .i64 0], eqn := true } := rfl
theorem Tryz.tyW105 : Tryz.tyW 105 = { sz := 6, bytes := 48, kd := .strct [(0, 3), (1, 3), (2, 3), (3, 3), (4, 26)], zero := .agg [.int .i64 0, .int .i64 0, .int .i64 0, .int .i64 0, .int .i64 0, .int .i64 0], eqn := true } := rfl
theorem Tryz.tyW109 : Tryz.tyW 109 = { sz := 6, bytes := 48, kd := .strct [(0, 26), (2, 26), (4, 26)], zero := .agg [.int .i64 0, .int .i64 0, .int .i64 0, .int .i64 0, .int .i64 0, .int .i64 0], eqn := false } := rfl
theorem Tryz.tyW111 : Tryz.tyW 111 = { sz := 9, bytes := 72, kd := .strct [(0, 26), (2, 26), (4, 26), (6, 26), (8, 3)], zero := .agg [.int .i64 0, .int .i64 0, .int .i64 0, .int .i64 0, .int .i64 0, .int .i64 0, .int .i64 0, .int .i64 0, .int .i64 0], eqn := false } := rfl
theorem Tryz.tyW113 : Tryz.tyW 113 = { sz := 18, bytes := 160, kd := .strct [(0, 109), (6, 111), (15, 46), (16, 3), (17, 3)], zero := .agg [.int .i64 0, .int .i64 0, .int .i64 0, .int .i64 0, .int .i64 0, .int .i64 0, .int .i64 0, .int .i64 0, .int .i64 0, .int .i64 0, .int .i64 0, .int .i64 0, .int .i64 0, .int .i64 0, .int .i64 0, .list .full 0 [], .int .i64 0, .int .i64 0], eqn := false } := rfl
theorem Tryz.tyW114 : Tryz.tyW 114 = { sz := 1, bytes := 8, kd := .int .u64, zero := .int .u64 0, eqn := false } := rfl
theorem Tryz.tyW116 : Tryz.tyW 116 = { sz := 1, bytes := 8, kd := .strct [(0, 114)], zero := .agg [.int .u64 0], eqn := false } := rfl
theorem Tryz.tyW117 : Tryz.tyW 117 = { sz := 1, bytes := 8, kd := .int .u64, zero := .int .u64 0, eqn := false } := rfl
theorem Tryz.tyW119 : Tryz.tyW 119 = { sz := 7, bytes := 104, kd := .strct [(0, 30), (6, 36)], zero := .agg [.int .i64 0, .int .i64 0, .int .i64 0, .int .i64 0, .list .full 0 [], .list .full 0 [], .list .full 0 []], eqn := false } := rfl
theorem Tryz.tyW120 : Tryz.tyW 120 = { sz := 1, bytes := 8, kd := .map 127 4, zero := .nilmap, eqn := false } := rfl
theorem Tryz.tyW127 : Tryz.tyW 127 = { sz := 4, bytes := 32, kd := .arr 4 3, zero := .agg [.int .i64 0, .int .i64 0, .int .i64 0, .int .i64 0], eqn := true, keyn := true } := rfl
theorem Tryz.tyW144 : Tryz.tyW 144 = { sz := 1, bytes := 8, kd := .int .u64, zero := .int .u64 0, eqn := false } := rfl
theorem Tryz.tyW146 : Tryz.tyW 146 = { sz := 1, bytes := 24, kd := .slice 127, zero := .list .full 0 [], eqn := false } := rfl
theorem Tryz.tyW149 : Tryz.tyW 149 = { sz := 1, bytes := 8, kd := .ptr 51, zero := .nilptr, eqn := false } := rfl
theorem Tryz.tyW164 : Tryz.tyW 164 = { sz := 1, bytes := 24, kd := .slice 169, zero := .list .full 0 [], eqn := false } := rfl
theorem Tryz.tyW169 : Tryz.tyW 169 = { sz := 3, bytes := 24, kd := .arr 3 3, zero := .agg [.int .i64 0, .int .i64 0, .int .i64 0], eqn := false } := rfl
theorem Tryz.tyW170 : Tryz.tyW 170 = { sz := 1, bytes := 8, kd := .func, zero := .nilfn, eqn := false } := rfl
theorem Tryz.tyW179 : Tryz.tyW 179 = { sz := 1, bytes := 24, kd := .slice 37, zero := .list .full 0 [], eqn := false } := rfl
theorem Tryz.tyW181 : Tryz.tyW 181 = { sz := 1, bytes := 8, kd := .map 144 4, zero := .nilmap, eqn := false } := rfl
theorem Tryz.tyW184 : Tryz.tyW 184 = { sz := 1, bytes := 8, kd := .func, zero := .nilfn, eqn := false } := rfl
theorem Tryz.tyW189 : Tryz.tyW 189 = { sz := 1, bytes := 8, kd := .func, zero := .nilfn, eqn := false } := rfl
theorem Tryz.tyW190 : Tryz.tyW 190 = { sz := 1, bytes := 8, kd := .func, zero := .nilfn, eqn := false } := rfl
theorem Tryz.tyW192 : Tryz.tyW 192 = { sz := 1, bytes := 8, kd := .func, zero := .nilfn, eqn := false } := rfl
theorem Tryz.tyW195 : Tryz.tyW 195 = { sz := 1, bytes := 8, kd := .func, zero := .nilfn, eqn := false } := rfl
theorem Tryz.tyW197 : Tryz.tyW 197 = { sz := 1, bytes := 8, kd := .func, zero := .nilfn, eqn := false } := rfl
theorem Tryz.tyW198 : Tryz.tyW 198 = { sz := 1, bytes := 8, kd := .func, zero := .nilfn, eqn := false } := rfl
theorem Tryz.tyW202 : Tryz.tyW 202 = { sz := 1, bytes := 8, kd := .map 3 4, zero := .nilmap, eqn := false } := rfl
theorem Tryz.tyW203 : Tryz.tyW 203 = { sz := 1, bytes := 8, kd := .func, zero := .nilfn, eqn := false } := rfl
theorem Tryz.tyW205 : Tryz.tyW 205 = { sz := 21, bytes := 184, kd := .strct [(0, 113), (18, 26), (20, 203)], zero := .agg [.int .i64 0, .int .i64 0, .int .i64 0, .int .i64 0, .int .i64 0, .int .i64 0, .int .i64 0, .int .i64 0, .int .i64 0, .int .i64 0, .int .i64 0, .int .i64 0, .int .i64 0, .int .i64 0, .int .i64 0, .list .full 0 [], .int .i64 0, .int .i64 0, .int .i64 0, .int .i64 0, .nilfn], eqn := false } := rfl
theorem Tryz.tyW210 : Tryz.tyW 210 = { sz := 5, bytes := 40, kd := .strct [(0, 26), (2, 3), (3, 3), (4, 3)], zero := .agg [.int .i64 0, .int .i64 0, .int .i64 0, .int .i64 0, .int .i64 0], eqn := false, keyn := true } := rfl
theorem Tryz.tyW213 : Tryz.tyW 213 = { sz := 1, bytes := 16, kd := .iface, zero := .niliface, eqn := false } := rfl
theorem Tryz.tyW215 : Tryz.tyW 215 = { sz := 1, bytes := 8, kd := .map 3 164, zero := .nilmap, eqn := false } := rfl
theorem Tryz.tyW225 : Tryz.tyW 225 = { sz := 1, bytes := 8, kd := .int .i64, zero := .int .i64 0, eqn := false } := rfl
theorem Tryz.tyW232 : Tryz.tyW 232 = { sz := 1, bytes := 4, kd := .int .u32, zero := .int .u32 0, eqn := false } := rfl
theorem Tryz.tyW234 : Tryz.tyW 234 = { sz := 1, bytes := 8, kd := .chan, zero := .chan none, eqn := false } := rfl
theorem Tryz.tyW236 : Tryz.tyW 236 = { sz := 3, bytes := 40, kd := .strct [(0, 3), (1, 22), (2, 37)], zero := .agg [.int .i64 0, .list .full 0 [], .int .i64 0], eqn := false } := rfl
theorem Tryz.tyW239 : Tryz.tyW 239 = { sz := 1, bytes := 8, kd := .func, zero := .nilfn, eqn := false } := rfl
theorem Tryz.tyW242 : Tryz.tyW 242 = { sz := 1, bytes := 24, kd := .slice 213, zero := .list .full 0 [], eqn := false } := rfl
theorem Tryz.tyW243 : Tryz.tyW 243 = { sz := 1, bytes := 8, kd := .func, zero := .nilfn, eqn := false } := rfl
theorem Tryz.tyW244 : Tryz.tyW 244 = { sz := 1, bytes := 8, kd := .func, zero := .nilfn, eqn := false } := rfl
theorem Tryz.tyW245 : Tryz.tyW 245 = { sz := 1, bytes := 8, kd := .map 210 4, zero := .nilmap, eqn := false } := rfl
theorem Tryz.tyW247 : Tryz.tyW 247 = { sz := 1, bytes := 8, kd := .func, zero := .nilfn, eqn := false } := rfl
theorem Tryz.tyW252 : Tryz.tyW 252 = { sz := 7, bytes := 56, kd := .strct [(0, 105), (6, 3)], zero := .agg [.int .i64 0, .int .i64 0, .int .i64 0, .int .i64 0, .int .i64 0, .int .i64 0, .int .i64 0], eqn := false } := rfl
theorem Tryz.tyW254 : Tryz.tyW 254 = { sz := 6, bytes := 48, kd := .strct [(0, 105)], zero := .agg [.int .i64 0, .int .i64 0, .int .i64 0, .int .i64 0, .int .i64 0, .int .i64 0], eqn := false } := rfl
theorem Tryz.tyW255 : Tryz.tyW 255 = { sz := 6, bytes := 48, kd := .strct [(0, 105)], zero := .agg [.int .i64 0, .int .i64 0, .int .i64 0, .int .i64 0, .int .i64 0, .int .i64 0], eqn := false } := rfl
theorem Tryz.tyW262 : Tryz.tyW 262 = { sz := 1, bytes := 8, kd := .int .u64, zero := .int .u64 0, eqn := false } := rfl
theorem Tryz.tyW265 : Tryz.tyW 265 = { sz := 1, bytes := 8, kd := .ptr 3, zero := .nilptr, eqn := false } := rfl
theorem Tryz.tyW268 : Tryz.tyW 268 = { sz := 1, bytes := 8, kd := .func, zero := .nilfn, eqn := false } := rfl
theorem Tryz.tyW270 : Tryz.tyW 270 = { sz := 15, bytes := 120, kd := .strct [(0, 109), (6, 111)], zero := .agg [.int .i64 0, .int .i64 0, .int .i64 0, .int .i64 0, .int .i64 0, .int .i64 0, .int .i64 0, .int .i64 0, .int .i64 0, .int .i64 0, .int .i64 0, .int .i64 0, .int .i64 0, .int .i64 0, .int .i64 0], eqn := false } := rfl
theorem Tryz.tyW275 : Tryz.tyW 275 = { sz := 1, bytes := 8, kd := .ptr 262, zero := .nilptr, eqn := false } := rfl
theorem Tryz.tyW281 : Tryz.tyW 281 = { sz := 4, bytes := 40, kd := .strct [(0, 17), (1, 17), (2, 17), (3, 9)], zero := .agg [.nilptr, .nilptr, .nilptr, .str ByteArray.empty], eqn := false } := rfl
theorem Tryz.tyW282 : Tryz.tyW 282 = { sz := 0, bytes := 0, kd := .arr 0 16, zero := .agg [], eqn := false } := rfl
theorem Tryz.tyW284 : Tryz.tyW 284 = { sz := 0, bytes := 0, kd := .strct [(0, 282)], zero := .agg [], eqn := false } := rfl
theorem Tryz.tyW285 : Tryz.tyW 285 = { sz := 1, bytes := 1, kd := .int .u8, zero := .int .u8 0, eqn := false } := rfl
theorem Tryz.tyW286 : Tryz.tyW 286 = { sz := 1, bytes := 1, kd := .int .u8, zero := .int .u8 0, eqn := false } := rfl
theorem Tryz.tyW287 : Tryz.tyW 287 = { sz := 1, bytes := 8, kd := .func, zero := .nilfn, eqn := false } := rfl
theorem Tryz.tyW288 : Tryz.tyW 288 = { sz := 1, bytes := 8, kd := .ptr 5, zero := .nilptr, eqn := false } := rfl
theorem Tryz.tyW289 : Tryz.tyW 289 = { sz := 1, bytes := 4, kd := .int .i32, zero := .int .i32 0, eqn := false } := rfl
theorem Tryz.tyW290 : Tryz.tyW 290 = { sz := 1, bytes := 4, kd := .int .i32, zero := .int .i32 0, eqn := false } := rfl
theorem Tryz.tyW292 : Tryz.tyW 292 = { sz := 11, bytes := 48, kd := .strct [(0, 12), (1, 12), (2, 232), (3, 285), (4, 5), (5, 5), (6, 286), (7, 287), (8, 288), (9, 289), (10, 290)], zero := .agg [.int .u64 0, .int .u64 0, .int .u32 0, .int .u8 0, .int .u8 0, .int .u8 0, .int .u8 0, .nilfn, .nilptr, .int .i32 0, .int .i32 0], eqn := false } := rfl
theorem Tryz.eqsOKW : EqsOK Tryz.prog Tryz.tyW := ⟨fun t h => Tryz.eqsOK.guard t (by rw [Tryz.tyW_eqn] at h; exact h), fun t h xs ys w h1 h2 => by
 rw [Tryz.tyW_eqn] at h; rw [Tryz.tyW_sz] at h1 h2; exact Tryz.eqsOK.eq t h xs ys w h1 h2, fun t h => by
 rw [Tryz.tyW_keyn] at h; rw [Tryz.tyW_kd]; exact Tryz.eqsOK.kkd t h, fun t h xs ys w h1 h2 => by
 rw [Tryz.tyW_keyn] at h; rw [Tryz.tyW_sz] at h1 h2; exact Tryz.eqsOK.keq t h xs ys w h1 h2, fun t h e xs w h1 => by
 rw [Tryz.tyW_keyn] at h; rw [Tryz.tyW_sz] at h1; exact Tryz.eqsOK.kck t h e xs w h1⟩
noncomputable def Tryz.Ew {S : MC Tryz.prog} (N : Nat) (ord : Nat → List Nat × List (Nat × List Nat)) (fs : FuncId → List AV → Option AV) : Env := { P := Tryz.prog, S := S, ty := Tryz.tyW, N := N, mt := Tryz.mt, ord := ord, fs := fs }
theorem Tryz.EwN {S : MC Tryz.prog} {N : Nat} {ord : Nat → List Nat × List (Nat × List Nat)} {fs : FuncId → List AV → Option AV} : (Tryz.Ew (S := S) N ord fs).N = N := rfl
theorem Tryz.Ewmt {S : MC Tryz.prog} {N : Nat} {ord : Nat → List Nat × List (Nat × List Nat)} {fs : FuncId → List AV → Option AV} : (Tryz.Ew (S := S) N ord fs).mt = Tryz.mt := rfl
theorem Tryz.EwP {S : MC Tryz.prog} {N : Nat} {ord : Nat → List Nat × List (Nat × List Nat)} {fs : FuncId → List AV → Option AV} : (Tryz.Ew (S := S) N ord fs).P = Tryz.prog := rfl
theorem Tryz.Ewty {S : MC Tryz.prog} {N : Nat} {ord : Nat → List Nat × List (Nat × List Nat)} {fs : FuncId → List AV → Option AV} : (Tryz.Ew (S := S) N ord fs).ty = Tryz.tyW := rfl
theorem Tryz.Eword {S : MC Tryz.prog} {N : Nat} {ord : Nat → List Nat × List (Nat × List Nat)} {fs : FuncId → List AV → Option AV} : (Tryz.Ew (S := S) N ord fs).ord = ord := rfl
theorem Tryz.Ewfs {S : MC Tryz.prog} {N : Nat} {ord : Nat → List Nat × List (Nat × List Nat)} {fs : FuncId → List AV → Option AV} : (Tryz.Ew (S := S) N ord fs).fs = fs := rfl
set_option maxRecDepth 200000 in
theorem Tryz.envOKW {S : MC Tryz.prog} (N : Nat) (ord : Nat → List Nat × List (Nat × List Nat)) (fs : FuncId → List AV → Option AV) (h : ∀ f xs v, fs f xs = some v → PureV S f xs v) : EnvOK (Tryz.Ew (S := S) N ord fs) := ⟨Tryz.tysOKW, Tryz.eqsOKW, Tryz.mtOK, Tryz.mtOKT, by kernel_rfl, h⟩
attribute [go_sem] Tryz.tyW1 Tryz.tyW2 Tryz.tyW3 Tryz.tyW4 Tryz.tyW5 Tryz.tyW6 Tryz.tyW8 Tryz.tyW9 Tryz.tyW10 Tryz.tyW11 Tryz.tyW12 Tryz.tyW14
attribute [go_sem] Tryz.tyW15 Tryz.tyW16 Tryz.tyW17 Tryz.tyW19 Tryz.tyW22 Tryz.tyW23 Tryz.tyW26 Tryz.tyW27 Tryz.tyW28 Tryz.tyW30 Tryz.tyW32 Tryz.tyW36
attribute [go_sem] Tryz.tyW37 Tryz.tyW46 Tryz.tyW47 Tryz.tyW49 Tryz.tyW51 Tryz.tyW54 Tryz.tyW64 Tryz.tyW67 Tryz.tyW105 Tryz.tyW109 Tryz.tyW111 Tryz.tyW113
attribute [go_sem] Tryz.tyW114 Tryz.tyW116 Tryz.tyW117 Tryz.tyW119 Tryz.tyW120 Tryz.tyW127 Tryz.tyW144 Tryz.tyW146 Tryz.tyW149 Tryz.tyW164 Tryz.tyW169 Tryz.tyW170
attribute [go_sem] Tryz.tyW179 Tryz.tyW181 Tryz.tyW184 Tryz.tyW189 Tryz.tyW190 Tryz.tyW192 Tryz.tyW195 Tryz.tyW197 Tryz.tyW198 Tryz.tyW202 Tryz.tyW203 Tryz.tyW205
attribute [go_sem] Tryz.tyW210 Tryz.tyW213 Tryz.tyW215 Tryz.tyW225 Tryz.tyW232 Tryz.tyW234 Tryz.tyW236 Tryz.tyW239 Tryz.tyW242 Tryz.tyW243 Tryz.tyW244 Tryz.tyW245
attribute [go_sem] Tryz.tyW247 Tryz.tyW252 Tryz.tyW254 Tryz.tyW255 Tryz.tyW262 Tryz.tyW265 Tryz.tyW268 Tryz.tyW270 Tryz.tyW275 Tryz.tyW281 Tryz.tyW282 Tryz.tyW284
attribute [go_sem] Tryz.tyW285 Tryz.tyW286 Tryz.tyW287 Tryz.tyW288 Tryz.tyW289 Tryz.tyW290 Tryz.tyW292 Tryz.EwN Tryz.Ewmt Tryz.EwP Tryz.Ewty Tryz.Eword
attribute [go_sem] Tryz.Ewfs
theorem Tryz.EwS_ {S : MC Tryz.prog} {N : Nat} {ord : Nat → List Nat × List (Nat × List Nat)} {fs : FuncId → List AV → Option AV} : (Tryz.Ew (S := S) N ord fs).S = S := rfl
attribute [go_sem] Tryz.EwS_
end Go.Proofs
set_option maxRecDepth 100000
namespace Go.Proofs
open Go Go.Mu Go.Ins
theorem hclSg_p (l : List Sg) (hl : l.length ≤ 4294967296) : PureV SBes 118 [.list .no 2 (l.map Sg.av)] (.list .no 2 (l.map Sg.av)) := by
 refine PvE (Tryz.envOK (S := SBes) 8 (fun _ => ([], [])) fs0 fs0_ok) (.map fun y _ => y.plain) Tryz.kp118 Tryz.func118 rfl ?_
 intro σ
 simp -implicitDefEqProofs (maxSteps := 2000000) (disch := omega) only [go_sem, simprocAttr]
 intro h
 simp at h; subst h; simp
theorem hclRng_p (l : List Rng) (hl : l.length ≤ 4294967296) : PureV SBes 120 [.list .no 2 (l.map Rng.av)] (.list .no 2 (l.map Rng.av)) := by
 refine PvE (Tryz.envOK (S := SBes) 8 (fun _ => ([], [])) fs0 fs0_ok) (rngs_plain _) Tryz.kp120 Tryz.func120 rfl ?_
 intro σ
 simp -implicitDefEqProofs (maxSteps := 2000000) (disch := omega) only [go_sem, simprocAttr]
 intro h
 simp at h; subst h; simp
theorem hclRd_p (l : List Rd) (hl : l.length ≤ 4294967296) : PureV SBes 121 [.list .no 6 (l.map Rd.av)] (.list .no 6 (l.map Rd.av)) := by
 refine PvE (Tryz.envOK (S := SBes) 8 (fun _ => ([], [])) fs0 fs0_ok) (.map fun y _ => Rd.plain y) Tryz.kp121 Tryz.func121 rfl ?_
 intro σ
 simp -implicitDefEqProofs (maxSteps := 2000000) (disch := omega) only [go_sem, simprocAttr]
 intro h
 simp at h; subst h; simp
theorem hclTn_c (l : List Tn) (hl : l.length ≤ 1000000) (σ : List AObj) (Q : AV → List AObj → Prop) (h : Q (.vec σ.length l.length) (σ ++ [.vec 6 (l.map Tn.av)])) (h0 : l = [] → Q (.list .full 0 []) σ) :
  ACalls SBes 119 [.list .no 6 (l.map Tn.av)] σ Q := by
 refine ACalls.of_ev (E := Tryz.Ew (S := SBes) 8 (fun _ => ([], [])) fs0) (Tryz.envOKW (S := SBes) 8 (fun _ => ([], [])) fs0 fs0_ok) Tryz.kp119 Tryz.func119 rfl (by kernel_rfl) (by simp [Tryz.Ew]) (Callable.of Tryz.func119 (by kernel_rfl) (by kernel_rfl)) (by kernel_rfl) ?_
 simp -implicitDefEqProofs (maxSteps := 2000000) (disch := omega) only [go_sem, simprocAttr]
 exact ⟨h, fun e => h0 (by simpa using e)⟩
theorem _root_.Go.Mu.ACalls.freezeB {P : Program} {S : MC P} {f : FuncId} {σ : List AObj} {Q : AV → List AObj → Prop} {rest : List AV} (q k : Nat) {r n sz : Nat} {xs cs : List AV} (hq : hget σ q = some (.cells cs)) (hk : cs[k]? = some (.vec r n)) (hg : hget σ r = some (.vec sz xs)) (hn : xs.length = n)
  (h : ACalls S f (.agg (cs.set k (.list .no sz xs)) :: rest) (hset (hset σ r .dead) q (.cells (cs.set k (.list .no sz xs)))) Q) : ACalls S f (.agg cs :: rest) σ Q := by
 refine ⟨h.1, fun M hM K w V cargs kd fcs hR hO hV => ?_⟩
 obtain ⟨K', r1, r2, hv⟩ := hR.freezeK q k hq hk hg hn
 have hlen : (hset (hset σ r AObj.dead) q (AObj.cells (cs.set k (.list .no sz xs)))).length = σ.length := by simp [hset]
 obtain ⟨hkl, hke⟩ := List.getElem?_eq_some_iff.1 hk
 refine M.bind (h.2 M hM K' w V cargs kd fcs r1 (hO.mind hR r1 r2) ?_) fun g' w' V' ⟨fr, v, σ', K2, h1, h2, h3, h4, h5, h6, h7, h8⟩ => M.ret ⟨fr, v, σ', K2, h1, h2, h3, h4, h5, h6, h7, (StepV.of_mind r2).trans h8⟩
 rw [hlen]
 refine ⟨hV.1, fun i h1 h2 => ?_⟩
 cases i with
 | succ i =>
  have := hV.2 (i + 1) (by simpa using h1) h2
  simp only [List.getElem_cons_succ] at this ⊢
  exact this.mono r2.ext (Nat.le_refl _)
 | zero =>
  have hv0 := hV.2 0 (by simp) h2
  simp only [List.getElem_cons_zero] at hv0 ⊢
  generalize cargs.toList[0] = c0 at hv0
  cases hv0 with
  | agg _ cs' hl h1' hh =>
   refine .agg _ cs' (by rw [List.length_set]; exact hl) h1' fun i h5 h6 => ?_
   have h7 : i < cs.length := by rw [List.length_set] at h5; exact h5
   by_cases e : k = i
   ·subst e
    rw [List.getElem_set_self]
    have := hh k hkl h6
    rw [hke] at this
    exact hv _ this
   ·rw [List.getElem_set_ne e]
    exact (hh i h7 h6).mono r2.ext (Nat.le_refl _)
theorem hchk_p (x : Tn) (hands : Int) (hh : 0 ≤ hands ∧ hands ≤ 1000000) (h1 : x.ear.tones.length ≤ 1000000) (h2 : x.ear.rds.length ≤ 1000000) : PureV SBes 117 [x.av, .int .i64 hands] (.tup [ints1 (chkE x hands).1, .int .i64 (chkE x hands).2]) := by
 intro σ Q hq
 refine (ACalls.aside (X := fun v => v = .tup [ints1 (chkE x hands).1, .int .i64 (chkE x hands).2]) (by simp only [List.mem_cons, List.not_mem_nil, or_false, forall_eq_or_imp, forall_eq]; exact ⟨.agg x.plains, .int⟩) (chkE_c x hands hh h1 h2 fun σ' => ⟨.tup (by simp only [List.mem_cons, List.not_mem_nil, or_false, forall_eq_or_imp, forall_eq]; exact ⟨(ints1_good _).2, .int⟩), rfl⟩)).mono fun v σ' ⟨e1, e2⟩ => ?_
 subst e1 e2
 exact hq
def Ros.snoc (r : Ros) (x : Tn) : Ros := { r with ents := r.ents ++ [x] }
def ros0 : AV := .agg [.int .i64 0, .int .i64 0, .int .i64 0, .int .i64 0, .list .full 0 [], .list .full 0 []]
set_option maxHeartbeats 8000000 in
theorem with_c (r : Ros) (x : Tn) (hf : r.Fit) (hhd : headE r = 0) (hen : entsE r = 0) (hl : r.ents.length ≤ 4) (hx : (chkE x r.hands).2 = 0) (hx1 : x.ear.tones.length ≤ 1000000) (hx2 : x.ear.rds.length ≤ 1000000) {σ : List AObj} {Q : AV → List AObj → Prop}
  (hE : knownE (r.snoc x) [] ≠ 0 → ∀ j, Q (.tup [ros0, .int .i64 (knownE (r.snoc x) [])]) (σ ++ j))
  (hO : knownE (r.snoc x) [] = 0 → ∀ j, Q (.tup [(r.snoc x).av, .int .i64 0]) (σ ++ j)) :
  ACalls SBes 62 [r.av, x.av] σ Q := by
 refine ACalls.of_ev (E := Tryz.Ew (S := SBes) 89 Tryz.ord62 fs0) (Tryz.envOKW (S := SBes) 89 Tryz.ord62 fs0 fs0_ok) Tryz.kp62 Tryz.func62 rfl (by kernel_rfl) (by simp [Tryz.Ew]) (Callable.of Tryz.func62 (by kernel_rfl) (by kernel_rfl)) (by kernel_rfl) ?_
 have hro : rosE r = 0 := by unfold rosE; rw [if_neg (fun c => c hhd)]; exact hen
 have hgood := Ros.good_of hhd hen
 have hh := hgood.hands
 simp only [Ros.av, Tn.av, Tn.cells]
 simp -implicitDefEqProofs (maxSteps := 2000000) (disch := omega) only [go_sem, simprocAttr]
 refine hCheck_p r hf _ _ ?_
 have hl5 : (((r.ents.map Tn.av).length : Int) = 5) = False := by simp; omega
 rw [hro]
 simp -implicitDefEqProofs (maxSteps := 2000000) (disch := omega) only [go_sem, simprocAttr, hl5]
 refine hchk_p x r.hands (by omega) hx1 hx2 _ _ ?_
 rw [hx]
 simp only [ints1]
 simp -implicitDefEqProofs (maxSteps := 2000000) (disch := omega) only [go_sem, simprocAttr, hl5]
 refine hclSg_p r.sets (by have := hf.sets; omega) _ _ ?_
 simp -implicitDefEqProofs (maxSteps := 2000000) (disch := omega) only [go_sem, simprocAttr, hl5]
 have hLn : (r.ents ++ [x]).length = r.ents.length + 1 := by simp
 have hLm : (r.ents ++ [x]).map Tn.av = r.ents.map Tn.av ++ [.agg [.int .i64 x.day, .int .i64 x.hand, .int .i64 x.due, .int .i64 x.ear.slack, .list .no 2 (x.ear.tones.map Rng.av), .list .no 6 (x.ear.rds.map Rd.av)]] := by rw [List.map_append]; rfl
 have hLe : ∀ y ∈ r.ents ++ [x], y.ear.tones.length ≤ 1000000 ∧ y.ear.rds.length ≤ 1000000 := fun y hy => by
  rcases List.mem_append.1 hy with hy | hy
  ·exact hf.ear y hy
  ·simp at hy; subst hy; exact ⟨hx1, hx2⟩
 have hsn : (r.snoc x).av = .agg [.int .i64 r.hands, .int .i64 r.skill, .int .i64 r.mn, .int .i64 r.mx, .list .no 2 (r.sets.map Sg.av), .list .no 6 ((r.ents ++ [x]).map Tn.av)] := rfl
 have hfs : (r.snoc x).Fit := ⟨hf.sets, by show (r.ents ++ [x]).length ≤ 1000000; rw [hLn]; omega, hLe⟩
 obtain ⟨L, hL⟩ : ∃ L, L = r.ents ++ [x] := ⟨_, rfl⟩
 rw [← hL] at hLn hLm hLe hsn
 refine hclTn_c r.ents (by omega) _ _ ?_ (fun e => ?_)
 ·simp -implicitDefEqProofs (maxSteps := 2000000) (disch := omega) only [go_sem, simprocAttr, hl5, Tn.cells]
  rw [← hLm, ← hLn]
  refine ARun.forS (Tryz.envOKW (S := SBes) 89 Tryz.ord62 fs0 fs0_ok) L.length (fun _ => True) (fun i => [(48, .int .i64 i)]) (fun _ _ => σ ++ [.cells [.int .i64 r.hands, .int .i64 r.skill, .int .i64 r.mn, .int .i64 r.mx, .list .no 2 (r.sets.map Sg.av), .list .no 6 (r.ents.map Tn.av)], .cells [.int .i64 x.day, .int .i64 x.hand, .int .i64 x.due, .int .i64 x.ear.slack, .list .no 2 (x.ear.tones.map Rng.av), .list .no 6 (x.ear.rds.map Rd.av)], .cells [.int .i64 0, .int .i64 0, .int .i64 0, .int .i64 0, .list .full 0 [], .list .full 0 []], .vec 6 (L.map Tn.av)]) [] (by kernel_rfl) (by first | rfl | simp) (by simp [upd, ins, subF, lookA]) trivial ?_ ?_
  ·intro i j hi _ ih
   have hgx : (L.map Tn.av)[i]? = some (Tn.av L[i]) := by simp [List.getElem?_eq_getElem hi]
   have hte := hLe _ (List.getElem_mem hi)
   have hset : (L.map Tn.av).set i (Tn.av L[i]) = L.map Tn.av := List.ext_getElem (by simp) fun k h1 h2 => by
    rw [List.getElem_set]; split
    ·rename_i e; subst e; simp
    ·rfl
   generalize L[i] = t at *
   have hav : t.av = .agg [.int .i64 t.day, .int .i64 t.hand, .int .i64 t.due, .int .i64 t.ear.slack, .list .no 2 (t.ear.tones.map Rng.av), .list .no 6 (t.ear.rds.map Rd.av)] := rfl
   rw [hav] at hgx hset
   simp -implicitDefEqProofs (maxSteps := 2000000) (disch := omega) only [go_sem, simprocAttr, hgx]
   refine hclRng_p t.ear.tones (by omega) _ _ ?_
   simp -implicitDefEqProofs (maxSteps := 2000000) (disch := omega) only [go_sem, simprocAttr, hgx]
   refine hclRd_p t.ear.rds (by omega) _ _ ?_
   simp -implicitDefEqProofs (maxSteps := 2000000) (disch := omega) only [go_sem, simprocAttr, hgx, hset]
   exact (ih trivial []).castS rfl (by simp [upd, ins, subF, lookA])
  ·intro j _
   simp -implicitDefEqProofs (maxSteps := 2000000) (disch := omega) only [go_sem, simprocAttr]
   refine ACalls.freezeB σ.length 5 (r := σ.length + 3) (n := L.length) (sz := 6) (xs := L.map Tn.av) (by rw [hget_at0]; rfl) rfl (by rw [hget_at]; rfl) (by simp) ?_
   rw [hset_at, hset_at0]
   simp only [List.set_cons_succ, List.set_cons_zero]
   rw [← hsn]
   refine ACalls.weaken (l' := [(r.snoc x).av, .list .no 1 (([] : List Int).map (.int .i64))]) ⟨⟨rfl, rfl, rfl, rfl, ⟨rfl, .inl rfl, .inl rfl⟩, ⟨rfl, .inl rfl, .inl rfl⟩, trivial⟩, ⟨rfl, .inr rfl, .inl rfl⟩, trivial⟩ ?_
   refine known_c (r.snoc x) hfs [] (by simp) (fun hK j => ?_) (fun hK hg a j ha hm => ?_)
   ·have hK' : (knownE (r.snoc x) [] = 0) = False := eq_false hK
    have hE' := hE hK
    simp only [rosZ]
    simp -implicitDefEqProofs (maxSteps := 2000000) (disch := omega) only [go_sem, simprocAttr, hK']
    exact hE' _
   ·have hO' := hO hK
    simp only [Ros.wav]
    simp -implicitDefEqProofs (maxSteps := 2000000) (disch := omega) only [go_sem, simprocAttr]
    rw [hsn] at hO'
    exact hO' _
 ·have hl0 : r.ents.length = 0 := by rw [e]; rfl
  rw [e] at hLm
  simp only [List.map_nil, List.nil_append] at hLm
  simp -implicitDefEqProofs (maxSteps := 2000000) (disch := omega) only [go_sem, simprocAttr, hl5, Tn.cells]
  rw [hl0] at hLn
  have hv1 : AV.vec (σ.length + 3) 1 = AV.vec (σ.length + 3) L.length := by rw [hLn]
  have hv2 : AV.int IntKind.i64 1 = AV.int IntKind.i64 (L.length : Int) := by rw [hLn]; rfl
  rw [hv1, hv2]
  rw [← hLm]
  refine ARun.forS (Tryz.envOKW (S := SBes) 89 Tryz.ord62 fs0 fs0_ok) L.length (fun _ => True) (fun i => [(48, .int .i64 i)]) (fun _ _ => σ ++ [.cells [.int .i64 r.hands, .int .i64 r.skill, .int .i64 r.mn, .int .i64 r.mx, .list .no 2 (r.sets.map Sg.av), .list .no 6 (r.ents.map Tn.av)], .cells [.int .i64 x.day, .int .i64 x.hand, .int .i64 x.due, .int .i64 x.ear.slack, .list .no 2 (x.ear.tones.map Rng.av), .list .no 6 (x.ear.rds.map Rd.av)], .cells [.int .i64 0, .int .i64 0, .int .i64 0, .int .i64 0, .list .full 0 [], .list .full 0 []], .vec 6 (L.map Tn.av)]) [] (by kernel_rfl) (by first | rfl | simp) (by simp [upd, ins, subF, lookA]) trivial ?_ ?_
  ·intro i j hi _ ih
   have hgx : (L.map Tn.av)[i]? = some (Tn.av L[i]) := by simp [List.getElem?_eq_getElem hi]
   have hte := hLe _ (List.getElem_mem hi)
   have hset : (L.map Tn.av).set i (Tn.av L[i]) = L.map Tn.av := List.ext_getElem (by simp) fun k h1 h2 => by
    rw [List.getElem_set]; split
    ·rename_i e; subst e; simp
    ·rfl
   generalize L[i] = t at *
   have hav : t.av = .agg [.int .i64 t.day, .int .i64 t.hand, .int .i64 t.due, .int .i64 t.ear.slack, .list .no 2 (t.ear.tones.map Rng.av), .list .no 6 (t.ear.rds.map Rd.av)] := rfl
   rw [hav] at hgx hset
   simp -implicitDefEqProofs (maxSteps := 2000000) (disch := omega) only [go_sem, simprocAttr, hgx]
   refine hclRng_p t.ear.tones (by omega) _ _ ?_
   simp -implicitDefEqProofs (maxSteps := 2000000) (disch := omega) only [go_sem, simprocAttr, hgx]
   refine hclRd_p t.ear.rds (by omega) _ _ ?_
   simp -implicitDefEqProofs (maxSteps := 2000000) (disch := omega) only [go_sem, simprocAttr, hgx, hset]
   exact (ih trivial []).castS rfl (by simp [upd, ins, subF, lookA])
  ·intro j _
   simp -implicitDefEqProofs (maxSteps := 2000000) (disch := omega) only [go_sem, simprocAttr]
   refine ACalls.freezeB σ.length 5 (r := σ.length + 3) (n := L.length) (sz := 6) (xs := L.map Tn.av) (by rw [hget_at0]; rfl) rfl (by rw [hget_at]; rfl) (by simp) ?_
   rw [hset_at, hset_at0]
   simp only [List.set_cons_succ, List.set_cons_zero]
   rw [← hsn]
   refine ACalls.weaken (l' := [(r.snoc x).av, .list .no 1 (([] : List Int).map (.int .i64))]) ⟨⟨rfl, rfl, rfl, rfl, ⟨rfl, .inl rfl, .inl rfl⟩, ⟨rfl, .inl rfl, .inl rfl⟩, trivial⟩, ⟨rfl, .inr rfl, .inl rfl⟩, trivial⟩ ?_
   refine known_c (r.snoc x) hfs [] (by simp) (fun hK j => ?_) (fun hK hg a j ha hm => ?_)
   ·have hK' : (knownE (r.snoc x) [] = 0) = False := eq_false hK
    have hE' := hE hK
    simp only [rosZ]
    simp -implicitDefEqProofs (maxSteps := 2000000) (disch := omega) only [go_sem, simprocAttr, hK']
    exact hE' _
   ·have hO' := hO hK
    simp only [Ros.wav]
    simp -implicitDefEqProofs (maxSteps := 2000000) (disch := omega) only [go_sem, simprocAttr]
    rw [hsn] at hO'
    exact hO' _
theorem fewL_of {r : Ros} (hg : r.Good) (hro : rosE r = 0) (hk : knownE r [] = 0) : ∃ m, m ≤ r.hands.toNat ∧ fewL r = hdue r m ∧ hdue r m ≠ [] ∧ ∀ j, j < m → hdue r j = [] := by
 have hne := explR_ne hk
 rcases explR_spec r (entsL r) with ⟨h, _⟩ | ⟨m, g1, g2, g3, g4⟩
 ·exact absurd h hne
 ·have h1 : hdue r m ≠ [] := fun e => g3 ((found_due hg.toHead g1).2 e)
  have h0 : ∀ j, j < m → hdue r j = [] := fun j hj => (found_due hg.toHead (by omega)).1 (g4 j hj)
  exact ⟨m, g1, (fewL_some hg hro g1 h1 h0).2, h1, h0⟩
theorem hdue_len {r : Ros} {m : Nat} {x : List Int} (h : x ∈ hdue r m) : x.length = m := (hcomb_mem (List.mem_filter.1 h).1).1
theorem hdue_sub {r r2 : Ros} (hh : r2.hands = r.hands) (hs : ∀ s u, u ∈ htruthsR r2 (entsL r2) s → u ∈ htruthsR r (entsL r) s) {m : Nat} {x : List Int} (h : x ∈ hdue r2 m) : x ∈ hdue r m := by
 unfold hdue at h ⊢
 rw [hh] at h
 rw [List.mem_filter, decide_eq_true_eq] at h ⊢
 refine ⟨h.1, ?_⟩
 obtain ⟨u, hu⟩ := List.exists_mem_of_ne_nil _ h.2
 exact List.ne_nil_of_mem (hs _ _ hu)
theorem few_more {r r2 : Ros} (hg : r.Good) (hro : rosE r = 0) (hk : knownE r [] = 0) (hg2 : r2.Good) (hro2 : rosE r2 = 0) (hk2 : knownE r2 [] = 0) (hh : r2.hands = r.hands) (hs : ∀ s u, u ∈ htruthsR r2 (entsL r2) s → u ∈ htruthsR r (entsL r) s) :
  ∃ m m2, m ≤ m2 ∧ (∀ x ∈ fewL r, x.length = m) ∧ (∀ x ∈ fewL r2, x.length = m2) ∧ fewL r ≠ [] ∧ fewL r2 ≠ [] ∧ (m2 = m → ∀ x ∈ fewL r2, x ∈ fewL r) := by
 obtain ⟨m, a1, a2, a3, a4⟩ := fewL_of hg hro hk
 obtain ⟨m2, b1, b2, b3, b4⟩ := fewL_of hg2 hro2 hk2
 refine ⟨m, m2, ?_, fun x hx => hdue_len (by rw [← a2]; exact hx), fun x hx => hdue_len (by rw [← b2]; exact hx), by rw [a2]; exact a3, by rw [b2]; exact b3, fun e x hx => ?_⟩
 ·refine Nat.le_of_not_lt fun c => ?_
  obtain ⟨x, hx⟩ := List.exists_mem_of_ne_nil _ b3
  have := hdue_sub hh hs hx
  rw [a4 m2 c] at this; simp at this
 ·rw [a2, ← e]; rw [b2] at hx; exact hdue_sub hh hs hx
def entB (r : Ros) (x : Tn) (d u : List Int) : Bool := (List.range r.hands.toNat).any fun (h : Nat) => if 0 ≤ x.hand ∧ x.hand ≠ (h : Int) then false else d.any fun e => decide (-r.skill ≤ e - offX r u h x.day ∧ e - offX r u h x.day ≤ r.skill)
theorem isB_ent {r : Ros} {ds : List (List Int)} {u : List Int} : isB r ds u = (List.range r.ents.length).all fun i => entB r (r.ents.getD i default) (ds.getD i []) u := rfl
theorem allR_snoc {r : Ros} {x : Tn} {s : Nat} : ∀ (m : Nat) (v : List Int) (a : Nat), allR (r.snoc x) s m v a = allR r s m v a
 | 0, v, a => rfl
 | m + 1, v, a => by
  simp only [allR]
  have e : (fun (k : Nat) => if (r.snoc x).mn + (k : Int) = 0 then [] else allR (r.snoc x) s m (setI v a ((r.snoc x).mn + k)) (a + 1)) = fun (k : Nat) => if r.mn + (k : Int) = 0 then [] else allR r s m (setI v a (r.mn + k)) (a + 1) := by
   funext k; rw [allR_snoc m]; rfl
  rw [e, allR_snoc m]; rfl
theorem entsL_snoc {r : Ros} {x : Tn} : entsL (r.snoc x) = entsL r ++ [(chkE x r.hands).1] := by
 show ((r.ents ++ [x]).map fun x => (chkE x r.hands).1) = _
 rw [List.map_append]; rfl
theorem snoc_truth {r : Ros} {x : Tn} {s : Nat} {u : List Int} : u ∈ htruthsR (r.snoc x) (entsL (r.snoc x)) s ↔ u ∈ htruthsR r (entsL r) s ∧ entB r x (chkE x r.hands).1 u = true := by
 unfold htruthsR
 have e : isB (r.snoc x) (entsL (r.snoc x)) u = (isB r (entsL r) u && entB r x (chkE x r.hands).1 u) := by
  rw [isB_ent, isB_ent, entsL_snoc]
  show (List.range (r.ents ++ [x]).length).all _ = _
  rw [List.length_append, List.length_singleton, List.range_succ, List.all_append]
  have hl : (entsL r).length = r.ents.length := entsL_len r
  congr 1
  ·rw [Bool.eq_iff_iff, List.all_eq_true, List.all_eq_true]
   refine forall_congr' fun i => ?_
   refine ⟨fun h hi => ?_, fun h hi => ?_⟩
   all_goals
    have hi' := List.mem_range.1 hi
    have h1 := h hi
    have e1 : (r.snoc x).ents.getD i default = r.ents.getD i default := by
     show (r.ents ++ [x]).getD i default = _
     rw [List.getD_eq_getElem?_getD, List.getD_eq_getElem?_getD, List.getElem?_append_left hi']
    have e2 : (entsL r ++ [(chkE x r.hands).1]).getD i [] = (entsL r).getD i [] := by
     rw [List.getD_eq_getElem?_getD, List.getD_eq_getElem?_getD, List.getElem?_append_left (by omega)]
    first
     | (rw [e1, e2] at h1; exact h1)
     | (rw [e1, e2]; exact h1)
  ·rw [List.all_cons, List.all_nil, Bool.and_true]
   have e1 : (r.snoc x).ents.getD r.ents.length default = x := by
    show (r.ents ++ [x]).getD r.ents.length default = _
    rw [List.getD_eq_getElem?_getD, List.getElem?_append_right (Nat.le_refl _)]; simp
   have e2 : (entsL r ++ [(chkE x r.hands).1]).getD r.ents.length [] = (chkE x r.hands).1 := by
    rw [List.getD_eq_getElem?_getD, List.getElem?_append_right (by omega), hl]; simp
   rw [e1, e2]; rfl
 rw [List.mem_filter, List.mem_filter, e, Bool.and_eq_true]
 show u ∈ allR (r.snoc x) s r.hands.toNat [0, 0, 0, 0] 0 ∧ _ ↔ _
 rw [allR_snoc, and_assoc]
theorem snoc_sub {r : Ros} {x : Tn} : ∀ s u, u ∈ htruthsR (r.snoc x) (entsL (r.snoc x)) s → u ∈ htruthsR r (entsL r) s := fun s u h => (snoc_truth.1 h).1
def handX (x : Tn) (b : Int) : Tn := { x with hand := b }
def toldR (r : Ros) (i : Nat) (b : Int) : Ros := { r with ents := r.ents.set i (handX (r.ents.getD i default) b) }
theorem chkE_hand {x : Tn} {b h : Int} (h1 : -1 ≤ x.hand ∧ x.hand ≤ h - 1) (h2 : -1 ≤ b ∧ b ≤ h - 1) : chkE (handX x b) h = chkE x h := by
 unfold chkE handX
 simp only [h1, h2, and_self, not_true_eq_false, if_false]
theorem TrueR.told {H E w : Int} {r : Ros} {rates by_ : List Int} (h : TrueR H E w r rates by_) {i : Nat} (hi : i < r.ents.length) (hi2 : i < by_.length) : TrueR H E w (toldR r i by_[i]) rates by_ := by
 refine ⟨h.hands, h.skill, h.mn, h.mx, h.rl, h.rate, h.sl, h.set, by show ((r.ents.set i _).length : Int) ≤ E; rw [List.length_set]; exact h.el, by show by_.length = (r.ents.set i _).length; rw [List.length_set]; exact h.bl, fun k hk hk2 => ?_⟩
 have hk3 : k < r.ents.length := by have : k < (r.ents.set i (handX (r.ents.getD i default) by_[i])).length := hk; rwa [List.length_set] at this
 have hT := h.ent k hk3 hk2
 have hg : r.ents.getD i default = r.ents[i] := by simp [List.getD, List.getElem?_eq_getElem hi]
 have hk4 : k < (r.ents.set i (handX (r.ents.getD i default) by_[i])).length := hk
 have e : (toldR r i by_[i]).ents[k]'hk = if i = k then handX r.ents[i] by_[i] else r.ents[k] := by
  show (r.ents.set i (handX (r.ents.getD i default) by_[i]))[k]'hk4 = _
  rw [List.getElem_set]
  simp only [hg]
 rw [e]
 by_cases c : i = k
 ·subst c
  rw [if_pos rfl]
  exact ⟨hT.by_in, hT.day, .inl rfl, hT.due, hT.ear⟩
 ·rw [if_neg c]
  exact hT.congr rfl rfl rfl
theorem TrueR.snoc {H E w : Int} {r : Ros} {rates by_ : List Int} (h : TrueR H E w r rates by_) {x : Tn} {b : Int} (hx : TrueT r rates w x b) : TrueR H (E + 1) w (r.snoc x) rates (by_ ++ [b]) := by
 refine ⟨h.hands, h.skill, h.mn, h.mx, h.rl, h.rate, h.sl, h.set, by show ((r.ents ++ [x]).length : Int) ≤ E + 1; have := h.el; simp; omega, by show (by_ ++ [b]).length = (r.ents ++ [x]).length; simp [h.bl], fun k hk hk2 => ?_⟩
 have hbl := h.bl
 have hk4 : k < (r.ents ++ [x]).length := hk
 show TrueT (r.snoc x) rates w ((r.ents ++ [x])[k]'hk4) _
 rw [List.getElem_append, List.getElem_append]
 split <;> split
 ·exact (h.ent k (by assumption) (by assumption)).congr rfl rfl rfl
 ·omega
 ·omega
 ·simp only [List.getElem_singleton]; exact hx.congr rfl rfl rfl
theorem allR_told {r : Ros} {i : Nat} {b : Int} {s : Nat} : ∀ (m : Nat) (v : List Int) (a : Nat), allR (toldR r i b) s m v a = allR r s m v a
 | 0, v, a => rfl
 | m + 1, v, a => by
  simp only [allR]
  have e : (fun (k : Nat) => if (toldR r i b).mn + (k : Int) = 0 then [] else allR (toldR r i b) s m (setI v a ((toldR r i b).mn + k)) (a + 1)) = fun (k : Nat) => if r.mn + (k : Int) = 0 then [] else allR r s m (setI v a (r.mn + k)) (a + 1) := by
   funext k; rw [allR_told m]; rfl
  rw [e, allR_told m]; rfl
theorem told_truth {r : Ros} {i : Nat} (hi : i < r.ents.length) {b : Int} (hb : 0 ≤ b ∧ b < r.hands) (hx : (r.ents.getD i default).hand = b ∨ (r.ents.getD i default).hand = -1) : ∀ s u, u ∈ htruthsR (toldR r i b) (entsL (toldR r i b)) s → u ∈ htruthsR r (entsL r) s := by
 intro s u hu
 unfold htruthsR at hu ⊢
 rw [List.mem_filter] at hu ⊢
 obtain ⟨h1, h2⟩ := hu
 refine ⟨by rw [← allR_told (i := i) (b := b)]; exact h1, ?_⟩
 have hd : entsL (toldR r i b) = entsL r := by
  unfold entsL
  show ((r.ents.set i (handX (r.ents.getD i default) b)).map fun x => (chkE x r.hands).1) = _
  rw [List.map_set]
  have hc : chkE (handX (r.ents.getD i default) b) r.hands = chkE (r.ents.getD i default) r.hands := chkE_hand (by omega) (by omega)
  rw [hc]
  refine List.ext_getElem (by simp) fun k g1 g2 => ?_
  rw [List.getElem_set]
  split
  ·rename_i e; subst e
   have : r.ents.getD i default = r.ents[i] := by simp [List.getD, List.getElem?_eq_getElem hi]
   rw [this]; simp
  ·rfl
 rw [isB_ent, hd, List.all_eq_true] at h2
 rw [isB_ent, List.all_eq_true]
 intro k hk
 have hk' := List.mem_range.1 hk
 have g := h2 k (by show k ∈ List.range (r.ents.set i _).length; rw [List.length_set]; exact hk)
 by_cases c : i = k
 ·subst c
  have e : (toldR r i b).ents.getD i default = handX (r.ents.getD i default) b := by
   show (r.ents.set i _).getD i default = _
   rw [List.getD_eq_getElem?_getD, List.getElem?_set_self hi]; rfl
  rw [e] at g
  unfold entB at g ⊢
  rw [List.any_eq_true] at g ⊢
  obtain ⟨h, hh, gg⟩ := g
  refine ⟨h, hh, ?_⟩
  have eh : (handX (r.ents.getD i default) b).hand = b := rfl
  have ed : (handX (r.ents.getD i default) b).day = (r.ents.getD i default).day := rfl
  rw [eh, ed] at gg
  by_cases c2 : 0 ≤ b ∧ b ≠ (h : Int)
  ·rw [if_pos c2] at gg; cases gg
  ·rw [if_neg c2] at gg
   rw [if_neg (by rcases hx with hx | hx <;> omega)]
   exact gg
 ·have e : (toldR r i b).ents.getD k default = r.ents.getD k default := by
   show (r.ents.set i _).getD k default = _
   rw [List.getD_eq_getElem?_getD, List.getElem?_set_ne c, ← List.getD_eq_getElem?_getD]
  rw [e] at g
  exact g
theorem few_cons {r r2 : Ros} (hg : r.Good) (hro : rosE r = 0) (hk : knownE r [] = 0) (hg2 : r2.Good) (hro2 : rosE r2 = 0) (hk2 : knownE r2 [] = 0) (hh : r2.hands = r.hands) (hs : ∀ s u, u ∈ htruthsR r2 (entsL r2) s → u ∈ htruthsR r (entsL r) s) {f0 : List Int} {F : List (List Int)} (hF : fewL r = f0 :: F) :
  ∃ g0 G, fewL r2 = g0 :: G ∧ f0.length ≤ g0.length ∧ g0.length ≤ 4 ∧ G.length ≤ 5 ∧ (∀ x ∈ g0 :: G, x.length ≤ 4) ∧ (g0.length = f0.length → ∀ x ∈ g0 :: G, x ∈ f0 :: F) := by
 obtain ⟨m, m2, h1, h2, h3, h4, h5, h6⟩ := few_more hg hro hk hg2 hro2 hk2 hh hs
 obtain ⟨g0, G, hG⟩ := List.exists_cons_of_ne_nil h5
 rw [hF] at h2 h6
 obtain ⟨q1, q2⟩ := fewL_few r2
 rw [hG] at h3 h6 q1 q2
 have a := h2 f0 (by simp)
 have b := h3 g0 (by simp)
 refine ⟨g0, G, hG, by omega, q2 g0 (by simp), by simp at q1; omega, q2, fun e => h6 (by omega)⟩
end Go.Proofs
