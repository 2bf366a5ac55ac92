/- The environment in which the first append to an empty literal of some types gives a slice that is written into. -/
import Derived.Test.YthejgnlikaiddaaDoorRl
set_option linter.unusedSimpArgs false
set_option linter.unusedVariables false
namespace Go.Proofs
open Go Go.Mu

def vTy (t : Nat) : Bool := t == 22
def Tryd.tyV (t : Nat) : TI := if vTy t = true then (Tryd.ty t).v else Tryd.ty t
theorem Tryd.tyV_kd (t : Nat) : (Tryd.tyV t).kd = (Tryd.ty t).kd := by unfold Tryd.tyV; split <;> rfl
theorem Tryd.tyV_sz (t : Nat) : (Tryd.tyV t).sz = (Tryd.ty t).sz := by unfold Tryd.tyV; split <;> rfl
theorem Tryd.tyV_bytes (t : Nat) : (Tryd.tyV t).bytes = (Tryd.ty t).bytes := by unfold Tryd.tyV; split <;> rfl
theorem Tryd.tyV_zero (t : Nat) : (Tryd.tyV t).zero = (Tryd.ty t).zero := by unfold Tryd.tyV; split <;> rfl
theorem Tryd.tyV_eqn (t : Nat) : (Tryd.tyV t).eqn = (Tryd.ty t).eqn := by unfold Tryd.tyV; split <;> rfl
theorem Tryd.tysOKV : TysOK Tryd.prog Tryd.tyV := fun t h => by
  rw [Tryd.tyV_kd] at h
  have h2 := Tryd.tysOK t h
  exact ⟨by rw [Tryd.tyV_sz, Tryd.tyV_bytes, Tryd.tyV_zero]; exact h2.info, by rw [Tryd.tyV_kd]; exact h2.kd⟩
theorem Tryd.tyV2 : Tryd.tyV 2 = { sz := 1, bytes := 8, kd := .int .i64, zero := .int .i64 0, eqn := false } := rfl
theorem Tryd.tyV3 : Tryd.tyV 3 = { sz := 1, bytes := 8, kd := .int .i64, zero := .int .i64 0, eqn := false } := rfl
theorem Tryd.tyV4 : Tryd.tyV 4 = { sz := 1, bytes := 1, kd := .bool, zero := .bool false, eqn := false } := rfl
theorem Tryd.tyV5 : Tryd.tyV 5 = { sz := 1, bytes := 1, kd := .int .u8, zero := .int .u8 0, eqn := false } := rfl
theorem Tryd.tyV6 : Tryd.tyV 6 = { sz := 1, bytes := 1, kd := .int .u8, zero := .int .u8 0, eqn := false } := rfl
theorem Tryd.tyV8 : Tryd.tyV 8 = { sz := 4, bytes := 24, kd := .strct [(0, 2), (1, 3), (2, 4), (3, 6)], zero := .agg [.int .i64 0, .int .i64 0, .bool false, .int .u8 0], eqn := false } := rfl
theorem Tryd.tyV9 : Tryd.tyV 9 = { sz := 1, bytes := 16, kd := .str, zero := .str ByteArray.empty, eqn := false } := rfl
theorem Tryd.tyV10 : Tryd.tyV 10 = { sz := 1, bytes := 16, kd := .str, zero := .str ByteArray.empty, eqn := false } := rfl
theorem Tryd.tyV11 : Tryd.tyV 11 = { sz := 1, bytes := 16, kd := .str, zero := .str ByteArray.empty, eqn := false } := rfl
theorem Tryd.tyV12 : Tryd.tyV 12 = { sz := 1, bytes := 8, kd := .int .u64, zero := .int .u64 0, eqn := false } := rfl
theorem Tryd.tyV14 : Tryd.tyV 14 = { sz := 2, bytes := 24, kd := .strct [(0, 9), (1, 12)], zero := .agg [.str ByteArray.empty, .int .u64 0], eqn := false } := rfl
theorem Tryd.tyV15 : Tryd.tyV 15 = { sz := 1, bytes := 8, kd := .ptr 164, zero := .nilptr, eqn := false } := rfl
theorem Tryd.tyV16 : Tryd.tyV 16 = { sz := 1, bytes := 8, kd := .ptr 167, zero := .nilptr, eqn := false } := rfl
theorem Tryd.tyV17 : Tryd.tyV 17 = { sz := 1, bytes := 8, kd := .ptr 175, zero := .nilptr, eqn := false } := rfl
theorem Tryd.tyV19 : Tryd.tyV 19 = { sz := 1, bytes := 8, kd := .strct [(0, 17)], zero := .agg [.nilptr], eqn := false } := rfl
theorem Tryd.tyV20 : Tryd.tyV 20 = { sz := 1, bytes := 16, kd := .iface, zero := .niliface, eqn := false } := rfl
theorem Tryd.tyV21 : Tryd.tyV 21 = { sz := 1, bytes := 4, kd := .int .i32, zero := .int .i32 0, eqn := false } := rfl
theorem Tryd.tyV22 : Tryd.tyV 22 = { sz := 1, bytes := 24, kd := .slice 3, zero := .list .full 0 [], eqn := false, vc := true } := rfl
theorem Tryd.tyV23 : Tryd.tyV 23 = { sz := 1, bytes := 8, kd := .ptr 75, zero := .nilptr, eqn := false } := rfl
theorem Tryd.tyV25 : Tryd.tyV 25 = { sz := 1, bytes := 24, kd := .slice 49, zero := .list .full 0 [], eqn := false } := rfl
theorem Tryd.tyV27 : Tryd.tyV 27 = { sz := 2, bytes := 32, kd := .strct [(0, 3), (1, 25)], zero := .agg [.int .i64 0, .list .full 0 []], eqn := false } := rfl
theorem Tryd.tyV30 : Tryd.tyV 30 = { sz := 3, bytes := 48, kd := .strct [(0, 22), (1, 9), (2, 3)], zero := .agg [.list .full 0 [], .str ByteArray.empty, .int .i64 0], eqn := false } := rfl
theorem Tryd.tyV34 : Tryd.tyV 34 = { sz := 1, bytes := 8, kd := .int .i64, zero := .int .i64 0, eqn := false } := rfl
theorem Tryd.tyV37 : Tryd.tyV 37 = { sz := 1, bytes := 24, kd := .slice 22, zero := .list .full 0 [], eqn := false } := rfl
theorem Tryd.tyV46 : Tryd.tyV 46 = { sz := 1, bytes := 8, kd := .func, zero := .nilfn, eqn := false } := rfl
theorem Tryd.tyV47 : Tryd.tyV 47 = { sz := 1, bytes := 24, kd := .slice 57, zero := .list .full 0 [], eqn := false } := rfl
theorem Tryd.tyV49 : Tryd.tyV 49 = { sz := 3, bytes := 56, kd := .strct [(0, 3), (1, 37), (2, 47)], zero := .agg [.int .i64 0, .list .full 0 [], .list .full 0 []], eqn := false } := rfl
theorem Tryd.tyV50 : Tryd.tyV 50 = { sz := 1, bytes := 24, kd := .slice 5, zero := .list .full 0 [], eqn := false } := rfl
theorem Tryd.tyV57 : Tryd.tyV 57 = { sz := 2, bytes := 16, kd := .strct [(0, 3), (1, 3)], zero := .agg [.int .i64 0, .int .i64 0], eqn := true } := rfl
theorem Tryd.tyV73 : Tryd.tyV 73 = { sz := 1, bytes := 8, kd := .int .u64, zero := .int .u64 0, eqn := false } := rfl
theorem Tryd.tyV75 : Tryd.tyV 75 = { sz := 1, bytes := 8, kd := .strct [(0, 73)], zero := .agg [.int .u64 0], eqn := false } := rfl
theorem Tryd.tyV76 : Tryd.tyV 76 = { sz := 1, bytes := 8, kd := .int .u64, zero := .int .u64 0, eqn := false } := rfl
theorem Tryd.tyV82 : Tryd.tyV 82 = { sz := 1, bytes := 24, kd := .slice 87, zero := .list .full 0 [], eqn := false } := rfl
theorem Tryd.tyV85 : Tryd.tyV 85 = { sz := 4, bytes := 32, kd := .arr 4 3, zero := .agg [.int .i64 0, .int .i64 0, .int .i64 0, .int .i64 0], eqn := false } := rfl
theorem Tryd.tyV87 : Tryd.tyV 87 = { sz := 8, bytes := 64, kd := .strct [(0, 3), (1, 3), (2, 85), (6, 57)], zero := .agg [.int .i64 0, .int .i64 0, .int .i64 0, .int .i64 0, .int .i64 0, .int .i64 0, .int .i64 0, .int .i64 0], eqn := false } := rfl
theorem Tryd.tyV91 : Tryd.tyV 91 = { sz := 1, bytes := 8, kd := .func, zero := .nilfn, eqn := false } := rfl
theorem Tryd.tyV100 : Tryd.tyV 100 = { sz := 1, bytes := 8, kd := .map 3 102, zero := .nilmap, eqn := false } := rfl
theorem Tryd.tyV102 : Tryd.tyV 102 = { sz := 1, bytes := 8, kd := .int .u64, zero := .int .u64 0, eqn := false } := rfl
theorem Tryd.tyV108 : Tryd.tyV 108 = { sz := 1, bytes := 8, kd := .func, zero := .nilfn, eqn := false } := rfl
theorem Tryd.tyV110 : Tryd.tyV 110 = { sz := 1, bytes := 8, kd := .func, zero := .nilfn, eqn := false } := rfl
theorem Tryd.tyV111 : Tryd.tyV 111 = { sz := 1, bytes := 8, kd := .func, zero := .nilfn, eqn := false } := rfl
theorem Tryd.tyV113 : Tryd.tyV 113 = { sz := 1, bytes := 8, kd := .map 102 3, zero := .nilmap, eqn := false } := rfl
theorem Tryd.tyV114 : Tryd.tyV 114 = { sz := 1, bytes := 8, kd := .func, zero := .nilfn, eqn := false } := rfl
theorem Tryd.tyV116 : Tryd.tyV 116 = { sz := 1, bytes := 8, kd := .func, zero := .nilfn, eqn := false } := rfl
theorem Tryd.tyV122 : Tryd.tyV 122 = { sz := 1, bytes := 8, kd := .func, zero := .nilfn, eqn := false } := rfl
theorem Tryd.tyV123 : Tryd.tyV 123 = { sz := 1, bytes := 8, kd := .func, zero := .nilfn, eqn := false } := rfl
theorem Tryd.tyV126 : Tryd.tyV 126 = { sz := 1, bytes := 24, kd := .slice 34, zero := .list .full 0 [], eqn := false } := rfl
theorem Tryd.tyV127 : Tryd.tyV 127 = { sz := 1, bytes := 8, kd := .func, zero := .nilfn, eqn := false } := rfl
theorem Tryd.tyV136 : Tryd.tyV 136 = { sz := 1, bytes := 4, kd := .int .u32, zero := .int .u32 0, eqn := false } := rfl
theorem Tryd.tyV139 : Tryd.tyV 139 = { sz := 24, bytes := 24, kd := .arr 24 5, zero := .agg [.int .u8 0, .int .u8 0, .int .u8 0, .int .u8 0, .int .u8 0, .int .u8 0, .int .u8 0, .int .u8 0, .int .u8 0, .int .u8 0, .int .u8 0, .int .u8 0, .int .u8 0, .int .u8 0, .int .u8 0, .int .u8 0, .int .u8 0, .int .u8 0, .int .u8 0, .int .u8 0, .int .u8 0, .int .u8 0, .int .u8 0, .int .u8 0], eqn := false } := rfl
theorem Tryd.tyV144 : Tryd.tyV 144 = { sz := 1, bytes := 8, kd := .int .i64, zero := .int .i64 0, eqn := false } := rfl
theorem Tryd.tyV151 : Tryd.tyV 151 = { sz := 20, bytes := 160, kd := .arr 20 73, zero := .agg [.int .u64 0, .int .u64 0, .int .u64 0, .int .u64 0, .int .u64 0, .int .u64 0, .int .u64 0, .int .u64 0, .int .u64 0, .int .u64 0, .int .u64 0, .int .u64 0, .int .u64 0, .int .u64 0, .int .u64 0, .int .u64 0, .int .u64 0, .int .u64 0, .int .u64 0, .int .u64 0], eqn := false } := rfl
theorem Tryd.tyV152 : Tryd.tyV 152 = { sz := 65, bytes := 65, kd := .arr 65 5, zero := .agg [.int .u8 0, .int .u8 0, .int .u8 0, .int .u8 0, .int .u8 0, .int .u8 0, .int .u8 0, .int .u8 0, .int .u8 0, .int .u8 0, .int .u8 0, .int .u8 0, .int .u8 0, .int .u8 0, .int .u8 0, .int .u8 0, .int .u8 0, .int .u8 0, .int .u8 0, .int .u8 0, .int .u8 0, .int .u8 0, .int .u8 0, .int .u8 0, .int .u8 0, .int .u8 0, .int .u8 0, .int .u8 0, .int .u8 0, .int .u8 0, .int .u8 0, .int .u8 0, .int .u8 0, .int .u8 0, .int .u8 0, .int .u8 0, .int .u8 0, .int .u8 0, .int .u8 0, .int .u8 0, .int .u8 0, .int .u8 0, .int .u8 0, .int .u8 0, .int .u8 0, .int .u8 0, .int .u8 0, .int .u8 0, .int .u8 0, .int .u8 0, .int .u8 0, .int .u8 0, .int .u8 0, .int .u8 0, .int .u8 0, .int .u8 0, .int .u8 0, .int .u8 0, .int .u8 0, .int .u8 0, .int .u8 0, .int .u8 0, .int .u8 0, .int .u8 0, .int .u8 0], eqn := false } := rfl
theorem Tryd.tyV153 : Tryd.tyV 153 = { sz := 1, bytes := 8, kd := .int .u64, zero := .int .u64 0, eqn := false } := rfl
theorem Tryd.tyV156 : Tryd.tyV 156 = { sz := 1, bytes := 8, kd := .ptr 3, zero := .nilptr, eqn := false } := rfl
theorem Tryd.tyV158 : Tryd.tyV 158 = { sz := 1, bytes := 8, kd := .ptr 153, zero := .nilptr, eqn := false } := rfl
theorem Tryd.tyV160 : Tryd.tyV 160 = { sz := 32, bytes := 32, kd := .arr 32 5, zero := .agg [.int .u8 0, .int .u8 0, .int .u8 0, .int .u8 0, .int .u8 0, .int .u8 0, .int .u8 0, .int .u8 0, .int .u8 0, .int .u8 0, .int .u8 0, .int .u8 0, .int .u8 0, .int .u8 0, .int .u8 0, .int .u8 0, .int .u8 0, .int .u8 0, .int .u8 0, .int .u8 0, .int .u8 0, .int .u8 0, .int .u8 0, .int .u8 0, .int .u8 0, .int .u8 0, .int .u8 0, .int .u8 0, .int .u8 0, .int .u8 0, .int .u8 0, .int .u8 0], eqn := false } := rfl
theorem Tryd.tyV161 : Tryd.tyV 161 = { sz := 64, bytes := 64, kd := .arr 64 5, zero := .agg [.int .u8 0, .int .u8 0, .int .u8 0, .int .u8 0, .int .u8 0, .int .u8 0, .int .u8 0, .int .u8 0, .int .u8 0, .int .u8 0, .int .u8 0, .int .u8 0, .int .u8 0, .int .u8 0, .int .u8 0, .int .u8 0, .int .u8 0, .int .u8 0, .int .u8 0, .int .u8 0, .int .u8 0, .int .u8 0, .int .u8 0, .int .u8 0, .int .u8 0, .int .u8 0, .int .u8 0, .int .u8 0, .int .u8 0, .int .u8 0, .int .u8 0, .int .u8 0, .int .u8 0, .int .u8 0, .int .u8 0, .int .u8 0, .int .u8 0, .int .u8 0, .int .u8 0, .int .u8 0, .int .u8 0, .int .u8 0, .int .u8 0, .int .u8 0, .int .u8 0, .int .u8 0, .int .u8 0, .int .u8 0, .int .u8 0, .int .u8 0, .int .u8 0, .int .u8 0, .int .u8 0, .int .u8 0, .int .u8 0, .int .u8 0, .int .u8 0, .int .u8 0, .int .u8 0, .int .u8 0, .int .u8 0, .int .u8 0, .int .u8 0, .int .u8 0], eqn := false } := rfl
theorem Tryd.tyV164 : Tryd.tyV 164 = { sz := 4, bytes := 40, kd := .strct [(0, 17), (1, 17), (2, 17), (3, 9)], zero := .agg [.nilptr, .nilptr, .nilptr, .str ByteArray.empty], eqn := false } := rfl
theorem Tryd.tyV165 : Tryd.tyV 165 = { sz := 0, bytes := 0, kd := .arr 0 16, zero := .agg [], eqn := false } := rfl
theorem Tryd.tyV167 : Tryd.tyV 167 = { sz := 0, bytes := 0, kd := .strct [(0, 165)], zero := .agg [], eqn := false } := rfl
theorem Tryd.tyV168 : Tryd.tyV 168 = { sz := 1, bytes := 1, kd := .int .u8, zero := .int .u8 0, eqn := false } := rfl
theorem Tryd.tyV169 : Tryd.tyV 169 = { sz := 1, bytes := 1, kd := .int .u8, zero := .int .u8 0, eqn := false } := rfl
theorem Tryd.tyV170 : Tryd.tyV 170 = { sz := 1, bytes := 8, kd := .func, zero := .nilfn, eqn := false } := rfl
theorem Tryd.tyV171 : Tryd.tyV 171 = { sz := 1, bytes := 8, kd := .ptr 5, zero := .nilptr, eqn := false } := rfl
theorem Tryd.tyV172 : Tryd.tyV 172 = { sz := 1, bytes := 4, kd := .int .i32, zero := .int .i32 0, eqn := false } := rfl
theorem Tryd.tyV173 : Tryd.tyV 173 = { sz := 1, bytes := 4, kd := .int .i32, zero := .int .i32 0, eqn := false } := rfl
theorem Tryd.tyV175 : Tryd.tyV 175 = { sz := 11, bytes := 48, kd := .strct [(0, 12), (1, 12), (2, 136), (3, 168), (4, 5), (5, 5), (6, 169), (7, 170), (8, 171), (9, 172), (10, 173)], zero := .agg [.int .u64 0, .int .u64 0, .int .u32 0, .int .u8 0, .int .u8 0, .int .u8 0, .int .u8 0, .nilfn, .nilptr, .int .i32 0, .int .i32 0], eqn := false } := rfl
theorem Tryd.eqsOKV : EqsOK Tryd.prog Tryd.tyV := ⟨fun t h => Tryd.eqsOK.guard t (by rw [Tryd.tyV_eqn] at h; exact h), fun t h xs ys w h1 h2 => by
  rw [Tryd.tyV_eqn] at h; rw [Tryd.tyV_sz] at h1 h2; exact Tryd.eqsOK.eq t h xs ys w h1 h2⟩
noncomputable def Tryd.Ev (N : Nat) (ord : Nat → List Nat × List (Nat × List Nat)) (fs : FuncId → List AV → Option AV) : Env := { P := Tryd.prog, ty := Tryd.tyV, N := N, mt := Tryd.mt, ord := ord, fs := fs }
theorem Tryd.EvN {N : Nat} {ord : Nat → List Nat × List (Nat × List Nat)} {fs : FuncId → List AV → Option AV} : (Tryd.Ev N ord fs).N = N := rfl
theorem Tryd.Evmt {N : Nat} {ord : Nat → List Nat × List (Nat × List Nat)} {fs : FuncId → List AV → Option AV} : (Tryd.Ev N ord fs).mt = Tryd.mt := rfl
theorem Tryd.EvP {N : Nat} {ord : Nat → List Nat × List (Nat × List Nat)} {fs : FuncId → List AV → Option AV} : (Tryd.Ev N ord fs).P = Tryd.prog := rfl
theorem Tryd.Evty {N : Nat} {ord : Nat → List Nat × List (Nat × List Nat)} {fs : FuncId → List AV → Option AV} : (Tryd.Ev N ord fs).ty = Tryd.tyV := rfl
theorem Tryd.Evord {N : Nat} {ord : Nat → List Nat × List (Nat × List Nat)} {fs : FuncId → List AV → Option AV} : (Tryd.Ev N ord fs).ord = ord := rfl
theorem Tryd.Evfs {N : Nat} {ord : Nat → List Nat × List (Nat × List Nat)} {fs : FuncId → List AV → Option AV} : (Tryd.Ev N ord fs).fs = fs := rfl
theorem Tryd.envOKV (N : Nat) (ord : Nat → List Nat × List (Nat × List Nat)) (fs : FuncId → List AV → Option AV) (h : ∀ f xs v, fs f xs = some v → PureV Tryd.prog f xs v) : EnvOK (Tryd.Ev N ord fs) := ⟨Tryd.tysOKV, Tryd.eqsOKV, Tryd.mtOK, by kernel_rfl, h⟩
attribute [go_sem] Tryd.tyV2 Tryd.tyV3 Tryd.tyV4 Tryd.tyV5 Tryd.tyV6 Tryd.tyV8 Tryd.tyV9 Tryd.tyV10 Tryd.tyV11 Tryd.tyV12 Tryd.tyV14 Tryd.tyV15
attribute [go_sem] Tryd.tyV16 Tryd.tyV17 Tryd.tyV19 Tryd.tyV20 Tryd.tyV21 Tryd.tyV22 Tryd.tyV23 Tryd.tyV25 Tryd.tyV27 Tryd.tyV30 Tryd.tyV34 Tryd.tyV37
attribute [go_sem] Tryd.tyV46 Tryd.tyV47 Tryd.tyV49 Tryd.tyV50 Tryd.tyV57 Tryd.tyV73 Tryd.tyV75 Tryd.tyV76 Tryd.tyV82 Tryd.tyV85 Tryd.tyV87 Tryd.tyV91
attribute [go_sem] Tryd.tyV100 Tryd.tyV102 Tryd.tyV108 Tryd.tyV110 Tryd.tyV111 Tryd.tyV113 Tryd.tyV114 Tryd.tyV116 Tryd.tyV122 Tryd.tyV123 Tryd.tyV126 Tryd.tyV127
attribute [go_sem] Tryd.tyV136 Tryd.tyV139 Tryd.tyV144 Tryd.tyV151 Tryd.tyV152 Tryd.tyV153 Tryd.tyV156 Tryd.tyV158 Tryd.tyV160 Tryd.tyV161 Tryd.tyV164 Tryd.tyV165
attribute [go_sem] Tryd.tyV167 Tryd.tyV168 Tryd.tyV169 Tryd.tyV170 Tryd.tyV171 Tryd.tyV172 Tryd.tyV173 Tryd.tyV175 Tryd.EvN Tryd.Evmt Tryd.EvP Tryd.Evty
attribute [go_sem] Tryd.Evord Tryd.Evfs
end Go.Proofs
