/- The environment in which the first append to an empty literal of some types gives a slice that is written into. -/
import Derived.Test.YthejgnlikaiddaaGreatDoorRl
set_option linter.unusedSimpArgs false
set_option linter.unusedVariables false
namespace Go.Proofs
open Go Go.Mu

def vTy (t : Nat) : Bool := t == 25
def Tryz.tyV (t : Nat) : TI := if vTy t = true then (Tryz.ty t).v else Tryz.ty t
theorem Tryz.tyV_kd (t : Nat) : (Tryz.tyV t).kd = (Tryz.ty t).kd := by unfold Tryz.tyV; split <;> rfl
theorem Tryz.tyV_sz (t : Nat) : (Tryz.tyV t).sz = (Tryz.ty t).sz := by unfold Tryz.tyV; split <;> rfl
theorem Tryz.tyV_bytes (t : Nat) : (Tryz.tyV t).bytes = (Tryz.ty t).bytes := by unfold Tryz.tyV; split <;> rfl
theorem Tryz.tyV_zero (t : Nat) : (Tryz.tyV t).zero = (Tryz.ty t).zero := by unfold Tryz.tyV; split <;> rfl
theorem Tryz.tyV_eqn (t : Nat) : (Tryz.tyV t).eqn = (Tryz.ty t).eqn := by unfold Tryz.tyV; split <;> rfl
theorem Tryz.tysOKV : TysOK Tryz.prog Tryz.tyV := fun t h => by
  rw [Tryz.tyV_kd] at h
  have h2 := Tryz.tysOK t h
  exact ⟨by rw [Tryz.tyV_sz, Tryz.tyV_bytes, Tryz.tyV_zero]; exact h2.info, by rw [Tryz.tyV_kd]; exact h2.kd⟩
theorem Tryz.tyV2 : Tryz.tyV 2 = { sz := 1, bytes := 8, kd := .int .i64, zero := .int .i64 0, eqn := false } := rfl
theorem Tryz.tyV3 : Tryz.tyV 3 = { sz := 1, bytes := 8, kd := .int .i64, zero := .int .i64 0, eqn := false } := rfl
theorem Tryz.tyV4 : Tryz.tyV 4 = { sz := 1, bytes := 1, kd := .bool, zero := .bool false, eqn := false } := rfl
theorem Tryz.tyV5 : Tryz.tyV 5 = { sz := 1, bytes := 1, kd := .int .u8, zero := .int .u8 0, eqn := false } := rfl
theorem Tryz.tyV6 : Tryz.tyV 6 = { sz := 1, bytes := 1, kd := .int .u8, zero := .int .u8 0, eqn := false } := rfl
theorem Tryz.tyV8 : Tryz.tyV 8 = { sz := 4, bytes := 24, kd := .strct [(0, 2), (1, 3), (2, 4), (3, 6)], zero := .agg [.int .i64 0, .int .i64 0, .bool false, .int .u8 0], eqn := false } := rfl
theorem Tryz.tyV9 : Tryz.tyV 9 = { sz := 1, bytes := 16, kd := .str, zero := .str ByteArray.empty, eqn := false } := rfl
theorem Tryz.tyV10 : Tryz.tyV 10 = { sz := 1, bytes := 16, kd := .str, zero := .str ByteArray.empty, eqn := false } := rfl
theorem Tryz.tyV11 : Tryz.tyV 11 = { sz := 1, bytes := 16, kd := .str, zero := .str ByteArray.empty, eqn := false } := rfl
theorem Tryz.tyV12 : Tryz.tyV 12 = { sz := 1, bytes := 8, kd := .int .u64, zero := .int .u64 0, eqn := false } := rfl
theorem Tryz.tyV14 : Tryz.tyV 14 = { sz := 2, bytes := 24, kd := .strct [(0, 9), (1, 12)], zero := .agg [.str ByteArray.empty, .int .u64 0], eqn := false } := rfl
theorem Tryz.tyV15 : Tryz.tyV 15 = { sz := 1, bytes := 8, kd := .ptr 177, zero := .nilptr, eqn := false } := rfl
theorem Tryz.tyV16 : Tryz.tyV 16 = { sz := 1, bytes := 8, kd := .ptr 180, zero := .nilptr, eqn := false } := rfl
theorem Tryz.tyV17 : Tryz.tyV 17 = { sz := 1, bytes := 8, kd := .ptr 188, zero := .nilptr, eqn := false } := rfl
theorem Tryz.tyV19 : Tryz.tyV 19 = { sz := 1, bytes := 8, kd := .strct [(0, 17)], zero := .agg [.nilptr], eqn := false } := rfl
theorem Tryz.tyV20 : Tryz.tyV 20 = { sz := 1, bytes := 16, kd := .iface, zero := .niliface, eqn := false } := rfl
theorem Tryz.tyV21 : Tryz.tyV 21 = { sz := 1, bytes := 4, kd := .int .i32, zero := .int .i32 0, eqn := false } := rfl
theorem Tryz.tyV22 : Tryz.tyV 22 = { sz := 1, bytes := 24, kd := .slice 63, zero := .list .full 0 [], eqn := false } := rfl
theorem Tryz.tyV24 : Tryz.tyV 24 = { sz := 2, bytes := 32, kd := .strct [(0, 3), (1, 22)], zero := .agg [.int .i64 0, .list .full 0 []], eqn := false } := rfl
theorem Tryz.tyV25 : Tryz.tyV 25 = { sz := 1, bytes := 24, kd := .slice 3, zero := .list .full 0 [], eqn := false, vc := true } := rfl
theorem Tryz.tyV27 : Tryz.tyV 27 = { sz := 3, bytes := 48, kd := .strct [(0, 25), (1, 9), (2, 3)], zero := .agg [.list .full 0 [], .str ByteArray.empty, .int .i64 0], eqn := false } := rfl
theorem Tryz.tyV30 : Tryz.tyV 30 = { sz := 1, bytes := 24, kd := .slice 24, zero := .list .full 0 [], eqn := false } := rfl
theorem Tryz.tyV31 : Tryz.tyV 31 = { sz := 1, bytes := 24, kd := .slice 27, zero := .list .full 0 [], eqn := false } := rfl
theorem Tryz.tyV36 : Tryz.tyV 36 = { sz := 1, bytes := 24, kd := .slice 25, zero := .list .full 0 [], eqn := false } := rfl
theorem Tryz.tyV37 : Tryz.tyV 37 = { sz := 1, bytes := 8, kd := .int .i64, zero := .int .i64 0, eqn := false } := rfl
theorem Tryz.tyV52 : Tryz.tyV 52 = { sz := 2, bytes := 16, kd := .strct [(0, 3), (1, 3)], zero := .agg [.int .i64 0, .int .i64 0], eqn := true } := rfl
theorem Tryz.tyV61 : Tryz.tyV 61 = { sz := 1, bytes := 24, kd := .slice 52, zero := .list .full 0 [], eqn := false } := rfl
theorem Tryz.tyV63 : Tryz.tyV 63 = { sz := 3, bytes := 56, kd := .strct [(0, 3), (1, 36), (2, 61)], zero := .agg [.int .i64 0, .list .full 0 [], .list .full 0 []], eqn := false } := rfl
theorem Tryz.tyV66 : Tryz.tyV 66 = { sz := 1, bytes := 8, kd := .ptr 126, zero := .nilptr, eqn := false } := rfl
theorem Tryz.tyV74 : Tryz.tyV 74 = { sz := 1, bytes := 24, kd := .slice 80, zero := .list .full 0 [], eqn := false } := rfl
theorem Tryz.tyV78 : Tryz.tyV 78 = { sz := 4, bytes := 32, kd := .arr 4 3, zero := .agg [.int .i64 0, .int .i64 0, .int .i64 0, .int .i64 0], eqn := false } := rfl
theorem Tryz.tyV80 : Tryz.tyV 80 = { sz := 8, bytes := 64, kd := .strct [(0, 3), (1, 3), (2, 78), (6, 52)], zero := .agg [.int .i64 0, .int .i64 0, .int .i64 0, .int .i64 0, .int .i64 0, .int .i64 0, .int .i64 0, .int .i64 0], eqn := false } := rfl
theorem Tryz.tyV82 : Tryz.tyV 82 = { sz := 1, bytes := 8, kd := .func, zero := .nilfn, eqn := false } := rfl
theorem Tryz.tyV91 : Tryz.tyV 91 = { sz := 1, bytes := 8, kd := .func, zero := .nilfn, eqn := false } := rfl
theorem Tryz.tyV92 : Tryz.tyV 92 = { sz := 1, bytes := 8, kd := .func, zero := .nilfn, eqn := false } := rfl
theorem Tryz.tyV109 : Tryz.tyV 109 = { sz := 1, bytes := 8, kd := .map 3 112, zero := .nilmap, eqn := false } := rfl
theorem Tryz.tyV111 : Tryz.tyV 111 = { sz := 1, bytes := 8, kd := .int .u64, zero := .int .u64 0, eqn := false } := rfl
theorem Tryz.tyV112 : Tryz.tyV 112 = { sz := 1, bytes := 8, kd := .int .u64, zero := .int .u64 0, eqn := false } := rfl
theorem Tryz.tyV115 : Tryz.tyV 115 = { sz := 1, bytes := 8, kd := .func, zero := .nilfn, eqn := false } := rfl
theorem Tryz.tyV117 : Tryz.tyV 117 = { sz := 1, bytes := 8, kd := .map 112 3, zero := .nilmap, eqn := false } := rfl
theorem Tryz.tyV118 : Tryz.tyV 118 = { sz := 1, bytes := 8, kd := .func, zero := .nilfn, eqn := false } := rfl
theorem Tryz.tyV120 : Tryz.tyV 120 = { sz := 1, bytes := 8, kd := .func, zero := .nilfn, eqn := false } := rfl
theorem Tryz.tyV124 : Tryz.tyV 124 = { sz := 1, bytes := 8, kd := .int .u64, zero := .int .u64 0, eqn := false } := rfl
theorem Tryz.tyV126 : Tryz.tyV 126 = { sz := 1, bytes := 8, kd := .strct [(0, 124)], zero := .agg [.int .u64 0], eqn := false } := rfl
theorem Tryz.tyV131 : Tryz.tyV 131 = { sz := 1, bytes := 24, kd := .slice 37, zero := .list .full 0 [], eqn := false } := rfl
theorem Tryz.tyV134 : Tryz.tyV 134 = { sz := 1, bytes := 8, kd := .func, zero := .nilfn, eqn := false } := rfl
theorem Tryz.tyV135 : Tryz.tyV 135 = { sz := 1, bytes := 8, kd := .func, zero := .nilfn, eqn := false } := rfl
theorem Tryz.tyV139 : Tryz.tyV 139 = { sz := 1, bytes := 8, kd := .func, zero := .nilfn, eqn := false } := rfl
theorem Tryz.tyV145 : Tryz.tyV 145 = { sz := 1, bytes := 8, kd := .func, zero := .nilfn, eqn := false } := rfl
theorem Tryz.tyV148 : Tryz.tyV 148 = { sz := 1, bytes := 4, kd := .int .u32, zero := .int .u32 0, eqn := false } := rfl
theorem Tryz.tyV152 : Tryz.tyV 152 = { sz := 1, bytes := 8, kd := .int .i64, zero := .int .i64 0, eqn := false } := rfl
theorem Tryz.tyV158 : Tryz.tyV 158 = { sz := 24, bytes := 24, kd := .arr 24 5, zero := .agg [.int .u8 0, .int .u8 0, .int .u8 0, .int .u8 0, .int .u8 0, .int .u8 0, .int .u8 0, .int .u8 0, .int .u8 0, .int .u8 0, .int .u8 0, .int .u8 0, .int .u8 0, .int .u8 0, .int .u8 0, .int .u8 0, .int .u8 0, .int .u8 0, .int .u8 0, .int .u8 0, .int .u8 0, .int .u8 0, .int .u8 0, .int .u8 0], eqn := false } := rfl
theorem Tryz.tyV160 : Tryz.tyV 160 = { sz := 1, bytes := 24, kd := .slice 5, zero := .list .full 0 [], eqn := false } := rfl
theorem Tryz.tyV163 : Tryz.tyV 163 = { sz := 1, bytes := 8, kd := .int .u64, zero := .int .u64 0, eqn := false } := rfl
theorem Tryz.tyV166 : Tryz.tyV 166 = { sz := 1, bytes := 8, kd := .ptr 3, zero := .nilptr, eqn := false } := rfl
theorem Tryz.tyV169 : Tryz.tyV 169 = { sz := 20, bytes := 160, kd := .arr 20 124, zero := .agg [.int .u64 0, .int .u64 0, .int .u64 0, .int .u64 0, .int .u64 0, .int .u64 0, .int .u64 0, .int .u64 0, .int .u64 0, .int .u64 0, .int .u64 0, .int .u64 0, .int .u64 0, .int .u64 0, .int .u64 0, .int .u64 0, .int .u64 0, .int .u64 0, .int .u64 0, .int .u64 0], eqn := false } := rfl
theorem Tryz.tyV170 : Tryz.tyV 170 = { sz := 65, bytes := 65, kd := .arr 65 5, zero := .agg [.int .u8 0, .int .u8 0, .int .u8 0, .int .u8 0, .int .u8 0, .int .u8 0, .int .u8 0, .int .u8 0, .int .u8 0, .int .u8 0, .int .u8 0, .int .u8 0, .int .u8 0, .int .u8 0, .int .u8 0, .int .u8 0, .int .u8 0, .int .u8 0, .int .u8 0, .int .u8 0, .int .u8 0, .int .u8 0, .int .u8 0, .int .u8 0, .int .u8 0, .int .u8 0, .int .u8 0, .int .u8 0, .int .u8 0, .int .u8 0, .int .u8 0, .int .u8 0, .int .u8 0, .int .u8 0, .int .u8 0, .int .u8 0, .int .u8 0, .int .u8 0, .int .u8 0, .int .u8 0, .int .u8 0, .int .u8 0, .int .u8 0, .int .u8 0, .int .u8 0, .int .u8 0, .int .u8 0, .int .u8 0, .int .u8 0, .int .u8 0, .int .u8 0, .int .u8 0, .int .u8 0, .int .u8 0, .int .u8 0, .int .u8 0, .int .u8 0, .int .u8 0, .int .u8 0, .int .u8 0, .int .u8 0, .int .u8 0, .int .u8 0, .int .u8 0, .int .u8 0], eqn := false } := rfl
theorem Tryz.tyV171 : Tryz.tyV 171 = { sz := 1, bytes := 8, kd := .ptr 163, zero := .nilptr, eqn := false } := rfl
theorem Tryz.tyV173 : Tryz.tyV 173 = { sz := 32, bytes := 32, kd := .arr 32 5, zero := .agg [.int .u8 0, .int .u8 0, .int .u8 0, .int .u8 0, .int .u8 0, .int .u8 0, .int .u8 0, .int .u8 0, .int .u8 0, .int .u8 0, .int .u8 0, .int .u8 0, .int .u8 0, .int .u8 0, .int .u8 0, .int .u8 0, .int .u8 0, .int .u8 0, .int .u8 0, .int .u8 0, .int .u8 0, .int .u8 0, .int .u8 0, .int .u8 0, .int .u8 0, .int .u8 0, .int .u8 0, .int .u8 0, .int .u8 0, .int .u8 0, .int .u8 0, .int .u8 0], eqn := false } := rfl
theorem Tryz.tyV174 : Tryz.tyV 174 = { sz := 64, bytes := 64, kd := .arr 64 5, zero := .agg [.int .u8 0, .int .u8 0, .int .u8 0, .int .u8 0, .int .u8 0, .int .u8 0, .int .u8 0, .int .u8 0, .int .u8 0, .int .u8 0, .int .u8 0, .int .u8 0, .int .u8 0, .int .u8 0, .int .u8 0, .int .u8 0, .int .u8 0, .int .u8 0, .int .u8 0, .int .u8 0, .int .u8 0, .int .u8 0, .int .u8 0, .int .u8 0, .int .u8 0, .int .u8 0, .int .u8 0, .int .u8 0, .int .u8 0, .int .u8 0, .int .u8 0, .int .u8 0, .int .u8 0, .int .u8 0, .int .u8 0, .int .u8 0, .int .u8 0, .int .u8 0, .int .u8 0, .int .u8 0, .int .u8 0, .int .u8 0, .int .u8 0, .int .u8 0, .int .u8 0, .int .u8 0, .int .u8 0, .int .u8 0, .int .u8 0, .int .u8 0, .int .u8 0, .int .u8 0, .int .u8 0, .int .u8 0, .int .u8 0, .int .u8 0, .int .u8 0, .int .u8 0, .int .u8 0, .int .u8 0, .int .u8 0, .int .u8 0, .int .u8 0, .int .u8 0], eqn := false } := rfl
theorem Tryz.tyV177 : Tryz.tyV 177 = { sz := 4, bytes := 40, kd := .strct [(0, 17), (1, 17), (2, 17), (3, 9)], zero := .agg [.nilptr, .nilptr, .nilptr, .str ByteArray.empty], eqn := false } := rfl
theorem Tryz.tyV178 : Tryz.tyV 178 = { sz := 0, bytes := 0, kd := .arr 0 16, zero := .agg [], eqn := false } := rfl
theorem Tryz.tyV180 : Tryz.tyV 180 = { sz := 0, bytes := 0, kd := .strct [(0, 178)], zero := .agg [], eqn := false } := rfl
theorem Tryz.tyV181 : Tryz.tyV 181 = { sz := 1, bytes := 1, kd := .int .u8, zero := .int .u8 0, eqn := false } := rfl
theorem Tryz.tyV182 : Tryz.tyV 182 = { sz := 1, bytes := 1, kd := .int .u8, zero := .int .u8 0, eqn := false } := rfl
theorem Tryz.tyV183 : Tryz.tyV 183 = { sz := 1, bytes := 8, kd := .func, zero := .nilfn, eqn := false } := rfl
theorem Tryz.tyV184 : Tryz.tyV 184 = { sz := 1, bytes := 8, kd := .ptr 5, zero := .nilptr, eqn := false } := rfl
theorem Tryz.tyV185 : Tryz.tyV 185 = { sz := 1, bytes := 4, kd := .int .i32, zero := .int .i32 0, eqn := false } := rfl
theorem Tryz.tyV186 : Tryz.tyV 186 = { sz := 1, bytes := 4, kd := .int .i32, zero := .int .i32 0, eqn := false } := rfl
theorem Tryz.tyV188 : Tryz.tyV 188 = { sz := 11, bytes := 48, kd := .strct [(0, 12), (1, 12), (2, 148), (3, 181), (4, 5), (5, 5), (6, 182), (7, 183), (8, 184), (9, 185), (10, 186)], zero := .agg [.int .u64 0, .int .u64 0, .int .u32 0, .int .u8 0, .int .u8 0, .int .u8 0, .int .u8 0, .nilfn, .nilptr, .int .i32 0, .int .i32 0], eqn := false } := rfl
theorem Tryz.eqsOKV : EqsOK Tryz.prog Tryz.tyV := ⟨fun t h => Tryz.eqsOK.guard t (by rw [Tryz.tyV_eqn] at h; exact h), fun t h xs ys w h1 h2 => by
  rw [Tryz.tyV_eqn] at h; rw [Tryz.tyV_sz] at h1 h2; exact Tryz.eqsOK.eq t h xs ys w h1 h2⟩
noncomputable def Tryz.Ev (N : Nat) (ord : Nat → List Nat × List (Nat × List Nat)) (fs : FuncId → List AV → Option AV) : Env := { P := Tryz.prog, ty := Tryz.tyV, N := N, mt := Tryz.mt, ord := ord, fs := fs }
theorem Tryz.EvN {N : Nat} {ord : Nat → List Nat × List (Nat × List Nat)} {fs : FuncId → List AV → Option AV} : (Tryz.Ev N ord fs).N = N := rfl
theorem Tryz.Evmt {N : Nat} {ord : Nat → List Nat × List (Nat × List Nat)} {fs : FuncId → List AV → Option AV} : (Tryz.Ev N ord fs).mt = Tryz.mt := rfl
theorem Tryz.EvP {N : Nat} {ord : Nat → List Nat × List (Nat × List Nat)} {fs : FuncId → List AV → Option AV} : (Tryz.Ev N ord fs).P = Tryz.prog := rfl
theorem Tryz.Evty {N : Nat} {ord : Nat → List Nat × List (Nat × List Nat)} {fs : FuncId → List AV → Option AV} : (Tryz.Ev N ord fs).ty = Tryz.tyV := rfl
theorem Tryz.Evord {N : Nat} {ord : Nat → List Nat × List (Nat × List Nat)} {fs : FuncId → List AV → Option AV} : (Tryz.Ev N ord fs).ord = ord := rfl
theorem Tryz.Evfs {N : Nat} {ord : Nat → List Nat × List (Nat × List Nat)} {fs : FuncId → List AV → Option AV} : (Tryz.Ev N ord fs).fs = fs := rfl
theorem Tryz.envOKV (N : Nat) (ord : Nat → List Nat × List (Nat × List Nat)) (fs : FuncId → List AV → Option AV) (h : ∀ f xs v, fs f xs = some v → PureV Tryz.prog f xs v) : EnvOK (Tryz.Ev N ord fs) := ⟨Tryz.tysOKV, Tryz.eqsOKV, Tryz.mtOK, by kernel_rfl, h⟩
attribute [go_sem] Tryz.tyV2 Tryz.tyV3 Tryz.tyV4 Tryz.tyV5 Tryz.tyV6 Tryz.tyV8 Tryz.tyV9 Tryz.tyV10 Tryz.tyV11 Tryz.tyV12 Tryz.tyV14 Tryz.tyV15
attribute [go_sem] Tryz.tyV16 Tryz.tyV17 Tryz.tyV19 Tryz.tyV20 Tryz.tyV21 Tryz.tyV22 Tryz.tyV24 Tryz.tyV25 Tryz.tyV27 Tryz.tyV30 Tryz.tyV31 Tryz.tyV36
attribute [go_sem] Tryz.tyV37 Tryz.tyV52 Tryz.tyV61 Tryz.tyV63 Tryz.tyV66 Tryz.tyV74 Tryz.tyV78 Tryz.tyV80 Tryz.tyV82 Tryz.tyV91 Tryz.tyV92 Tryz.tyV109
attribute [go_sem] Tryz.tyV111 Tryz.tyV112 Tryz.tyV115 Tryz.tyV117 Tryz.tyV118 Tryz.tyV120 Tryz.tyV124 Tryz.tyV126 Tryz.tyV131 Tryz.tyV134 Tryz.tyV135 Tryz.tyV139
attribute [go_sem] Tryz.tyV145 Tryz.tyV148 Tryz.tyV152 Tryz.tyV158 Tryz.tyV160 Tryz.tyV163 Tryz.tyV166 Tryz.tyV169 Tryz.tyV170 Tryz.tyV171 Tryz.tyV173 Tryz.tyV174
attribute [go_sem] Tryz.tyV177 Tryz.tyV178 Tryz.tyV180 Tryz.tyV181 Tryz.tyV182 Tryz.tyV183 Tryz.tyV184 Tryz.tyV185 Tryz.tyV186 Tryz.tyV188 Tryz.EvN Tryz.Evmt
attribute [go_sem] Tryz.EvP Tryz.Evty Tryz.Evord Tryz.Evfs
end Go.Proofs
