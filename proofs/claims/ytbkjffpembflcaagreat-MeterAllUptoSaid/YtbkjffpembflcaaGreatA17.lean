/- Texts of a proof: lemmas. -/
import Derived.Test.YtbkjffpembflcaaGreatA16
set_option linter.unusedSimpArgs false
set_option linter.unusedVariables false
set_option maxRecDepth 100000
namespace Go.Proofs
open Go Go.Mu

theorem to_p (a b : Int) : PureV Tryz.prog 26 [.int .i64 a, .int .i64 b] (Rng.mk a b).av := by
  refine PureV.of_ev (E := Tryz.E 8 (fun _ => ([], [])) fs0) (Tryz.envOK 8 (fun _ => ([], [])) fs0 fs0_ok) (Rng.plain _) Tryz.kp26 Tryz.func26 rfl (by kernel_rfl) (by simp [Tryz.E]) (Callable.of Tryz.func26 (by kernel_rfl) (by kernel_rfl)) (by kernel_rfl) ?_
  intro σ
  simp only [Rng.av]
  simp -implicitDefEqProofs (maxSteps := 2000000) (disch := omega) only [go_sem, reduceCtorEq, Nat.reduceAdd, Nat.reduceSub, Nat.reduceMul, Nat.reduceLT, Nat.reduceLeDiff, Nat.reduceEqDiff, Nat.reduceBEq, Int.reduceToNat, Int.reduceLT, Int.reduceLE, Int.reduceEq, Int.reduceNeg, Int.reduceAdd, Int.reduceSub, Int.reduceMul, ↓reduceIte, Int.reduceBEq, Int.reduceBNe]
def to_s := spec2 tI tI fun a b => some (Rng.mk a b).av
theorem to_ok : ∀ xs v, to_s xs = some v → PureV Tryz.prog 26 xs v :=
  spec2_ok fun a b v h => by simp only [Option.some.injEq] at h; rw [← h]; exact to_p a b
def fs11 (f : FuncId) (xs : List AV) : Option AV := if f = 26 then to_s xs else fs10 f xs
theorem fs11_ok : ∀ f xs v, fs11 f xs = some v → PureV Tryz.prog f xs v := by
  intro f xs v h
  unfold fs11 at h
  split at h
  · rename_i e; subst e; exact to_ok _ _ h
  exact fs10_ok _ _ _ h
attribute [go_sem] fs11 to_s
def countR (a s n : Int) : Rd := ⟨1, a, 0, s, ⟨n, n⟩⟩
def beatR (a b s n : Int) : Rd := ⟨2, a, b, s, ⟨n, n⟩⟩
def higherR (a b : Int) : Rd := ⟨3, a, b, 0, ⟨0, 0⟩⟩
theorem lcount_p (a s n : Int) : PureV Tryz.prog 77 [.int .i64 a, .int .i64 s, .int .i64 n] (countR a s n).av := by
  refine PureV.of_ev (E := Tryz.E 13 (fun _ => ([], [])) fs11) (Tryz.envOK 13 (fun _ => ([], [])) fs11 fs11_ok) (Rd.plain _) Tryz.kp77 Tryz.func77 rfl (by kernel_rfl) (by simp [Tryz.E]) (Callable.of Tryz.func77 (by kernel_rfl) (by kernel_rfl)) (by kernel_rfl) ?_
  intro σ
  simp only [Rd.av, countR]
  simp -implicitDefEqProofs (maxSteps := 2000000) (disch := omega) only [go_sem, reduceCtorEq, Nat.reduceAdd, Nat.reduceSub, Nat.reduceMul, Nat.reduceLT, Nat.reduceLeDiff, Nat.reduceEqDiff, Nat.reduceBEq, Int.reduceToNat, Int.reduceLT, Int.reduceLE, Int.reduceEq, Int.reduceNeg, Int.reduceAdd, Int.reduceSub, Int.reduceMul, ↓reduceIte, Int.reduceBEq, Int.reduceBNe, Rng.av]
theorem lbeat_p (a b s n : Int) : PureV Tryz.prog 78 [.int .i64 a, .int .i64 b, .int .i64 s, .int .i64 n] (beatR a b s n).av := by
  refine PureV.of_ev (E := Tryz.E 16 (fun _ => ([], [])) fs11) (Tryz.envOK 16 (fun _ => ([], [])) fs11 fs11_ok) (Rd.plain _) Tryz.kp78 Tryz.func78 rfl (by kernel_rfl) (by simp [Tryz.E]) (Callable.of Tryz.func78 (by kernel_rfl) (by kernel_rfl)) (by kernel_rfl) ?_
  intro σ
  simp only [Rd.av, beatR]
  simp -implicitDefEqProofs (maxSteps := 2000000) (disch := omega) only [go_sem, reduceCtorEq, Nat.reduceAdd, Nat.reduceSub, Nat.reduceMul, Nat.reduceLT, Nat.reduceLeDiff, Nat.reduceEqDiff, Nat.reduceBEq, Int.reduceToNat, Int.reduceLT, Int.reduceLE, Int.reduceEq, Int.reduceNeg, Int.reduceAdd, Int.reduceSub, Int.reduceMul, ↓reduceIte, Int.reduceBEq, Int.reduceBNe, Rng.av]
theorem lhigher_p (a b : Int) : PureV Tryz.prog 46 [.int .i64 a, .int .i64 b] (higherR a b).av := by
  refine PureV.of_ev (E := Tryz.E 8 (fun _ => ([], [])) fs11) (Tryz.envOK 8 (fun _ => ([], [])) fs11 fs11_ok) (Rd.plain _) Tryz.kp46 Tryz.func46 rfl (by kernel_rfl) (by simp [Tryz.E]) (Callable.of Tryz.func46 (by kernel_rfl) (by kernel_rfl)) (by kernel_rfl) ?_
  intro σ
  simp only [Rd.av, higherR]
  simp -implicitDefEqProofs (maxSteps := 2000000) (disch := omega) only [go_sem, reduceCtorEq, Nat.reduceAdd, Nat.reduceSub, Nat.reduceMul, Nat.reduceLT, Nat.reduceLeDiff, Nat.reduceEqDiff, Nat.reduceBEq, Int.reduceToNat, Int.reduceLT, Int.reduceLE, Int.reduceEq, Int.reduceNeg, Int.reduceAdd, Int.reduceSub, Int.reduceMul, ↓reduceIte, Int.reduceBEq, Int.reduceBNe, Rng.av]
def lcount_s := spec3 tI tI tI fun a s n => some (countR a s n).av
theorem lcount_ok : ∀ xs v, lcount_s xs = some v → PureV Tryz.prog 77 xs v :=
  spec3_ok fun a s n v h => by simp only [Option.some.injEq] at h; rw [← h]; exact lcount_p a s n
def lbeat_s := spec4 tI tI tI tI fun a b s n => some (beatR a b s n).av
theorem lbeat_ok : ∀ xs v, lbeat_s xs = some v → PureV Tryz.prog 78 xs v :=
  spec4_ok fun a b s n v h => by simp only [Option.some.injEq] at h; rw [← h]; exact lbeat_p a b s n
def lhigher_s := spec2 tI tI fun a b => some (higherR a b).av
theorem lhigher_ok : ∀ xs v, lhigher_s xs = some v → PureV Tryz.prog 46 xs v :=
  spec2_ok fun a b v h => by simp only [Option.some.injEq] at h; rw [← h]; exact lhigher_p a b
def fs12 (f : FuncId) (xs : List AV) : Option AV := if f = 77 then lcount_s xs else if f = 78 then lbeat_s xs else if f = 46 then lhigher_s xs else fs11 f xs
theorem fs12_ok : ∀ f xs v, fs12 f xs = some v → PureV Tryz.prog f xs v := by
  intro f xs v h
  unfold fs12 at h
  split at h
  · rename_i e; subst e; exact lcount_ok _ _ h
  split at h
  · rename_i e; subst e; exact lbeat_ok _ _ h
  split at h
  · rename_i e; subst e; exact lhigher_ok _ _ h
  exact fs11_ok _ _ _ h
attribute [go_sem] fs12 lcount_s lbeat_s lhigher_s
def earE : Ear := ⟨0, [⟨44000, 44010⟩, ⟨44005, 44015⟩], [countR 0 10 4400, beatR 0 1 20 2]⟩
def plainE : Ear := ⟨0, [⟨44000, 44010⟩, ⟨44005, 44015⟩], []⟩
def threeE : Ear := ⟨0, [⟨44000, 44002⟩, ⟨44000, 44000⟩, ⟨44001, 44001⟩], []⟩
theorem Ear.plain (e : Ear) : Plain e.av := .agg (by simp; exact ⟨.int, .map fun x _ => Rng.plain x, .map fun x _ => Rd.plain x⟩)
theorem ear_p : PureV Tryz.prog 40 [] earE.av := by
  refine PureV.of_ev (E := Tryz.E 8 (fun _ => ([], [])) fs12) (Tryz.envOK 8 (fun _ => ([], [])) fs12 fs12_ok) (Ear.plain _) Tryz.kp40 Tryz.func40 rfl (by kernel_rfl) (by simp [Tryz.E]) (Callable.of Tryz.func40 (by kernel_rfl) (by kernel_rfl)) (by kernel_rfl) ?_
  intro σ
  simp only [Ear.av, earE]
  simp -implicitDefEqProofs (maxSteps := 2000000) (disch := omega) only [go_sem, reduceCtorEq, Nat.reduceAdd, Nat.reduceSub, Nat.reduceMul, Nat.reduceLT, Nat.reduceLeDiff, Nat.reduceEqDiff, Nat.reduceBEq, Int.reduceToNat, Int.reduceLT, Int.reduceLE, Int.reduceEq, Int.reduceNeg, Int.reduceAdd, Int.reduceSub, Int.reduceMul, ↓reduceIte, Int.reduceBEq, Int.reduceBNe, Rng.av, Rd.av, countR, beatR]
def ear_s : List AV → Option AV
  | [] => some earE.av
  | _ => none
theorem ear_ok : ∀ xs v, ear_s xs = some v → PureV Tryz.prog 40 xs v := by
  intro xs v h
  unfold ear_s at h
  split at h
  · simp only [Option.some.injEq] at h; rw [← h]; exact ear_p
  · cases h
def fs13 (f : FuncId) (xs : List AV) : Option AV := if f = 40 then ear_s xs else fs12 f xs
theorem fs13_ok : ∀ f xs v, fs13 f xs = some v → PureV Tryz.prog f xs v := by
  intro f xs v h
  unfold fs13 at h
  split at h
  · rename_i e; subst e; exact ear_ok _ _ h
  exact fs12_ok _ _ _ h
attribute [go_sem] fs13 ear_s
theorem plain_p : PureV Tryz.prog 42 [] plainE.av := by
  refine PureV.of_ev (E := Tryz.E 5 (fun _ => ([], [])) fs13) (Tryz.envOK 5 (fun _ => ([], [])) fs13 fs13_ok) (Ear.plain _) Tryz.kp42 Tryz.func42 rfl (by kernel_rfl) (by simp [Tryz.E]) (Callable.of Tryz.func42 (by kernel_rfl) (by kernel_rfl)) (by kernel_rfl) ?_
  intro σ
  simp only [Ear.av, plainE]
  simp -implicitDefEqProofs (maxSteps := 2000000) (disch := omega) only [go_sem, reduceCtorEq, Nat.reduceAdd, Nat.reduceSub, Nat.reduceMul, Nat.reduceLT, Nat.reduceLeDiff, Nat.reduceEqDiff, Nat.reduceBEq, Int.reduceToNat, Int.reduceLT, Int.reduceLE, Int.reduceEq, Int.reduceNeg, Int.reduceAdd, Int.reduceSub, Int.reduceMul, ↓reduceIte, Int.reduceBEq, Int.reduceBNe, Rng.av, Rd.av, countR, beatR, earE, Ear.av]
theorem three_p : PureV Tryz.prog 44 [] threeE.av := by
  refine PureV.of_ev (E := Tryz.E 6 (fun _ => ([], [])) fs13) (Tryz.envOK 6 (fun _ => ([], [])) fs13 fs13_ok) (Ear.plain _) Tryz.kp44 Tryz.func44 rfl (by kernel_rfl) (by simp [Tryz.E]) (Callable.of Tryz.func44 (by kernel_rfl) (by kernel_rfl)) (by kernel_rfl) ?_
  intro σ
  simp only [Ear.av, threeE]
  simp -implicitDefEqProofs (maxSteps := 2000000) (disch := omega) only [go_sem, reduceCtorEq, Nat.reduceAdd, Nat.reduceSub, Nat.reduceMul, Nat.reduceLT, Nat.reduceLeDiff, Nat.reduceEqDiff, Nat.reduceBEq, Int.reduceToNat, Int.reduceLT, Int.reduceLE, Int.reduceEq, Int.reduceNeg, Int.reduceAdd, Int.reduceSub, Int.reduceMul, ↓reduceIte, Int.reduceBEq, Int.reduceBNe, Rng.av, Rd.av, countR, beatR]
end Go.Proofs
