/- Texts of a proof: lemmas. -/
import Derived.Test.YtbkjffpembflcaaA39
set_option linter.unusedSimpArgs false
set_option linter.unusedVariables false
set_option maxRecDepth 100000
namespace Go.Proofs
open Go Go.Mu

theorem wider_p (x y : Rng) : PureV Try.prog 53 [x.av, y.av] (.bool (decide (x.lo ≤ y.lo ∧ y.hi ≤ x.hi))) := by
  refine PureV.of_ev (E := Try.E 17 (fun _ => ([], [])) fs0) (Try.envOK 17 (fun _ => ([], [])) fs0 fs0_ok) (.bool) Try.kp53 Try.func53 rfl (by kernel_rfl) (by simp [Try.E]) (Callable.of Try.func53 (by kernel_rfl) (by kernel_rfl)) (by kernel_rfl) ?_
  intro σ
  simp only [Rng.av]
  simp -implicitDefEqProofs (maxSteps := 2000000) (disch := omega) only [go_sem, reduceCtorEq, Nat.reduceAdd, Nat.reduceSub, Nat.reduceMul, Nat.reduceLT, Nat.reduceLeDiff, Nat.reduceEqDiff, Nat.reduceBEq, Int.reduceToNat, Int.reduceLT, Int.reduceLE, Int.reduceEq, Int.reduceNeg, Int.reduceAdd, Int.reduceSub, Int.reduceMul, ↓reduceIte, Int.reduceBEq, Int.reduceBNe]
  exact ⟨fun h1 => ⟨fun h2 => by simp [*], fun h2 => by simp [*]⟩, fun h1 => by simp [*]⟩
def wider_s := spec2 tRng tRng fun x y => some (.bool (decide (x.lo ≤ y.lo ∧ y.hi ≤ x.hi)))
theorem wider_ok : ∀ xs v, wider_s xs = some v → PureV Try.prog 53 xs v :=
  spec2_ok fun x y v h => by simp only [Option.some.injEq] at h; rw [← h]; exact wider_p x y
def copyEar_s := spec1 tEar fun e => if e.tones.length ≤ 4294967296 ∧ e.rds.length ≤ 4294967296 then some e.av else none
theorem copyEar_ok : ∀ xs v, copyEar_s xs = some v → PureV Try.prog 21 xs v :=
  spec1_ok fun e v h => by have h := someIf h; rw [← h.2]; exact copyEar_p e h.1.1 h.1.2
def fs22 (f : FuncId) (xs : List AV) : Option AV := if f = 53 then wider_s xs else if f = 21 then copyEar_s xs else fs21 f xs
theorem fs22_ok : ∀ f xs v, fs22 f xs = some v → PureV Try.prog f xs v := by
  intro f xs v h
  unfold fs22 at h
  split at h
  · rename_i e; subst e; exact wider_ok _ _ h
  split at h
  · rename_i e; subst e; exact copyEar_ok _ _ h
  exact fs21_ok _ _ _ h
attribute [go_sem] fs22 wider_s copyEar_s
end Go.Proofs
