/- Texts of a proof: lemmas. -/
import Derived.Test.YtbkjffpembflcaaGreatA21
set_option linter.unusedSimpArgs false
set_option linter.unusedVariables false
set_option maxRecDepth 100000
namespace Go.Proofs
open Go Go.Mu

theorem inner_c (r : Nat) (w : Rng) (hw : w.lo ≤ w.hi) (h1 : -1000000000 ≤ w.lo) (h2 : w.hi ≤ 1000000000) (σ : List AObj) (hp : PotAt σ r) (Q : AV → List AObj → Prop) (h : ∀ s' x junk, w.lo ≤ x → x ≤ w.hi → Q (.int .i64 x) (pw σ r s' ++ junk)) :
    ACalls Tryz.prog 28 [.ptr r 0, w.av] σ Q := by
  refine ACalls.of_ev (E := Tryz.E 18 Tryz.ord28 fs0) (Tryz.envOK 18 Tryz.ord28 fs0 fs0_ok) Tryz.kp28 Tryz.func28 rfl (by kernel_rfl) (by simp [Tryz.E]) (Callable.of Tryz.func28 (by kernel_rfl) (by kernel_rfl)) (by kernel_rfl) ?_
  have hr := hp.lt
  simp only [Rng.av]
  simp -implicitDefEqProofs (maxSteps := 2000000) (disch := omega) only [go_sem, reduceCtorEq, Nat.reduceAdd, Nat.reduceSub, Nat.reduceMul, Nat.reduceLT, Nat.reduceLeDiff, Nat.reduceEqDiff, Nat.reduceBEq, Int.reduceToNat, Int.reduceLT, Int.reduceLE, Int.reduceEq, Int.reduceNeg, Int.reduceAdd, Int.reduceSub, Int.reduceMul, ↓reduceIte, Int.reduceBEq, Int.reduceBNe, hget_at0]
  refine within_c r w.lo w.hi (by omega) (by omega) _ hp.app _ fun s1 x h3 h4 => ?_
  rw [pw_app hr]
  simp -implicitDefEqProofs (maxSteps := 2000000) (disch := omega) only [go_sem, reduceCtorEq, Nat.reduceAdd, Nat.reduceSub, Nat.reduceMul, Nat.reduceLT, Nat.reduceLeDiff, Nat.reduceEqDiff, Nat.reduceBEq, Int.reduceToNat, Int.reduceLT, Int.reduceLE, Int.reduceEq, Int.reduceNeg, Int.reduceAdd, Int.reduceSub, Int.reduceMul, ↓reduceIte, Int.reduceBEq, Int.reduceBNe, length_pw, hget_pw0, hget_pw, hset_pw0, hset_pw]
  refine of_c r [w.lo, w.hi, x] .full (by simp) _ (hp.pw _).app _ fun s2 y hy => ?_
  rw [pw_pwa hr]
  simp -implicitDefEqProofs (maxSteps := 2000000) (disch := omega) only [go_sem, reduceCtorEq, Nat.reduceAdd, Nat.reduceSub, Nat.reduceMul, Nat.reduceLT, Nat.reduceLeDiff, Nat.reduceEqDiff, Nat.reduceBEq, Int.reduceToNat, Int.reduceLT, Int.reduceLE, Int.reduceEq, Int.reduceNeg, Int.reduceAdd, Int.reduceSub, Int.reduceMul, ↓reduceIte, Int.reduceBEq, Int.reduceBNe, length_pw, hget_pw0, hget_pw, hset_pw0, hset_pw]
  simp at hy
  exact h _ _ _ (by omega) (by omega)
end Go.Proofs
