/- Texts of a proof: lemmas. -/
import Derived.Test.YtbkjffpembflcaaGreatAM
set_option linter.unusedSimpArgs false
set_option linter.unusedVariables false
set_option maxRecDepth 100000
namespace Go.Proofs
open Go Go.Mu

attribute [go_sem] tRngs_dec
theorem ACalls.wkpost {P : Program} {f : FuncId} {args : List AV} {σ : List AObj} {Q : AV → List AObj → Prop} (h : ACalls P f args σ fun v σ' => ∃ v', wk v v' ∧ Q v' σ') : ACalls P f args σ Q :=
  ⟨h.1, fun K w cargs hR hA => (h.2 K w cargs hR hA).mono fun e w' ⟨v, c, σ', K', h1, ⟨v', hw, hq⟩, hv, h3⟩ => ⟨v', c, σ', K', h1, hq, wk_weak hw K' _ _ hv, h3⟩⟩
/-- A copy of an ear, whose readings are a list of its own. -/
theorem copyEar_c (e : Ear) (h1 : e.tones.length ≤ 4294967296) (h2 : e.rds.length ≤ 4294967296) (σ : List AObj) (Q : AV → List AObj → Prop) (h : ∀ a b, Q (.agg [.int .i64 e.slack, .list .no 2 (e.tones.map Rng.av), .list (.own (σ.length + 2)) 6 (e.rds.map Rd.av)]) (σ ++ [a, b, .tail e.rds.length 6])) :
    ACalls Tryz.prog 10 [e.av] σ Q := by
  refine ACalls.of_ev (E := Tryz.E 13 Tryz.ord10 fs16) (Tryz.envOK 13 Tryz.ord10 fs16 fs16_ok) Tryz.kp10 Tryz.func10 rfl (by kernel_rfl) (by simp [Tryz.E]) (Callable.of Tryz.func10 (by kernel_rfl) (by kernel_rfl)) (by kernel_rfl) ?_
  simp only [Ear.av]
  simp -implicitDefEqProofs (maxSteps := 2000000) (disch := omega) only [go_sem, reduceCtorEq, Nat.reduceAdd, Nat.reduceSub, Nat.reduceMul, Nat.reduceLT, Nat.reduceLeDiff, Nat.reduceEqDiff, Nat.reduceBEq, Int.reduceToNat, Int.reduceLT, Int.reduceLE, Int.reduceEq, Int.reduceNeg, Int.reduceAdd, Int.reduceSub, Int.reduceMul, ↓reduceIte, Int.reduceBEq, Int.reduceBNe]
  exact h _ _
theorem copyEar_p (e : Ear) (h1 : e.tones.length ≤ 4294967296) (h2 : e.rds.length ≤ 4294967296) : PureV Tryz.prog 10 [e.av] e.av := by
  refine PureV.of_ev (E := Tryz.E 13 Tryz.ord10 fs16) (Tryz.envOK 13 Tryz.ord10 fs16 fs16_ok) (Ear.plain _) Tryz.kp10 Tryz.func10 rfl (by kernel_rfl) (by simp [Tryz.E]) (Callable.of Tryz.func10 (by kernel_rfl) (by kernel_rfl)) (by kernel_rfl) ?_
  intro σ
  simp only [Ear.av]
  simp -implicitDefEqProofs (maxSteps := 2000000) (disch := omega) only [go_sem, reduceCtorEq, Nat.reduceAdd, Nat.reduceSub, Nat.reduceMul, Nat.reduceLT, Nat.reduceLeDiff, Nat.reduceEqDiff, Nat.reduceBEq, Int.reduceToNat, Int.reduceLT, Int.reduceLE, Int.reduceEq, Int.reduceNeg, Int.reduceAdd, Int.reduceSub, Int.reduceMul, ↓reduceIte, Int.reduceBEq, Int.reduceBNe]
end Go.Proofs
