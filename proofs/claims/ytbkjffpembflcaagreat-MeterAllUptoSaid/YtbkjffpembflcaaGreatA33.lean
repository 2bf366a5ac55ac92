/- Texts of a proof: lemmas. -/
import Derived.Test.YtbkjffpembflcaaGreatAJ
set_option linter.unusedSimpArgs false
set_option linter.unusedVariables false
set_option maxRecDepth 100000
namespace Go.Proofs
open Go Go.Mu

/-- How many truths a reading leaves in its worst outcome. -/
def worstOf (e : Ear) (r : Rd) : Int × Int := if (askL e (ckR r e.tones.length)).2 = 0 then (worstL r e.slack (truthsL e), 0) else (0, (askL e (ckR r e.tones.length)).2)
def worst_m_s := spec2 tEar tRd fun e r => if e.tones.length ≤ 4294967296 ∧ e.rds.length ≤ 4294967296 then some (.tup [.int .i64 (worstOf e r).1, .int .i64 (worstOf e r).2]) else none
/-- A copy of a list, a list of its own. -/
theorem ints_c (l : List Int) (tk : Tok) (hl : l.length ≤ 4294967296) (σ : List AObj) (Q : AV → List AObj → Prop) (h : Q (.list (.own σ.length) 1 (l.map (.int .i64))) (σ ++ [.tail l.length 1])) :
    ACalls Tryz.prog 66 [.list tk 1 (l.map (.int .i64))] σ Q := by
  refine ACalls.of_ev (E := Tryz.E 6 (fun _ => ([], [])) fs0) (Tryz.envOK 6 (fun _ => ([], [])) fs0 fs0_ok) Tryz.kp66 Tryz.func66 rfl (by kernel_rfl) (by simp [Tryz.E]) (Callable.of Tryz.func66 (by kernel_rfl) (by kernel_rfl)) (by kernel_rfl) ?_
  simp -implicitDefEqProofs (maxSteps := 2000000) (disch := omega) only [go_sem, reduceCtorEq, Nat.reduceAdd, Nat.reduceSub, Nat.reduceMul, Nat.reduceLT, Nat.reduceLeDiff, Nat.reduceEqDiff, Nat.reduceBEq, Int.reduceToNat, Int.reduceLT, Int.reduceLE, Int.reduceEq, Int.reduceNeg, Int.reduceAdd, Int.reduceSub, Int.reduceMul, ↓reduceIte, Int.reduceBEq, Int.reduceBNe]
  exact h
def refByGates_s := spec2 tI tIs fun m gs => if 0 ≤ m ∧ m ≤ 3 ∧ gs.length ≤ 20 then some (.list .no 6 ((byGatesL m.toNat gs).map Rd.av)) else none
def fs19 (f : FuncId) (xs : List AV) : Option AV :=  fs18 f xs
theorem fs19_ok : ∀ f xs v, fs19 f xs = some v → PureV Tryz.prog f xs v := by
  intro f xs v h
  unfold fs19 at h
  exact fs18_ok _ _ _ h
attribute [go_sem] fs19
end Go.Proofs
