/- Texts of a proof: lemmas. -/
import Derived.Test.YtpodkdondibbfaaAJ
set_option linter.unusedSimpArgs false
set_option linter.unusedVariables false
set_option maxRecDepth 100000
namespace Go.Proofs
open Go Go.Mu

/-- How many truths a reading leaves in its worst outcome. -/
def worstOf (e : Ear) (r : Rd) : Int × Int := if (askL e (ckR r e.tones.length)).2 = 0 then (worstL r e.slack (truthsL e), 0) else (0, (askL e (ckR r e.tones.length)).2)
def worst_m_s := spec2 tEar tRd fun e r => if e.tones.length ≤ 4294967296 ∧ e.rds.length ≤ 4294967296 then some (.tup [.int .i64 (worstOf e r).1, .int .i64 (worstOf e r).2]) else none
def refByGates_s := spec2 tI tIs fun m gs => if 0 ≤ m ∧ m ≤ 3 ∧ gs.length ≤ 20 then some (.list .no 6 ((byGatesL m.toNat gs).map Rd.av)) else none
def fs19 (f : FuncId) (xs : List AV) : Option AV :=  fs18 f xs
theorem fs19_ok : ∀ f xs v, fs19 f xs = some v → PureV Try.prog f xs v := by
  intro f xs v h
  unfold fs19 at h
  exact fs18_ok _ _ _ h
attribute [go_sem] fs19
end Go.Proofs
