/- Texts of a proof: lemmas. -/
import Derived.Test.YthejgnlikaiddaaDoorPDL
import Derived.Test.YthejgnlikaiddaaDoorPNC
import Derived.Test.YthejgnlikaiddaaDoorPZD
set_option linter.unusedSimpArgs false
set_option linter.unusedVariables false
set_option maxRecDepth 100000
namespace Go.Proofs
open Go Go.Mu

/-- The model of an instrument (the program's Model, where the reference is not at hand). -/
def mdlM (c : Cat) (o : Old) : Int × Int :=
  if (modelsM c o).2 ≠ 0 then (0, (modelsM c o).2) else if 1 < (modelsM c o).1.length then (0, 12) else (tg (modelsM c o).1 0, 0)
theorem mdl_val {c : Cat} {o : Old} (hk : (knownM c o []).2 = 0) : ∃ vs, modelsM c o = (vs, 0) ∧ vs = valuesZ Made.model (truthsM c o) ∧ 0 < vs.length ∧ vs.length ≤ 16 := by
  obtain ⟨hv, hne, hke⟩ := knownM_ok hk
  have hlen := truthsM_len (o := o) (okO_of_ck hv).1
  refine ⟨valuesZ Made.model (truthsM c o), by unfold modelsM; rw [if_pos hk], rfl, List.length_pos_iff.2 (valuesZ_ne hne), Nat.le_trans valuesZ_len hlen⟩
set_option maxHeartbeats 4000000 in
theorem pMdl_p (c : Cat) (o : Old) (hc : okCat c) (ho : okOld o) : PureV Tryd.prog 39 [c.av, o.av] (.tup [.int .i64 (mdlM c o).1, .int .i64 (mdlM c o).2]) := by
  refine PureV.of_ev (E := Tryd.E 25 (fun _ => ([], [])) fs20) (Tryd.envOK 25 (fun _ => ([], [])) fs20 fs20_ok) (.tup (by simp; exact ⟨.int, .int⟩)) Tryd.kp39 Tryd.func39 rfl (by kernel_rfl) (by simp [Tryd.E]) (Callable.of Tryd.func39 (by kernel_rfl) (by kernel_rfl)) (by kernel_rfl) ?_
  intro σ
  simp only [Cat.av, Old.av]
  by_cases hk : (knownM c o []).2 = 0
  · obtain ⟨vs, h1, h2, h3, h4⟩ := mdl_val hk
    have hm : mdlM c o = if 1 < vs.length then (0, 12) else (tg vs 0, 0) := by unfold mdlM; rw [h1, if_neg (by simp)]
    rw [hm]
    clear h2
    have hvi : isv vs = .list .no 1 (vs.map (.int .i64)) := rfl
    have h0 : idx (vs.map (AV.int .i64)) 0 = some (.int .i64 (tg vs 0)) := by
      have := idx_nat (l := vs) (f := AV.int .i64) h3
      rw [show tg vs 0 = vs[0] from tgE h3]; exact this
    by_cases hg : 1 < vs.length
    · rw [if_pos hg]
      simp -implicitDefEqProofs (maxSteps := 2000000) (disch := omega) only [go_sem, reduceCtorEq, Nat.reduceAdd, Nat.reduceSub, Nat.reduceMul, Nat.reduceLT, Nat.reduceLeDiff, Nat.reduceEqDiff, Nat.reduceBEq, Int.reduceToNat, Int.reduceLT, Int.reduceLE, Int.reduceEq, Int.reduceNeg, Int.reduceAdd, Int.reduceSub, Int.reduceMul, ↓reduceIte, Int.reduceBEq, Int.reduceBNe, Cat_eta, Old_eta, hc, ho, h1, hvi]
    · rw [if_neg hg]
      simp -implicitDefEqProofs (maxSteps := 2000000) (disch := omega) only [go_sem, reduceCtorEq, Nat.reduceAdd, Nat.reduceSub, Nat.reduceMul, Nat.reduceLT, Nat.reduceLeDiff, Nat.reduceEqDiff, Nat.reduceBEq, Int.reduceToNat, Int.reduceLT, Int.reduceLE, Int.reduceEq, Int.reduceNeg, Int.reduceAdd, Int.reduceSub, Int.reduceMul, ↓reduceIte, Int.reduceBEq, Int.reduceBNe, Cat_eta, Old_eta, hc, ho, h1, hvi, h0]
  · have hr : modelsM c o = ([], (knownM c o []).2) := by unfold modelsM; rw [if_neg hk]
    have hm : mdlM c o = (0, (knownM c o []).2) := by unfold mdlM; rw [hr, if_pos hk]
    rw [hm]
    simp -implicitDefEqProofs (maxSteps := 2000000) (disch := omega) only [go_sem, reduceCtorEq, Nat.reduceAdd, Nat.reduceSub, Nat.reduceMul, Nat.reduceLT, Nat.reduceLeDiff, Nat.reduceEqDiff, Nat.reduceBEq, Int.reduceToNat, Int.reduceLT, Int.reduceLE, Int.reduceEq, Int.reduceNeg, Int.reduceAdd, Int.reduceSub, Int.reduceMul, ↓reduceIte, Int.reduceBEq, Int.reduceBNe, Cat_eta, Old_eta, hc, ho, hr, hk]
def pMdl_s := spw2 tyCat.w tyOld.w fun c o => if okCat c ∧ okOld o then some (.tup [.int .i64 (mdlM c o).1, .int .i64 (mdlM c o).2]) else none
theorem pMdl_ok : ∀ xs v, pMdl_s xs = some v → PureV Tryd.prog 39 xs v :=
  spw2_ok fun c o v h => by have h := someIf h; rw [← h.2]; exact pMdl_p c o h.1.1 h.1.2
def fs62 (f : FuncId) (xs : List AV) : Option AV := if f = 38 then pDecides_s xs else if f = 39 then pMdl_s xs else fs20 f xs
theorem fs62_ok : ∀ f xs v, fs62 f xs = some v → PureV Tryd.prog f xs v := by
  intro f xs v h
  unfold fs62 at h
  split at h
  · rename_i e; subst e; exact pDecides_ok _ _ h
  split at h
  · rename_i e; subst e; exact pMdl_ok _ _ h
  exact fs20_ok _ _ _ h
attribute [go_sem] fs62 pDecides_s pMdl_s
end Go.Proofs
