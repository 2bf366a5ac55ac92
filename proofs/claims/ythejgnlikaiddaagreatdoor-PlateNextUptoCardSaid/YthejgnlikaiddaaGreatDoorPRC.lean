/- Texts of a proof: lemmas. -/
import Derived.Test.YthejgnlikaiddaaGreatDoorPRB
import Derived.Test.YthejgnlikaiddaaGreatDoorPE1
set_option linter.unusedSimpArgs false
set_option linter.unusedVariables false
set_option maxRecDepth 100000
namespace Go.Proofs
open Go Go.Mu

/-- The least and the greatest number of a list. -/
def endsP (l : List Int) : Rng := ⟨l.headD 0, l.getLastD 0⟩
def fs106 (f : FuncId) (xs : List AV) : Option AV := if f = 103 then rchanges_s xs else fs105 f xs
theorem fs106_ok : ∀ f xs v, fs106 f xs = some v → PureV Tryz.prog f xs v := by
  intro f xs v h
  unfold fs106 at h
  split at h
  · rename_i e; subst e; exact rchanges_ok _ _ h
  exact fs105_ok _ _ _ h
attribute [go_sem] fs106 rchanges_s
set_option maxHeartbeats 4000000 in
theorem rnumbers_p (pl : ByteArray) (x : Rng) (hp : pl.size ≤ 4) (h0 : 0 ≤ x.lo ∧ x.hi ≤ 9999) : PureV Tryz.prog 65 [.str pl, x.av] (.tup [(endsP (numsP x pl)).av, .bool (!(numsP x pl).isEmpty)]) := by
  refine PureV.of_ev (E := Tryz.E 29 (fun _ => ([], [])) fs106) (Tryz.envOK 29 (fun _ => ([], [])) fs106 fs106_ok) (.tup (by simp; exact ⟨Rng.plain _, .bool⟩)) Tryz.kp65 Tryz.func65 rfl (by kernel_rfl) (by simp [Tryz.E]) (Callable.of Tryz.func65 (by kernel_rfl) (by kernel_rfl)) (by kernel_rfl) ?_
  intro σ
  obtain ⟨lo, hi⟩ := x
  simp only at h0
  simp only [Rng.av]
  simp -implicitDefEqProofs (maxSteps := 2000000) (disch := omega) only [go_sem, reduceCtorEq, Nat.reduceAdd, Nat.reduceSub, Nat.reduceMul, Nat.reduceLT, Nat.reduceLeDiff, Nat.reduceEqDiff, Nat.reduceBEq, Int.reduceToNat, Int.reduceLT, Int.reduceLE, Int.reduceEq, Int.reduceNeg, Int.reduceAdd, Int.reduceSub, Int.reduceMul, ↓reduceIte, Int.reduceBEq, Int.reduceBNe]
  obtain ⟨N, hN⟩ : ∃ N, (hi - lo + 1).toNat = N := ⟨_, rfl⟩
  have hLN : numsP ⟨lo, hi⟩ pl = numsPre lo pl N := by rw [← hN]; rfl
  rw [hLN]
  refine ARun.forG (Tryz.envOK 29 (fun _ => ([], [])) fs106 fs106_ok) N (fun _ => True) (fun i => [(7, .bool (!(numsPre lo pl i).isEmpty)), (8, .int .i64 (lo + i))]) (fun i j => σ ++ (.cells [.int .i64 lo, .int .i64 hi] :: .cells [.int .i64 0, .int .i64 0] :: .cells [.int .i64 (endsP (numsPre lo pl i)).lo, .int .i64 (endsP (numsPre lo pl i)).hi] :: j)) [] (by kernel_rfl) (by kernel_rfl) rfl (by simp [upd, ins, subF, lookA, numsPre]) trivial ?_ ?_
  · intro K Q' hK i j hi2 _ ih
    rw [numsPre_succ] at ih
    generalize numsPre lo pl i = L at ih ⊢
    cases hb : readsP pl (lo + i)
    · rw [hb] at ih
      simp -implicitDefEqProofs (maxSteps := 2000000) (disch := omega) only [go_sem, reduceCtorEq, Nat.reduceAdd, Nat.reduceSub, Nat.reduceMul, Nat.reduceLT, Nat.reduceLeDiff, Nat.reduceEqDiff, Nat.reduceBEq, Int.reduceToNat, Int.reduceLT, Int.reduceLE, Int.reduceEq, Int.reduceNeg, Int.reduceAdd, Int.reduceSub, Int.reduceMul, ↓reduceIte, Int.reduceBEq, Int.reduceBNe, hb]
      exact (ih trivial j).castS (by simp) (by simp [upd, ins, subF, lookA, Int.add_assoc])
    · rw [hb, if_pos rfl] at ih
      cases L with
      | nil =>
        simp -implicitDefEqProofs (maxSteps := 2000000) (disch := omega) only [go_sem, reduceCtorEq, Nat.reduceAdd, Nat.reduceSub, Nat.reduceMul, Nat.reduceLT, Nat.reduceLeDiff, Nat.reduceEqDiff, Nat.reduceBEq, Int.reduceToNat, Int.reduceLT, Int.reduceLE, Int.reduceEq, Int.reduceNeg, Int.reduceAdd, Int.reduceSub, Int.reduceMul, ↓reduceIte, Int.reduceBEq, Int.reduceBNe, hb, List.isEmpty_nil]
        exact (ih trivial j).castS (by simp [endsP]) (by simp [upd, ins, subF, lookA, Int.add_assoc])
      | cons a L =>
        have hla : (a :: (L ++ [lo + (i : Int)])).getLast?.getD 0 = lo + i := by rw [← List.cons_append, List.getLast?_concat]; rfl
        simp -implicitDefEqProofs (maxSteps := 2000000) (disch := omega) only [go_sem, reduceCtorEq, Nat.reduceAdd, Nat.reduceSub, Nat.reduceMul, Nat.reduceLT, Nat.reduceLeDiff, Nat.reduceEqDiff, Nat.reduceBEq, Int.reduceToNat, Int.reduceLT, Int.reduceLE, Int.reduceEq, Int.reduceNeg, Int.reduceAdd, Int.reduceSub, Int.reduceMul, ↓reduceIte, Int.reduceBEq, Int.reduceBNe, hb, List.isEmpty_cons]
        exact (ih trivial j).castS (by simp [endsP, hla]) (by simp [upd, ins, subF, lookA, Int.add_assoc])
  · intro j _
    generalize numsPre lo pl N = L
    simp -implicitDefEqProofs (maxSteps := 2000000) (disch := omega) only [go_sem, reduceCtorEq, Nat.reduceAdd, Nat.reduceSub, Nat.reduceMul, Nat.reduceLT, Nat.reduceLeDiff, Nat.reduceEqDiff, Nat.reduceBEq, Int.reduceToNat, Int.reduceLT, Int.reduceLE, Int.reduceEq, Int.reduceNeg, Int.reduceAdd, Int.reduceSub, Int.reduceMul, ↓reduceIte, Int.reduceBEq, Int.reduceBNe]
def rnumbers_s := spw2 tyS.w tyR.w fun pl x => if pl.size ≤ 4 ∧ 0 ≤ x.lo ∧ x.hi ≤ 9999 then some (.tup [.agg [.int .i64 (endsP (numsP x pl)).lo, .int .i64 (endsP (numsP x pl)).hi], .bool (fitsP x pl)]) else none
theorem rnumbers_ok : ∀ xs v, rnumbers_s xs = some v → PureV Tryz.prog 65 xs v :=
  spw2_ok fun pl x v h => by have h := someIf h; rw [← h.2]; exact rnumbers_p pl x h.1.1 h.1.2
def fs107 (f : FuncId) (xs : List AV) : Option AV := if f = 65 then rnumbers_s xs else fs106 f xs
theorem fs107_ok : ∀ f xs v, fs107 f xs = some v → PureV Tryz.prog f xs v := by
  intro f xs v h
  unfold fs107 at h
  split at h
  · rename_i e; subst e; exact rnumbers_ok _ _ h
  exact fs106_ok _ _ _ h
attribute [go_sem] fs107 rnumbers_s
end Go.Proofs
