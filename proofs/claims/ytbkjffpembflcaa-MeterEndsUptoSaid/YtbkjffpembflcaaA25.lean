/- Texts of a proof: lemmas. -/
import Derived.Test.YtbkjffpembflcaaA24
import Derived.Test.YtbkjffpembflcaaMu3
set_option linter.unusedSimpArgs false
set_option linter.unusedVariables false
set_option maxRecDepth 100000
namespace Go.Proofs
open Go Go.Mu

/-- What is wrong with what is asked of Needs. -/
def needW (m x : Int) (w : Rng) (gs : List Int) : Int := if ckWant m x w = 0 then ckGates gs else ckWant m x w
def needsL (e : Ear) (x : Int) (w : Rng) (gs : List Int) : Int × Int :=
  if (askL e (needW e.tones.length x w gs)).2 = 0 then
    (if qin x w (truthsL e) = true then (0, 0) else if oneL x w (byGatesL e.tones.length gs) e.slack (truthsL e) = true then (1, 0) else if twoL x w (byGatesL e.tones.length gs) e.slack (truthsL e) = true then (2, 0) else (0, 11))
  else (0, (askL e (needW e.tones.length x w gs)).2)
theorem ckWant_ok {m : Nat} {x : Int} {w : Rng} (h : ckWant m x w = 0) : 0 ≤ x ∧ x ≤ m - 1 := by
  unfold ckWant at h; split at h <;> omega
attribute [go_sem] Int.toNat_natCast
set_option maxHeartbeats 2000000 in
theorem needs_p (e : Ear) (x : Int) (w : Rng) (gs : List Int) (h1 : e.tones.length ≤ 4294967296) (h2 : e.rds.length ≤ 4294967296) (h3 : gs.length ≤ 4294967296) :
    PureV Try.prog 25 [e.av, .int .i64 x, w.av, .list .no 1 (gs.map (.int .i64))] (.tup [.int .i64 (needsL e x w gs).1, .int .i64 (needsL e x w gs).2]) := by
  refine PureV.of_ev (E := Try.E 68 Try.ord25 fs15) (Try.envOK 68 Try.ord25 fs15 fs15_ok) (ii_plain) Try.kp25 Try.func25 rfl (by kernel_rfl) (by simp [Try.E]) (Callable.of Try.func25 (by kernel_rfl) (by kernel_rfl)) (by kernel_rfl) ?_
  intro σ
  simp only [Ear.av, Rng.av]
  by_cases hk : (askL e (needW e.tones.length x w gs)).2 = 0
  · obtain ⟨hc, hw, hn, hke⟩ := askL_ok hk
    have he := okE_of_ck hc
    have hlen := he.len
    have htl := truthsL_len he
    have hw1 : ckWant e.tones.length x w = 0 := by
      unfold needW at hw; split at hw
      · assumption
      · exact absurd hw (by assumption)
    have hw2 : ckGates gs = 0 := by unfold needW at hw; rw [if_pos hw1] at hw; exact hw
    obtain ⟨g1, g2, g3⟩ := ckGates_ok hw2
    have hx := ckWant_ok hw1
    have hx2 : 0 ≤ x ∧ x ≤ 2 := by omega
    have hr := byGatesL_ok (m := e.tones.length) (gs := gs) hlen g3
    have hrl := byGatesL_len (m := e.tones.length) (gs := gs) hlen (by omega)
    have hke' : askL ⟨e.slack, e.tones, e.rds⟩ 0 = (truthsL e, 0) := by rw [hw] at hke; exact hke
    have hdef : needsL e x w gs = (if qin x w (truthsL e) = true then (0, 0) else if oneL x w (byGatesL e.tones.length gs) e.slack (truthsL e) = true then (1, 0) else if twoL x w (byGatesL e.tones.length gs) e.slack (truthsL e) = true then (2, 0) else (0, 11)) := by unfold needsL; rw [if_pos hk]
    rw [hdef]
    have htr := truthsL_ok he
    have hsl := he.sl
    generalize truthsL e = T at htl hke' hn htr
    simp -implicitDefEqProofs (maxSteps := 2000000) (disch := omega) only [go_sem, reduceCtorEq, Nat.reduceAdd, Nat.reduceSub, Nat.reduceMul, Nat.reduceLT, Nat.reduceLeDiff, Nat.reduceEqDiff, Nat.reduceBEq, Int.reduceToNat, Int.reduceLT, Int.reduceLE, Int.reduceEq, Int.reduceNeg, Int.reduceAdd, Int.reduceSub, Int.reduceMul, ↓reduceIte, Int.reduceBEq, Int.reduceBNe, hke', hw1, hw2, tavs]
    refine ARun.ghostK (σ.length + 2) 3 1 (by rw [hget_at]; rfl) rfl ?_
    simp only [hset_at, List.set_cons_succ, List.set_cons_zero, List.append_assoc, List.cons_append, List.nil_append, List.length_append, List.length_cons, List.length_nil, Nat.zero_add, Nat.reduceAdd]
    refine ARun.forS (Try.envOK 68 Try.ord25 fs15 fs15_ok) (byGatesL e.tones.length gs).length (fun _ => True) (fun i => [(42, .int .i64 i)]) (fun i j => σ ++ (.cells e.cells :: .cells [.int .i64 w.lo, .int .i64 w.hi] :: .cells [.int .i64 x, .int .i64 w.lo, .int .i64 w.hi, .list (.own (σ.length + 3)) 1 (((byGatesL e.tones.length gs).take i).map fun r => rdv r e.slack)] :: .tail i 1 :: j)) [] (by kernel_rfl) (by simp [Ear.cells]) (by simp [upd, ins, subF, lookA]) trivial ?_ ?_
    · intro i j hi _ ih
      have hlt : ((byGatesL e.tones.length gs).take i).length = i := by rw [List.length_take]; omega
      have hfl : ∀ r : Rd, (rdv r e.slack).flat = true := fun r => by unfold rdv; split; rfl; split <;> rfl
      have e4 : ((byGatesL e.tones.length gs).take (i + 1)).map (fun r => rdv r e.slack) = ((byGatesL e.tones.length gs).take i).map (fun r => rdv r e.slack) ++ [rdv (byGatesL e.tones.length gs)[i] e.slack] := by rw [List.take_succ_eq_append_getElem hi, List.map_append]; rfl
      simp -implicitDefEqProofs (maxSteps := 2000000) (disch := omega) only [go_sem, reduceCtorEq, Nat.reduceAdd, Nat.reduceSub, Nat.reduceMul, Nat.reduceLT, Nat.reduceLeDiff, Nat.reduceEqDiff, Nat.reduceBEq, Int.reduceToNat, Int.reduceLT, Int.reduceLE, Int.reduceEq, Int.reduceNeg, Int.reduceAdd, Int.reduceSub, Int.reduceMul, ↓reduceIte, Int.reduceBEq, Int.reduceBNe, hlt, hfl, rdv_cells, giveB_rdv, Ear.cells, Rd.av]
      exact (ih trivial (j ++ [_])).castS (by rw [e4]; rfl) (by simp [upd, ins, subF, lookA])
    · intro j _
      rw [List.take_length]
      simp -implicitDefEqProofs (maxSteps := 2000000) (disch := omega) only [go_sem, reduceCtorEq, Nat.reduceAdd, Nat.reduceSub, Nat.reduceMul, Nat.reduceLT, Nat.reduceLeDiff, Nat.reduceEqDiff, Nat.reduceBEq, Int.reduceToNat, Int.reduceLT, Int.reduceLE, Int.reduceEq, Int.reduceNeg, Int.reduceAdd, Int.reduceSub, Int.reduceMul, ↓reduceIte, Int.reduceBEq, Int.reduceBNe, tavs]
      refine decided_c x w (.own (σ.length + 3)) 1 ((byGatesL e.tones.length gs).map fun r => rdv r e.slack) T hx2 (by omega) (fun t ht => (htr t ht).1) _ _ ?_
      cases hq1 : qin x w T
      · simp -implicitDefEqProofs (maxSteps := 2000000) (disch := omega) only [go_sem, reduceCtorEq, Nat.reduceAdd, Nat.reduceSub, Nat.reduceMul, Nat.reduceLT, Nat.reduceLeDiff, Nat.reduceEqDiff, Nat.reduceBEq, Int.reduceToNat, Int.reduceLT, Int.reduceLE, Int.reduceEq, Int.reduceNeg, Int.reduceAdd, Int.reduceSub, Int.reduceMul, ↓reduceIte, Int.reduceBEq, Int.reduceBNe, tavs]
        refine qone_p x w (.own (σ.length + 3)) (byGatesL e.tones.length gs) e.slack T hx2 hsl (by omega) htr (by omega) hr _ _ ?_
        cases hq2 : oneL x w (byGatesL e.tones.length gs) e.slack T
        · simp -implicitDefEqProofs (maxSteps := 2000000) (disch := omega) only [go_sem, reduceCtorEq, Nat.reduceAdd, Nat.reduceSub, Nat.reduceMul, Nat.reduceLT, Nat.reduceLeDiff, Nat.reduceEqDiff, Nat.reduceBEq, Int.reduceToNat, Int.reduceLT, Int.reduceLE, Int.reduceEq, Int.reduceNeg, Int.reduceAdd, Int.reduceSub, Int.reduceMul, ↓reduceIte, Int.reduceBEq, Int.reduceBNe, tavs]
          refine qtwo_p x w (.own (σ.length + 3)) (byGatesL e.tones.length gs) e.slack T hx2 hsl (by omega) htr (by omega) hr _ _ ?_
          cases hq3 : twoL x w (byGatesL e.tones.length gs) e.slack T
          · simp -implicitDefEqProofs (maxSteps := 2000000) (disch := omega) only [go_sem, reduceCtorEq, Nat.reduceAdd, Nat.reduceSub, Nat.reduceMul, Nat.reduceLT, Nat.reduceLeDiff, Nat.reduceEqDiff, Nat.reduceBEq, Int.reduceToNat, Int.reduceLT, Int.reduceLE, Int.reduceEq, Int.reduceNeg, Int.reduceAdd, Int.reduceSub, Int.reduceMul, ↓reduceIte, Int.reduceBEq, Int.reduceBNe, tavs]
          · simp -implicitDefEqProofs (maxSteps := 2000000) (disch := omega) only [go_sem, reduceCtorEq, Nat.reduceAdd, Nat.reduceSub, Nat.reduceMul, Nat.reduceLT, Nat.reduceLeDiff, Nat.reduceEqDiff, Nat.reduceBEq, Int.reduceToNat, Int.reduceLT, Int.reduceLE, Int.reduceEq, Int.reduceNeg, Int.reduceAdd, Int.reduceSub, Int.reduceMul, ↓reduceIte, Int.reduceBEq, Int.reduceBNe, tavs]
        · simp -implicitDefEqProofs (maxSteps := 2000000) (disch := omega) only [go_sem, reduceCtorEq, Nat.reduceAdd, Nat.reduceSub, Nat.reduceMul, Nat.reduceLT, Nat.reduceLeDiff, Nat.reduceEqDiff, Nat.reduceBEq, Int.reduceToNat, Int.reduceLT, Int.reduceLE, Int.reduceEq, Int.reduceNeg, Int.reduceAdd, Int.reduceSub, Int.reduceMul, ↓reduceIte, Int.reduceBEq, Int.reduceBNe, tavs]
      · simp -implicitDefEqProofs (maxSteps := 2000000) (disch := omega) only [go_sem, reduceCtorEq, Nat.reduceAdd, Nat.reduceSub, Nat.reduceMul, Nat.reduceLT, Nat.reduceLeDiff, Nat.reduceEqDiff, Nat.reduceBEq, Int.reduceToNat, Int.reduceLT, Int.reduceLE, Int.reduceEq, Int.reduceNeg, Int.reduceAdd, Int.reduceSub, Int.reduceMul, ↓reduceIte, Int.reduceBEq, Int.reduceBNe, tavs]
  · have hk' : ¬ (askL ⟨e.slack, e.tones, e.rds⟩ (needW e.tones.length x w gs)).2 = 0 := hk
    have hdef : needsL e x w gs = (0, (askL ⟨e.slack, e.tones, e.rds⟩ (needW e.tones.length x w gs)).2) := by unfold needsL; rw [if_neg hk]
    rw [hdef]
    by_cases hw1 : ckWant e.tones.length x w = 0
    · have hv : needW e.tones.length x w gs = ckGates gs := if_pos hw1
      rw [hv] at hk' ⊢
      generalize hq : askL ⟨e.slack, e.tones, e.rds⟩ (ckGates gs) = q at hk'
      simp -implicitDefEqProofs (maxSteps := 2000000) (disch := omega) only [go_sem, reduceCtorEq, Nat.reduceAdd, Nat.reduceSub, Nat.reduceMul, Nat.reduceLT, Nat.reduceLeDiff, Nat.reduceEqDiff, Nat.reduceBEq, Int.reduceToNat, Int.reduceLT, Int.reduceLE, Int.reduceEq, Int.reduceNeg, Int.reduceAdd, Int.reduceSub, Int.reduceMul, ↓reduceIte, Int.reduceBEq, Int.reduceBNe, hq, hk', hw1, tavs]
    · have hv : needW e.tones.length x w gs = ckWant e.tones.length x w := if_neg hw1
      rw [hv] at hk' ⊢
      generalize hq : askL ⟨e.slack, e.tones, e.rds⟩ (ckWant e.tones.length x w) = q at hk'
      simp -implicitDefEqProofs (maxSteps := 2000000) (disch := omega) only [go_sem, reduceCtorEq, Nat.reduceAdd, Nat.reduceSub, Nat.reduceMul, Nat.reduceLT, Nat.reduceLeDiff, Nat.reduceEqDiff, Nat.reduceBEq, Int.reduceToNat, Int.reduceLT, Int.reduceLE, Int.reduceEq, Int.reduceNeg, Int.reduceAdd, Int.reduceSub, Int.reduceMul, ↓reduceIte, Int.reduceBEq, Int.reduceBNe, hq, hk', hw1, tavs]
def needs_s := spec4 tEar tI tRng tIs fun e x w gs => if e.tones.length ≤ 4294967296 ∧ e.rds.length ≤ 4294967296 ∧ gs.length ≤ 4294967296 then some (.tup [.int .i64 (needsL e x w gs).1, .int .i64 (needsL e x w gs).2]) else none
theorem needs_ok : ∀ xs v, needs_s xs = some v → PureV Try.prog 25 xs v :=
  spec4_ok fun e x w gs v h => by have h := someIf h; rw [← h.2]; exact needs_p e x w gs h.1.1 h.1.2.1 h.1.2.2
def best_s := spec2 tEar tIs fun e gs => if e.tones.length ≤ 4294967296 ∧ e.rds.length ≤ 4294967296 ∧ gs.length ≤ 4294967296 then some (.tup [(bestL e gs).1.1.av, .int .i64 (bestL e gs).1.2, .int .i64 (bestL e gs).2]) else none
theorem best_ok : ∀ xs v, best_s xs = some v → PureV Try.prog 36 xs v :=
  spec2_ok fun e gs v h => by have h := someIf h; rw [← h.2]; exact best_p e gs h.1.1 h.1.2.1 h.1.2.2
def fs16 (f : FuncId) (xs : List AV) : Option AV := if f = 25 then needs_s xs else if f = 36 then best_s xs else fs15 f xs
theorem fs16_ok : ∀ f xs v, fs16 f xs = some v → PureV Try.prog f xs v := by
  intro f xs v h
  unfold fs16 at h
  split at h
  · rename_i e; subst e; exact needs_ok _ _ h
  split at h
  · rename_i e; subst e; exact best_ok _ _ h
  exact fs15_ok _ _ _ h
attribute [go_sem] fs16 needs_s best_s
end Go.Proofs
