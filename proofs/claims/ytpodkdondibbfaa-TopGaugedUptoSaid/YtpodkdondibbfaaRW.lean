/- Texts of a proof: lemmas. -/
import Derived.Test.YtpodkdondibbfaaRZ
set_option linter.unusedSimpArgs false
set_option linter.unusedVariables false
set_option maxRecDepth 100000
namespace Go.Proofs
open Go Go.Mu

def fs207 (f : FuncId) (xs : List AV) : Option AV := if f = 33 then jck_s xs else fs206 f xs
theorem fs207_ok : ∀ f xs v, fs207 f xs = some v → PureV Try.prog f xs v := by
  intro f xs v h
  unfold fs207 at h
  split at h
  · rename_i e; subst e; exact jck_ok _ _ h
  exact fs206_ok _ _ _ h
attribute [go_sem] fs207 jck_s
def optV : Option Nat → Int × Int
  | some n => ((n : Int), 0)
  | none => (0, 11)
theorem Sm.pre {mr : Nat} {σ J τ : List AObj} (h : Sm mr (σ ++ J) τ) (hm : σ.length ≤ mr) : ∃ J', τ = σ ++ J' := by
  have hl := h.1
  rw [List.length_append] at hl
  refine app_of_same (by omega) fun q hq => ?_
  rw [h.2 q (by rw [List.length_append]; omega) (by omega)]
  exact hget_app hq
set_option maxHeartbeats 400000000 in
theorem guided_c {j : Jb} (hj : OkJ j) (σ : List AObj) (Q : AV → List AObj → Prop) (h : ∀ junk, Q (.tup [.int .i64 (optV (guidedS j)).1, .int .i64 (optV (guidedS j)).2]) (σ ++ junk)) :
    ACalls Try.prog 15 [j.av] σ Q := by
  have hjav : ∀ t, j.av = t → PureV Try.prog 33 [t] (.int .i64 0) := fun t e => e ▸ jck_p j hj
  refine ACalls.of_ev (E := Try.E 23 (fun _ => ([], [])) fs207) (Try.envOK 23 (fun _ => ([], [])) fs207 fs207_ok) Try.kp15 Try.func15 rfl (by kernel_rfl) (by simp [Try.E]) (Callable.of Try.func15 (by kernel_rfl) (by kernel_rfl)) (by kernel_rfl) ?_
  simp only [Jb.av, Jb.cells]
  simp -implicitDefEqProofs (maxSteps := 2000000) (disch := omega) only [go_sem, reduceCtorEq, Nat.reduceAdd, Nat.reduceSub, Nat.reduceMul, Nat.reduceLT, Nat.reduceLeDiff, Nat.reduceEqDiff, Nat.reduceBEq, Int.reduceToNat, Int.reduceLT, Int.reduceLE, Int.reduceEq, Int.reduceNeg, Int.reduceAdd, Int.reduceSub, Int.reduceMul, ↓reduceIte, Int.reduceBEq, Int.reduceBNe, hj]
  refine play_c hj _ _ fun junk a1 a2 mr hG b1 b2 b3 => ?_
  simp only [gamev, Jb.cells, fnS, List.cons_append, List.nil_append]
  have hjc : hget (σ ++ [AObj.cells j.cells] ++ junk) σ.length = some (.cells j.cells) := by rw [List.append_assoc]; exact hget_at0
  have hl1 : σ.length < (σ ++ [AObj.cells j.cells] ++ junk).length := by simp
  have hin : ∃ J, σ ++ [AObj.cells j.cells] ++ junk = σ ++ J := ⟨[AObj.cells j.cells] ++ junk, by rw [List.append_assoc]⟩
  simp only [List.length_append, List.length_singleton] at b1 b2 b3
  change GH j a1 a2 mr (σ ++ [AObj.cells j.cells] ++ junk) at hG
  simp only [Jb.cells] at hjc hl1 hin hG
  generalize σ ++ [_] ++ junk = τ at hjc hl1 hin hG ⊢
  simp -implicitDefEqProofs (maxSteps := 2000000) (disch := omega) only [go_sem, reduceCtorEq, Nat.reduceAdd, Nat.reduceSub, Nat.reduceMul, Nat.reduceLT, Nat.reduceLeDiff, Nat.reduceEqDiff, Nat.reduceBEq, Int.reduceToNat, Int.reduceLT, Int.reduceLE, Int.reduceEq, Int.reduceNeg, Int.reduceAdd, Int.reduceSub, Int.reduceMul, ↓reduceIte, Int.reduceBEq, Int.reduceBNe]
  obtain ⟨J, rfl⟩ := hin
  have hlen : (σ ++ J).length = σ.length + J.length := by simp
  have hP : PlI j a1 a2 mr (σ ++ J).length σ.length (σ ++ J ++ [.cells (j.cells ++ [.int .i64 (winS j).lo, .int .i64 (winS j).hi, fnS a1 a2])]) :=
    ⟨hG.app, hget_at0, by rw [hget_app hl1]; exact hjc, by have := hG.ne; omega, by omega⟩
  simp only [Jb.cells, fnS, List.cons_append, List.nil_append] at hP
  have hgS : guidedS j = fewL fun n => rdsK j ⟨j.pitch, 0, 0, n⟩ := rfl
  generalize hτ : σ ++ J ++ [_] = τ0 at hP ⊢
  have hpre : ∀ τ', Sm mr τ0 τ' → ∃ J', τ' = σ ++ J' := fun τ' hs => by
    rw [← hτ, List.append_assoc] at hs
    exact hs.pre (by omega)
  refine fewest_c (37) [.ptr (σ ++ J).length 0, .ptr σ.length 0] (fun n => rdsK j ⟨j.pitch, 0, 0, n⟩) (fun τ' => PlI j a1 a2 mr (σ ++ J).length σ.length τ' ∧ Sm mr τ0 τ') (fun n hn τ' hv Q' hQ' => guided1_c hj n hn τ' hv.1 Q' fun τ2 s2 p2 => hQ' τ2 ⟨p2, hv.2.trans s2⟩) _ ⟨hP, Sm.refl⟩ _ fun τ' hv => ?_
  rw [← hgS]
  obtain ⟨J', hJ'⟩ := hpre τ' hv.2
  subst hJ'
  cases hgd : guidedS j with
  | none =>
    rw [hgd] at h
    simp only [fewV]
    simp -implicitDefEqProofs (maxSteps := 2000000) (disch := omega) only [go_sem, reduceCtorEq, Nat.reduceAdd, Nat.reduceSub, Nat.reduceMul, Nat.reduceLT, Nat.reduceLeDiff, Nat.reduceEqDiff, Nat.reduceBEq, Int.reduceToNat, Int.reduceLT, Int.reduceLE, Int.reduceEq, Int.reduceNeg, Int.reduceAdd, Int.reduceSub, Int.reduceMul, ↓reduceIte, Int.reduceBEq, Int.reduceBNe]
    exact h _
  | some n =>
    rw [hgd] at h
    simp only [fewV]
    simp -implicitDefEqProofs (maxSteps := 2000000) (disch := omega) only [go_sem, reduceCtorEq, Nat.reduceAdd, Nat.reduceSub, Nat.reduceMul, Nat.reduceLT, Nat.reduceLeDiff, Nat.reduceEqDiff, Nat.reduceBEq, Int.reduceToNat, Int.reduceLT, Int.reduceLE, Int.reduceEq, Int.reduceNeg, Int.reduceAdd, Int.reduceSub, Int.reduceMul, ↓reduceIte, Int.reduceBEq, Int.reduceBNe]
    exact h _
end Go.Proofs
set_option linter.unusedSimpArgs false
set_option linter.unusedVariables false
set_option maxRecDepth 100000
namespace Go.Proofs
open Go Go.Mu

/-- The best next stroke, and how many are needed. -/
def nextV (j : Jb) : Option Nat → Int × Int × Int
  | some 0 => (0, 0, 0)
  | some (n + 1) => (strokeL j (n + 1) j.pitch 0 0, ((n + 1 : Nat) : Int), 0)
  | none => (0, 0, 11)
set_option maxHeartbeats 400000000 in
theorem rnext_c {j : Jb} (hj : OkJ j) (σ : List AObj) (Q : AV → List AObj → Prop) (h : ∀ junk, Q (.tup [.int .i64 (nextV j (nextS j)).1, .int .i64 (nextV j (nextS j)).2.1, .int .i64 (nextV j (nextS j)).2.2]) (σ ++ junk)) :
    ACalls Try.prog 23 [j.av] σ Q := by
  refine ACalls.of_ev (E := Try.E 35 (fun _ => ([], [])) fs207) (Try.envOK 35 (fun _ => ([], [])) fs207 fs207_ok) Try.kp23 Try.func23 rfl (by kernel_rfl) (by simp [Try.E]) (Callable.of Try.func23 (by kernel_rfl) (by kernel_rfl)) (by kernel_rfl) ?_
  simp only [Jb.av, Jb.cells]
  simp -implicitDefEqProofs (maxSteps := 2000000) (disch := omega) only [go_sem, reduceCtorEq, Nat.reduceAdd, Nat.reduceSub, Nat.reduceMul, Nat.reduceLT, Nat.reduceLeDiff, Nat.reduceEqDiff, Nat.reduceBEq, Int.reduceToNat, Int.reduceLT, Int.reduceLE, Int.reduceEq, Int.reduceNeg, Int.reduceAdd, Int.reduceSub, Int.reduceMul, ↓reduceIte, Int.reduceBEq, Int.reduceBNe, hj]
  refine play_c hj _ _ fun junk a1 a2 mr hG b1 b2 b3 => ?_
  simp only [gamev, Jb.cells, fnS, List.cons_append, List.nil_append]
  have hjc : hget (σ ++ [AObj.cells j.cells] ++ junk) σ.length = some (.cells j.cells) := by rw [List.append_assoc]; exact hget_at0
  have hl1 : σ.length < (σ ++ [AObj.cells j.cells] ++ junk).length := by simp
  have hin : ∃ J, σ ++ [AObj.cells j.cells] ++ junk = σ ++ J := ⟨[AObj.cells j.cells] ++ junk, by rw [List.append_assoc]⟩
  simp only [List.length_append, List.length_singleton] at b1 b2 b3
  change GH j a1 a2 mr (σ ++ [AObj.cells j.cells] ++ junk) at hG
  simp only [Jb.cells] at hjc hl1 hin hG
  generalize σ ++ [_] ++ junk = τ at hjc hl1 hin hG ⊢
  simp -implicitDefEqProofs (maxSteps := 2000000) (disch := omega) only [go_sem, reduceCtorEq, Nat.reduceAdd, Nat.reduceSub, Nat.reduceMul, Nat.reduceLT, Nat.reduceLeDiff, Nat.reduceEqDiff, Nat.reduceBEq, Int.reduceToNat, Int.reduceLT, Int.reduceLE, Int.reduceEq, Int.reduceNeg, Int.reduceAdd, Int.reduceSub, Int.reduceMul, ↓reduceIte, Int.reduceBEq, Int.reduceBNe]
  obtain ⟨J, rfl⟩ := hin
  have hlen : (σ ++ J).length = σ.length + J.length := by simp
  have hP : PlI j a1 a2 mr (σ ++ J).length σ.length (σ ++ J ++ [.cells (j.cells ++ [.int .i64 (winS j).lo, .int .i64 (winS j).hi, fnS a1 a2])]) :=
    ⟨hG.app, hget_at0, by rw [hget_app hl1]; exact hjc, by have := hG.ne; omega, by omega⟩
  simp only [Jb.cells, fnS, List.cons_append, List.nil_append] at hP
  have hgS : nextS j = fewL fun n => stK j ⟨j.pitch, 0, 0, n⟩ := rfl
  generalize hτ : σ ++ J ++ [_] = τ0 at hP ⊢
  have hpre : ∀ τ', Sm mr τ0 τ' → ∃ J', τ' = σ ++ J' := fun τ' hs => by
    rw [← hτ, List.append_assoc] at hs
    exact hs.pre (by omega)
  refine fewest_c (50) [.ptr (σ ++ J).length 0, .ptr σ.length 0] (fun n => stK j ⟨j.pitch, 0, 0, n⟩) (fun τ' => PlI j a1 a2 mr (σ ++ J).length σ.length τ' ∧ Sm mr τ0 τ') (fun n hn τ' hv Q' hQ' => next1_c hj n hn τ' hv.1 Q' fun τ2 s2 p2 => hQ' τ2 ⟨p2, hv.2.trans s2⟩) _ ⟨hP, Sm.refl⟩ _ fun τ' hv => ?_
  rw [← hgS]
  have hlt : ∀ n, nextS j = some n → n < 5 := fun n hn => by
    have := List.mem_of_find?_eq_some hn; rwa [List.mem_range] at this
  cases hgd : nextS j with
  | none =>
    obtain ⟨J', hJ'⟩ := hpre τ' hv.2
    subst hJ'
    rw [hgd] at h
    simp only [fewV]
    simp -implicitDefEqProofs (maxSteps := 2000000) (disch := omega) only [go_sem, reduceCtorEq, Nat.reduceAdd, Nat.reduceSub, Nat.reduceMul, Nat.reduceLT, Nat.reduceLeDiff, Nat.reduceEqDiff, Nat.reduceBEq, Int.reduceToNat, Int.reduceLT, Int.reduceLE, Int.reduceEq, Int.reduceNeg, Int.reduceAdd, Int.reduceSub, Int.reduceMul, ↓reduceIte, Int.reduceBEq, Int.reduceBNe]
    exact h _
  | some n =>
    have hn5 := hlt n hgd
    rw [hgd] at h
    cases n with
    | zero =>
      obtain ⟨J', hJ'⟩ := hpre τ' hv.2
      subst hJ'
      simp only [fewV]
      simp -implicitDefEqProofs (maxSteps := 2000000) (disch := omega) only [go_sem, reduceCtorEq, Nat.reduceAdd, Nat.reduceSub, Nat.reduceMul, Nat.reduceLT, Nat.reduceLeDiff, Nat.reduceEqDiff, Nat.reduceBEq, Int.reduceToNat, Int.reduceLT, Int.reduceLE, Int.reduceEq, Int.reduceNeg, Int.reduceAdd, Int.reduceSub, Int.reduceMul, ↓reduceIte, Int.reduceBEq, Int.reduceBNe]
      exact h _
    | succ n =>
      have g1 := hv.1.gm
      have g2 := hv.1.jb
      simp only [Jb.cells, fnS, List.cons_append, List.nil_append] at g1 g2
      simp only [fewV]
      rw [hlen] at g1
      have hne : ¬ ((n + 1 : Nat) : Int) = 0 := by omega
      simp -implicitDefEqProofs (maxSteps := 2000000) (disch := omega) only [go_sem, reduceCtorEq, Nat.reduceAdd, Nat.reduceSub, Nat.reduceMul, Nat.reduceLT, Nat.reduceLeDiff, Nat.reduceEqDiff, Nat.reduceBEq, Int.reduceToNat, Int.reduceLT, Int.reduceLE, Int.reduceEq, Int.reduceNeg, Int.reduceAdd, Int.reduceSub, Int.reduceMul, ↓reduceIte, Int.reduceBEq, Int.reduceBNe, g1, g2, hne]
      refine stroke_c hj ⟨j.pitch, 0, 0, n + 1⟩ (Jb.atk hj (by omega)) (fun n' _ => stops_c hj n') τ' hv.1.g _ fun τ3 s3 g3 => ?_
      obtain ⟨J', hJ'⟩ := hpre τ3 (hv.2.trans s3)
      subst hJ'
      simp -implicitDefEqProofs (maxSteps := 2000000) (disch := omega) only [go_sem, reduceCtorEq, Nat.reduceAdd, Nat.reduceSub, Nat.reduceMul, Nat.reduceLT, Nat.reduceLeDiff, Nat.reduceEqDiff, Nat.reduceBEq, Int.reduceToNat, Int.reduceLT, Int.reduceLE, Int.reduceEq, Int.reduceNeg, Int.reduceAdd, Int.reduceSub, Int.reduceMul, ↓reduceIte, Int.reduceBEq, Int.reduceBNe]
      exact h _
end Go.Proofs
