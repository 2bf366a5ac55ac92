/- Texts of a proof: lemmas. -/
import Derived.Test.YtpodkdondibbfaaA18
set_option linter.unusedSimpArgs false
set_option linter.unusedVariables false
set_option maxRecDepth 100000
namespace Go.Proofs
open Go Go.Mu

theorem near_c (r : Nat) (n least most wide : Int) (h1 : 0 ≤ least ∧ least ≤ n ∧ n ≤ most ∧ most ≤ 1000000000) (h2 : 0 ≤ wide ∧ wide ≤ 1000000) (σ : List AObj) (hp : PotAt σ r) (Q : AV → List AObj → Prop) (h : ∀ s' a b, least ≤ a → a ≤ n → n ≤ b → b ≤ most → n - wide ≤ a → b ≤ n + wide → ∀ junk, Q (Rng.mk a b).av (pw σ r s' ++ junk)) : ACalls Try.prog 9 [.ptr r 0, .int .i64 n, .int .i64 least, .int .i64 most, .int .i64 wide] σ Q := by
  refine ACalls.of_ev (E := Try.E 32 (fun _ => ([], [])) fs0) (Try.envOK 32 (fun _ => ([], [])) fs0 fs0_ok) Try.kp9 Try.func9 rfl (by kernel_rfl) (by simp [Try.E]) (Callable.of Try.func9 (by kernel_rfl) (by kernel_rfl)) (by kernel_rfl) ?_
  have hr : r < σ.length := by obtain ⟨s, hg⟩ := hp; exact hget_lt hg
  have pwa : ∀ l s, pw (σ ++ l) r s = pw σ r s ++ l := fun l s => by unfold pw hset; rw [List.set_append_left _ _ hr]
  have pota : ∀ l s, PotAt (pw σ r s ++ l) r := fun l s => by
    obtain ⟨u, hg⟩ := hp.pw s
    exact ⟨u, by rw [hget_app (hget_lt hg)]; exact hg⟩
  have pwa2 : ∀ l s t, pw (pw σ r s ++ l) r t = pw σ r t ++ l := fun l s t => by
    have : r < (pw σ r s).length := by unfold pw; rw [length_hset]; exact hr
    show hset (pw σ r s ++ l) r _ = _
    unfold hset; rw [List.set_append_left _ _ this]
    show pw (pw σ r s) r t ++ l = _
    rw [pw_pw]
  have p0 : PotAt (σ ++ [.cells [.int .i64 0, .int .i64 0]]) r := by obtain ⟨u, hg⟩ := hp; exact ⟨u, by rw [hget_app hr]; exact hg⟩
  have hof : ∀ (x : Int) (σ : List AObj) (hp : PotAt σ r) (Q : AV → List AObj → Prop), (∀ s' y, (y = 0 ∨ y = x) → Q (.int .i64 y) (pw σ r s')) → ACalls Try.prog 17 [.ptr r 0, .list .full 1 [.int .i64 0, .int .i64 0, .int .i64 x]] σ Q := fun x σ hp Q hq =>
    of_c r [0, 0, x] .full (by simp) σ hp Q fun s' y hy => hq s' y (by simpa using hy)
  simp -implicitDefEqProofs (maxSteps := 2000000) (disch := omega) only [go_sem, reduceCtorEq, Nat.reduceAdd, Nat.reduceSub, Nat.reduceMul, Nat.reduceLT, Nat.reduceLeDiff, Nat.reduceEqDiff, Nat.reduceBEq, Int.reduceToNat, Int.reduceLT, Int.reduceLE, Int.reduceEq, Int.reduceNeg, Int.reduceAdd, Int.reduceSub, Int.reduceMul, ↓reduceIte, Int.reduceBEq, Int.reduceBNe]
  refine upto_c r wide (by omega) _ p0 _ fun s1 x1 a1 a2 => ?_
  rw [pwa]
  simp -implicitDefEqProofs (maxSteps := 2000000) (disch := omega) only [go_sem, reduceCtorEq, Nat.reduceAdd, Nat.reduceSub, Nat.reduceMul, Nat.reduceLT, Nat.reduceLeDiff, Nat.reduceEqDiff, Nat.reduceBEq, Int.reduceToNat, Int.reduceLT, Int.reduceLE, Int.reduceEq, Int.reduceNeg, Int.reduceAdd, Int.reduceSub, Int.reduceMul, ↓reduceIte, Int.reduceBEq, Int.reduceBNe]
  refine hof x1 _ (pota _ _) _ fun s2 y1 a3 => ?_
  rw [pwa2]
  have b1 : 0 ≤ y1 ∧ y1 ≤ wide := by omega
  simp -implicitDefEqProofs (maxSteps := 2000000) (disch := omega) only [go_sem, reduceCtorEq, Nat.reduceAdd, Nat.reduceSub, Nat.reduceMul, Nat.reduceLT, Nat.reduceLeDiff, Nat.reduceEqDiff, Nat.reduceBEq, Int.reduceToNat, Int.reduceLT, Int.reduceLE, Int.reduceEq, Int.reduceNeg, Int.reduceAdd, Int.reduceSub, Int.reduceMul, ↓reduceIte, Int.reduceBEq, Int.reduceBNe]
  refine upto_c r wide (by omega) _ (pota _ _) _ fun s3 x2 a5 a6 => ?_
  rw [pwa2]
  simp -implicitDefEqProofs (maxSteps := 2000000) (disch := omega) only [go_sem, reduceCtorEq, Nat.reduceAdd, Nat.reduceSub, Nat.reduceMul, Nat.reduceLT, Nat.reduceLeDiff, Nat.reduceEqDiff, Nat.reduceBEq, Int.reduceToNat, Int.reduceLT, Int.reduceLE, Int.reduceEq, Int.reduceNeg, Int.reduceAdd, Int.reduceSub, Int.reduceMul, ↓reduceIte, Int.reduceBEq, Int.reduceBNe]
  refine hof x2 _ (pota _ _) _ fun s4 y2 a7 => ?_
  rw [pwa2]
  have b2 : 0 ≤ y2 ∧ y2 ≤ wide := by omega
  have hlp : (pw σ r s4).length = σ.length := by unfold pw; exact length_hset
  have g1 : hget (pw σ r s4 ++ [.cells [.int .i64 0, .int .i64 0]]) σ.length = some (.cells [.int .i64 0, .int .i64 0]) := by rw [← hlp]; exact hget_at0
  have g2 : ∀ o, hset (pw σ r s4 ++ [.cells [.int .i64 0, .int .i64 0]]) σ.length o = pw σ r s4 ++ [o] := fun o => by rw [← hlp]; exact hset_at0
  have g3 : ∀ o, hget (pw σ r s4 ++ [o]) σ.length = some o := fun o => by rw [← hlp]; exact hget_at0
  simp -implicitDefEqProofs (maxSteps := 2000000) (disch := omega) only [go_sem, reduceCtorEq, Nat.reduceAdd, Nat.reduceSub, Nat.reduceMul, Nat.reduceLT, Nat.reduceLeDiff, Nat.reduceEqDiff, Nat.reduceBEq, Int.reduceToNat, Int.reduceLT, Int.reduceLE, Int.reduceEq, Int.reduceNeg, Int.reduceAdd, Int.reduceSub, Int.reduceMul, ↓reduceIte, Int.reduceBEq, Int.reduceBNe, g1, g2, g3]
  refine h s4 (if least < n - y1 then n - y1 else least) (if n + y2 < most then n + y2 else most) ?_ ?_ ?_ ?_ ?_ ?_ _ <;> (split <;> omega)
end Go.Proofs
