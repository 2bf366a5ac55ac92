/- Texts of a proof: lemmas. -/
import Derived.Test.YtbkjffpembflcaaA27
import Derived.Test.YtbkjffpembflcaaMV
import Derived.Test.YtbkjffpembflcaaFB
import Derived.Test.YtbkjffpembflcaaBD
set_option linter.unusedSimpArgs false
set_option linter.unusedVariables false
set_option maxRecDepth 100000
namespace Go.Proofs
open Go Go.Mu

set_option maxHeartbeats 2000000 in
theorem readingOf_v (r : Nat) (s0 : Int) (ts : List Rng) (qv nv : Nat) (T : List Int) (tk : Tok) (hsl : 0 ≤ s0 ∧ s0 ≤ 3) (hT : 1 ≤ T.length ∧ T.length ≤ 3) (hs : ∀ x ∈ T, 1 ≤ x ∧ x ≤ 100000) (σ : List AObj) (hp : PotAt σ r) (Q : AV → List AObj → Prop) (h : ∀ s' x junk, ckR x T.length = 0 → isR x s0 T = true → Q x.av (pw σ r s' ++ junk)) :
    ACalls Try.prog 48 [.ptr r 0, .agg [.int .i64 s0, .list .no 2 (ts.map Rng.av), .vec qv nv], .list tk 1 (T.map (.int .i64))] σ Q := by
  refine ACalls.of_ev (E := Try.E 125 Try.ord48 fs0) (Try.envOK 125 Try.ord48 fs0 fs0_ok) Try.kp48 Try.func48 rfl (by kernel_rfl) (by simp [Try.E]) (Callable.of Try.func48 (by kernel_rfl) (by kernel_rfl)) (by kernel_rfl) ?_
  have hr := hp.lt
  simp -implicitDefEqProofs (maxSteps := 2000000) (disch := omega) only [go_sem, reduceCtorEq, Nat.reduceAdd, Nat.reduceSub, Nat.reduceMul, Nat.reduceLT, Nat.reduceLeDiff, Nat.reduceEqDiff, Nat.reduceBEq, Int.reduceToNat, Int.reduceLT, Int.reduceLE, Int.reduceEq, Int.reduceNeg, Int.reduceAdd, Int.reduceSub, Int.reduceMul, ↓reduceIte, Int.reduceBEq, Int.reduceBNe, length_pw, hget_pw0, hget_pw, hset_pw0, hset_pw]
  refine of_c r [1, 1, 2, 2, 3] .full (by simp) _ hp.app _ fun s1 k hk => ?_
  rw [pw_app hr]
  simp -implicitDefEqProofs (maxSteps := 2000000) (disch := omega) only [go_sem, reduceCtorEq, Nat.reduceAdd, Nat.reduceSub, Nat.reduceMul, Nat.reduceLT, Nat.reduceLeDiff, Nat.reduceEqDiff, Nat.reduceBEq, Int.reduceToNat, Int.reduceLT, Int.reduceLE, Int.reduceEq, Int.reduceNeg, Int.reduceAdd, Int.reduceSub, Int.reduceMul, ↓reduceIte, Int.reduceBEq, Int.reduceBNe, length_pw, hget_pw0, hget_pw, hset_pw0, hset_pw]
  refine upto_c r _ (by omega) _ (hp.pw _).app _ fun s2 a ha1 ha2 => ?_
  rw [pw_pwa hr]
  simp -implicitDefEqProofs (maxSteps := 2000000) (disch := omega) only [go_sem, reduceCtorEq, Nat.reduceAdd, Nat.reduceSub, Nat.reduceMul, Nat.reduceLT, Nat.reduceLeDiff, Nat.reduceEqDiff, Nat.reduceBEq, Int.reduceToNat, Int.reduceLT, Int.reduceLE, Int.reduceEq, Int.reduceNeg, Int.reduceAdd, Int.reduceSub, Int.reduceMul, ↓reduceIte, Int.reduceBEq, Int.reduceBNe, length_pw, hget_pw0, hget_pw, hset_pw0, hset_pw]
  refine upto_c r _ (by omega) _ (hp.pw _).app _ fun s3 b hb1 hb2 => ?_
  rw [pw_pwa hr]
  simp -implicitDefEqProofs (maxSteps := 2000000) (disch := omega) only [go_sem, reduceCtorEq, Nat.reduceAdd, Nat.reduceSub, Nat.reduceMul, Nat.reduceLT, Nat.reduceLeDiff, Nat.reduceEqDiff, Nat.reduceBEq, Int.reduceToNat, Int.reduceLT, Int.reduceLE, Int.reduceEq, Int.reduceNeg, Int.reduceAdd, Int.reduceSub, Int.reduceMul, ↓reduceIte, Int.reduceBEq, Int.reduceBNe, length_pw, hget_pw0, hget_pw, hset_pw0, hset_pw]
  refine within_c r 1 20 (by omega) (by omega) _ (hp.pw _).app _ fun s4 sec hc1 hc2 => ?_
  rw [pw_pwa hr]
  have ha : 0 ≤ a ∧ a < T.length := by omega
  have hb : 0 ≤ b ∧ b < T.length := by omega
  have hk' : k = 1 ∨ k = 2 ∨ k = 3 := by simpa using hk
  have hsec : 1 ≤ sec ∧ sec ≤ 20 := by omega
  have hTa : 1 ≤ tg T a ∧ tg T a ≤ 100000 := by
    have hx : a.toNat < T.length := by omega
    have : tg T a = T[a.toNat] := by simp [tg, List.getD, List.getElem?_eq_getElem hx]
    rw [this]; exact hs _ (List.getElem_mem hx)
  have hTb : 1 ≤ tg T b ∧ tg T b ≤ 100000 := by
    have hx : b.toNat < T.length := by omega
    have : tg T b = T[b.toNat] := by simp [tg, List.getD, List.getElem?_eq_getElem hx]
    rw [this]; exact hs _ (List.getElem_mem hx)
  clear hk ha1 ha2 hb1 hb2 hc1 hc2
  have hn := mul_le (a := tg T a) (s := sec) (by omega) (by omega)
  obtain ⟨q, hq⟩ : ∃ q, (tg T a * sec).tdiv 100 = q := ⟨_, rfl⟩
  have hq2 : q = tg T a * sec / 100 := by rw [← hq]; exact Int.tdiv_eq_ediv_of_nonneg hn.1
  have hm2 : (tg T a * sec).tmod 100 = tg T a * sec % 100 := Int.tmod_eq_emod_of_nonneg hn.1
  have hq3 : tg T a * sec / 100 ≤ 20000 := by
    have := Int.mul_le_mul hTa.2 hsec.2 (by omega) (by omega)
    omega
  have hfin : ∀ s' lo hi junk c, (c = q ∨ c = q + 1 ∧ 0 < tg T a * sec % 100) → 0 ≤ lo → lo ≤ c → c ≤ hi → hi ≤ 25000 → Q (Rd.mk 1 a 0 sec ⟨lo, hi⟩).av (pw σ r s' ++ junk) := fun s' lo hi junk c hc l1 l2 l3 l4 => by
    refine h s' _ junk ?_ ?_
    · simp only [ckR]; grind
    · simp only [isR, if_true, decide_eq_true_eq]; omega
  by_cases hab : a = b
  · subst hab
    rcases hk' with rfl | rfl | rfl
    · skip
      simp -implicitDefEqProofs (maxSteps := 2000000) (disch := omega) only [go_sem, reduceCtorEq, Nat.reduceAdd, Nat.reduceSub, Nat.reduceMul, Nat.reduceLT, Nat.reduceLeDiff, Nat.reduceEqDiff, Nat.reduceBEq, Int.reduceToNat, Int.reduceLT, Int.reduceLE, Int.reduceEq, Int.reduceNeg, Int.reduceAdd, Int.reduceSub, Int.reduceMul, ↓reduceIte, Int.reduceBEq, Int.reduceBNe, length_pw, hget_pw0, hget_pw, hset_pw0, hset_pw, hq, hm2, idx_tg, Rng.av]
      refine ⟨fun hm0 => ?_, fun hm0 => ?_⟩
      · refine odds_c r 1 2 (by omega) (by omega) _ (hp.pw _).app _ fun s5 b5 => ?_
        rw [pw_pwa hr]
        cases b5
        · simp -implicitDefEqProofs (maxSteps := 2000000) (disch := omega) only [go_sem, reduceCtorEq, Nat.reduceAdd, Nat.reduceSub, Nat.reduceMul, Nat.reduceLT, Nat.reduceLeDiff, Nat.reduceEqDiff, Nat.reduceBEq, Int.reduceToNat, Int.reduceLT, Int.reduceLE, Int.reduceEq, Int.reduceNeg, Int.reduceAdd, Int.reduceSub, Int.reduceMul, ↓reduceIte, Int.reduceBEq, Int.reduceBNe, length_pw, hget_pw0, hget_pw, hset_pw0, hset_pw, hq, hm2, idx_tg, Rng.av]
          refine near_c r q 0 25000 1 (by omega) (by omega) _ (hp.pw _).app _ fun s6 lo hi l1 l2 l3 l4 l5 l6 junk => ?_
          rw [pw_pwa hr, List.append_assoc]
          simp -implicitDefEqProofs (maxSteps := 2000000) (disch := omega) only [go_sem, reduceCtorEq, Nat.reduceAdd, Nat.reduceSub, Nat.reduceMul, Nat.reduceLT, Nat.reduceLeDiff, Nat.reduceEqDiff, Nat.reduceBEq, Int.reduceToNat, Int.reduceLT, Int.reduceLE, Int.reduceEq, Int.reduceNeg, Int.reduceAdd, Int.reduceSub, Int.reduceMul, ↓reduceIte, Int.reduceBEq, Int.reduceBNe, length_pw, hget_pw0, hget_pw, hset_pw0, hset_pw, hq, hm2, idx_tg, Rng.av]
          exact hfin s6 lo hi _ q (.inl rfl) l1 l2 l3 l4
        · simp -implicitDefEqProofs (maxSteps := 2000000) (disch := omega) only [go_sem, reduceCtorEq, Nat.reduceAdd, Nat.reduceSub, Nat.reduceMul, Nat.reduceLT, Nat.reduceLeDiff, Nat.reduceEqDiff, Nat.reduceBEq, Int.reduceToNat, Int.reduceLT, Int.reduceLE, Int.reduceEq, Int.reduceNeg, Int.reduceAdd, Int.reduceSub, Int.reduceMul, ↓reduceIte, Int.reduceBEq, Int.reduceBNe, length_pw, hget_pw0, hget_pw, hset_pw0, hset_pw, hq, hm2, idx_tg, Rng.av]
          refine near_c r (q + 1) 0 25000 1 (by omega) (by omega) _ (hp.pw _).app _ fun s6 lo hi l1 l2 l3 l4 l5 l6 junk => ?_
          rw [pw_pwa hr, List.append_assoc]
          simp -implicitDefEqProofs (maxSteps := 2000000) (disch := omega) only [go_sem, reduceCtorEq, Nat.reduceAdd, Nat.reduceSub, Nat.reduceMul, Nat.reduceLT, Nat.reduceLeDiff, Nat.reduceEqDiff, Nat.reduceBEq, Int.reduceToNat, Int.reduceLT, Int.reduceLE, Int.reduceEq, Int.reduceNeg, Int.reduceAdd, Int.reduceSub, Int.reduceMul, ↓reduceIte, Int.reduceBEq, Int.reduceBNe, length_pw, hget_pw0, hget_pw, hset_pw0, hset_pw, hq, hm2, idx_tg, Rng.av]
          exact hfin s6 lo hi _ (q + 1) (.inr ⟨rfl, hm0⟩) l1 l2 l3 l4
      · skip
        refine near_c r q 0 25000 1 (by omega) (by omega) _ (hp.pw _).app _ fun s6 lo hi l1 l2 l3 l4 l5 l6 junk => ?_
        rw [pw_pwa hr, List.append_assoc]
        simp -implicitDefEqProofs (maxSteps := 2000000) (disch := omega) only [go_sem, reduceCtorEq, Nat.reduceAdd, Nat.reduceSub, Nat.reduceMul, Nat.reduceLT, Nat.reduceLeDiff, Nat.reduceEqDiff, Nat.reduceBEq, Int.reduceToNat, Int.reduceLT, Int.reduceLE, Int.reduceEq, Int.reduceNeg, Int.reduceAdd, Int.reduceSub, Int.reduceMul, ↓reduceIte, Int.reduceBEq, Int.reduceBNe, length_pw, hget_pw0, hget_pw, hset_pw0, hset_pw, hq, hm2, idx_tg, Rng.av]
        exact hfin s6 lo hi _ q (.inl rfl) l1 l2 l3 l4
    · skip
      simp -implicitDefEqProofs (maxSteps := 2000000) (disch := omega) only [go_sem, reduceCtorEq, Nat.reduceAdd, Nat.reduceSub, Nat.reduceMul, Nat.reduceLT, Nat.reduceLeDiff, Nat.reduceEqDiff, Nat.reduceBEq, Int.reduceToNat, Int.reduceLT, Int.reduceLE, Int.reduceEq, Int.reduceNeg, Int.reduceAdd, Int.reduceSub, Int.reduceMul, ↓reduceIte, Int.reduceBEq, Int.reduceBNe, length_pw, hget_pw0, hget_pw, hset_pw0, hset_pw, hq, hm2, idx_tg, Rng.av]
      refine ⟨fun hm0 => ?_, fun hm0 => ?_⟩
      · refine odds_c r 1 2 (by omega) (by omega) _ (hp.pw _).app _ fun s5 b5 => ?_
        rw [pw_pwa hr]
        cases b5
        · simp -implicitDefEqProofs (maxSteps := 2000000) (disch := omega) only [go_sem, reduceCtorEq, Nat.reduceAdd, Nat.reduceSub, Nat.reduceMul, Nat.reduceLT, Nat.reduceLeDiff, Nat.reduceEqDiff, Nat.reduceBEq, Int.reduceToNat, Int.reduceLT, Int.reduceLE, Int.reduceEq, Int.reduceNeg, Int.reduceAdd, Int.reduceSub, Int.reduceMul, ↓reduceIte, Int.reduceBEq, Int.reduceBNe, length_pw, hget_pw0, hget_pw, hset_pw0, hset_pw, hq, hm2, idx_tg, Rng.av]
          refine near_c r q 0 25000 1 (by omega) (by omega) _ (hp.pw _).app _ fun s6 lo hi l1 l2 l3 l4 l5 l6 junk => ?_
          rw [pw_pwa hr, List.append_assoc]
          simp -implicitDefEqProofs (maxSteps := 2000000) (disch := omega) only [go_sem, reduceCtorEq, Nat.reduceAdd, Nat.reduceSub, Nat.reduceMul, Nat.reduceLT, Nat.reduceLeDiff, Nat.reduceEqDiff, Nat.reduceBEq, Int.reduceToNat, Int.reduceLT, Int.reduceLE, Int.reduceEq, Int.reduceNeg, Int.reduceAdd, Int.reduceSub, Int.reduceMul, ↓reduceIte, Int.reduceBEq, Int.reduceBNe, length_pw, hget_pw0, hget_pw, hset_pw0, hset_pw, hq, hm2, idx_tg, Rng.av]
          exact hfin s6 lo hi _ q (.inl rfl) l1 l2 l3 l4
        · simp -implicitDefEqProofs (maxSteps := 2000000) (disch := omega) only [go_sem, reduceCtorEq, Nat.reduceAdd, Nat.reduceSub, Nat.reduceMul, Nat.reduceLT, Nat.reduceLeDiff, Nat.reduceEqDiff, Nat.reduceBEq, Int.reduceToNat, Int.reduceLT, Int.reduceLE, Int.reduceEq, Int.reduceNeg, Int.reduceAdd, Int.reduceSub, Int.reduceMul, ↓reduceIte, Int.reduceBEq, Int.reduceBNe, length_pw, hget_pw0, hget_pw, hset_pw0, hset_pw, hq, hm2, idx_tg, Rng.av]
          refine near_c r (q + 1) 0 25000 1 (by omega) (by omega) _ (hp.pw _).app _ fun s6 lo hi l1 l2 l3 l4 l5 l6 junk => ?_
          rw [pw_pwa hr, List.append_assoc]
          simp -implicitDefEqProofs (maxSteps := 2000000) (disch := omega) only [go_sem, reduceCtorEq, Nat.reduceAdd, Nat.reduceSub, Nat.reduceMul, Nat.reduceLT, Nat.reduceLeDiff, Nat.reduceEqDiff, Nat.reduceBEq, Int.reduceToNat, Int.reduceLT, Int.reduceLE, Int.reduceEq, Int.reduceNeg, Int.reduceAdd, Int.reduceSub, Int.reduceMul, ↓reduceIte, Int.reduceBEq, Int.reduceBNe, length_pw, hget_pw0, hget_pw, hset_pw0, hset_pw, hq, hm2, idx_tg, Rng.av]
          exact hfin s6 lo hi _ (q + 1) (.inr ⟨rfl, hm0⟩) l1 l2 l3 l4
      · skip
        refine near_c r q 0 25000 1 (by omega) (by omega) _ (hp.pw _).app _ fun s6 lo hi l1 l2 l3 l4 l5 l6 junk => ?_
        rw [pw_pwa hr, List.append_assoc]
        simp -implicitDefEqProofs (maxSteps := 2000000) (disch := omega) only [go_sem, reduceCtorEq, Nat.reduceAdd, Nat.reduceSub, Nat.reduceMul, Nat.reduceLT, Nat.reduceLeDiff, Nat.reduceEqDiff, Nat.reduceBEq, Int.reduceToNat, Int.reduceLT, Int.reduceLE, Int.reduceEq, Int.reduceNeg, Int.reduceAdd, Int.reduceSub, Int.reduceMul, ↓reduceIte, Int.reduceBEq, Int.reduceBNe, length_pw, hget_pw0, hget_pw, hset_pw0, hset_pw, hq, hm2, idx_tg, Rng.av]
        exact hfin s6 lo hi _ q (.inl rfl) l1 l2 l3 l4
    · skip
      simp -implicitDefEqProofs (maxSteps := 2000000) (disch := omega) only [go_sem, reduceCtorEq, Nat.reduceAdd, Nat.reduceSub, Nat.reduceMul, Nat.reduceLT, Nat.reduceLeDiff, Nat.reduceEqDiff, Nat.reduceBEq, Int.reduceToNat, Int.reduceLT, Int.reduceLE, Int.reduceEq, Int.reduceNeg, Int.reduceAdd, Int.reduceSub, Int.reduceMul, ↓reduceIte, Int.reduceBEq, Int.reduceBNe, length_pw, hget_pw0, hget_pw, hset_pw0, hset_pw, hq, hm2, idx_tg, Rng.av]
      refine ⟨fun hm0 => ?_, fun hm0 => ?_⟩
      · refine odds_c r 1 2 (by omega) (by omega) _ (hp.pw _).app _ fun s5 b5 => ?_
        rw [pw_pwa hr]
        cases b5
        · simp -implicitDefEqProofs (maxSteps := 2000000) (disch := omega) only [go_sem, reduceCtorEq, Nat.reduceAdd, Nat.reduceSub, Nat.reduceMul, Nat.reduceLT, Nat.reduceLeDiff, Nat.reduceEqDiff, Nat.reduceBEq, Int.reduceToNat, Int.reduceLT, Int.reduceLE, Int.reduceEq, Int.reduceNeg, Int.reduceAdd, Int.reduceSub, Int.reduceMul, ↓reduceIte, Int.reduceBEq, Int.reduceBNe, length_pw, hget_pw0, hget_pw, hset_pw0, hset_pw, hq, hm2, idx_tg, Rng.av]
          refine near_c r q 0 25000 1 (by omega) (by omega) _ (hp.pw _).app _ fun s6 lo hi l1 l2 l3 l4 l5 l6 junk => ?_
          rw [pw_pwa hr, List.append_assoc]
          simp -implicitDefEqProofs (maxSteps := 2000000) (disch := omega) only [go_sem, reduceCtorEq, Nat.reduceAdd, Nat.reduceSub, Nat.reduceMul, Nat.reduceLT, Nat.reduceLeDiff, Nat.reduceEqDiff, Nat.reduceBEq, Int.reduceToNat, Int.reduceLT, Int.reduceLE, Int.reduceEq, Int.reduceNeg, Int.reduceAdd, Int.reduceSub, Int.reduceMul, ↓reduceIte, Int.reduceBEq, Int.reduceBNe, length_pw, hget_pw0, hget_pw, hset_pw0, hset_pw, hq, hm2, idx_tg, Rng.av]
          exact hfin s6 lo hi _ q (.inl rfl) l1 l2 l3 l4
        · simp -implicitDefEqProofs (maxSteps := 2000000) (disch := omega) only [go_sem, reduceCtorEq, Nat.reduceAdd, Nat.reduceSub, Nat.reduceMul, Nat.reduceLT, Nat.reduceLeDiff, Nat.reduceEqDiff, Nat.reduceBEq, Int.reduceToNat, Int.reduceLT, Int.reduceLE, Int.reduceEq, Int.reduceNeg, Int.reduceAdd, Int.reduceSub, Int.reduceMul, ↓reduceIte, Int.reduceBEq, Int.reduceBNe, length_pw, hget_pw0, hget_pw, hset_pw0, hset_pw, hq, hm2, idx_tg, Rng.av]
          refine near_c r (q + 1) 0 25000 1 (by omega) (by omega) _ (hp.pw _).app _ fun s6 lo hi l1 l2 l3 l4 l5 l6 junk => ?_
          rw [pw_pwa hr, List.append_assoc]
          simp -implicitDefEqProofs (maxSteps := 2000000) (disch := omega) only [go_sem, reduceCtorEq, Nat.reduceAdd, Nat.reduceSub, Nat.reduceMul, Nat.reduceLT, Nat.reduceLeDiff, Nat.reduceEqDiff, Nat.reduceBEq, Int.reduceToNat, Int.reduceLT, Int.reduceLE, Int.reduceEq, Int.reduceNeg, Int.reduceAdd, Int.reduceSub, Int.reduceMul, ↓reduceIte, Int.reduceBEq, Int.reduceBNe, length_pw, hget_pw0, hget_pw, hset_pw0, hset_pw, hq, hm2, idx_tg, Rng.av]
          exact hfin s6 lo hi _ (q + 1) (.inr ⟨rfl, hm0⟩) l1 l2 l3 l4
      · skip
        refine near_c r q 0 25000 1 (by omega) (by omega) _ (hp.pw _).app _ fun s6 lo hi l1 l2 l3 l4 l5 l6 junk => ?_
        rw [pw_pwa hr, List.append_assoc]
        simp -implicitDefEqProofs (maxSteps := 2000000) (disch := omega) only [go_sem, reduceCtorEq, Nat.reduceAdd, Nat.reduceSub, Nat.reduceMul, Nat.reduceLT, Nat.reduceLeDiff, Nat.reduceEqDiff, Nat.reduceBEq, Int.reduceToNat, Int.reduceLT, Int.reduceLE, Int.reduceEq, Int.reduceNeg, Int.reduceAdd, Int.reduceSub, Int.reduceMul, ↓reduceIte, Int.reduceBEq, Int.reduceBNe, length_pw, hget_pw0, hget_pw, hset_pw0, hset_pw, hq, hm2, idx_tg, Rng.av]
        exact hfin s6 lo hi _ q (.inl rfl) l1 l2 l3 l4
  · rcases hk' with rfl | rfl | rfl
    · skip
      simp -implicitDefEqProofs (maxSteps := 2000000) (disch := omega) only [go_sem, reduceCtorEq, Nat.reduceAdd, Nat.reduceSub, Nat.reduceMul, Nat.reduceLT, Nat.reduceLeDiff, Nat.reduceEqDiff, Nat.reduceBEq, Int.reduceToNat, Int.reduceLT, Int.reduceLE, Int.reduceEq, Int.reduceNeg, Int.reduceAdd, Int.reduceSub, Int.reduceMul, ↓reduceIte, Int.reduceBEq, Int.reduceBNe, length_pw, hget_pw0, hget_pw, hset_pw0, hset_pw, hq, hm2, idx_tg, Rng.av]
      refine ⟨fun hm0 => ?_, fun hm0 => ?_⟩
      · refine odds_c r 1 2 (by omega) (by omega) _ (hp.pw _).app _ fun s5 b5 => ?_
        rw [pw_pwa hr]
        cases b5
        · simp -implicitDefEqProofs (maxSteps := 2000000) (disch := omega) only [go_sem, reduceCtorEq, Nat.reduceAdd, Nat.reduceSub, Nat.reduceMul, Nat.reduceLT, Nat.reduceLeDiff, Nat.reduceEqDiff, Nat.reduceBEq, Int.reduceToNat, Int.reduceLT, Int.reduceLE, Int.reduceEq, Int.reduceNeg, Int.reduceAdd, Int.reduceSub, Int.reduceMul, ↓reduceIte, Int.reduceBEq, Int.reduceBNe, length_pw, hget_pw0, hget_pw, hset_pw0, hset_pw, hq, hm2, idx_tg, Rng.av]
          refine near_c r q 0 25000 1 (by omega) (by omega) _ (hp.pw _).app _ fun s6 lo hi l1 l2 l3 l4 l5 l6 junk => ?_
          rw [pw_pwa hr, List.append_assoc]
          simp -implicitDefEqProofs (maxSteps := 2000000) (disch := omega) only [go_sem, reduceCtorEq, Nat.reduceAdd, Nat.reduceSub, Nat.reduceMul, Nat.reduceLT, Nat.reduceLeDiff, Nat.reduceEqDiff, Nat.reduceBEq, Int.reduceToNat, Int.reduceLT, Int.reduceLE, Int.reduceEq, Int.reduceNeg, Int.reduceAdd, Int.reduceSub, Int.reduceMul, ↓reduceIte, Int.reduceBEq, Int.reduceBNe, length_pw, hget_pw0, hget_pw, hset_pw0, hset_pw, hq, hm2, idx_tg, Rng.av]
          exact hfin s6 lo hi _ q (.inl rfl) l1 l2 l3 l4
        · simp -implicitDefEqProofs (maxSteps := 2000000) (disch := omega) only [go_sem, reduceCtorEq, Nat.reduceAdd, Nat.reduceSub, Nat.reduceMul, Nat.reduceLT, Nat.reduceLeDiff, Nat.reduceEqDiff, Nat.reduceBEq, Int.reduceToNat, Int.reduceLT, Int.reduceLE, Int.reduceEq, Int.reduceNeg, Int.reduceAdd, Int.reduceSub, Int.reduceMul, ↓reduceIte, Int.reduceBEq, Int.reduceBNe, length_pw, hget_pw0, hget_pw, hset_pw0, hset_pw, hq, hm2, idx_tg, Rng.av]
          refine near_c r (q + 1) 0 25000 1 (by omega) (by omega) _ (hp.pw _).app _ fun s6 lo hi l1 l2 l3 l4 l5 l6 junk => ?_
          rw [pw_pwa hr, List.append_assoc]
          simp -implicitDefEqProofs (maxSteps := 2000000) (disch := omega) only [go_sem, reduceCtorEq, Nat.reduceAdd, Nat.reduceSub, Nat.reduceMul, Nat.reduceLT, Nat.reduceLeDiff, Nat.reduceEqDiff, Nat.reduceBEq, Int.reduceToNat, Int.reduceLT, Int.reduceLE, Int.reduceEq, Int.reduceNeg, Int.reduceAdd, Int.reduceSub, Int.reduceMul, ↓reduceIte, Int.reduceBEq, Int.reduceBNe, length_pw, hget_pw0, hget_pw, hset_pw0, hset_pw, hq, hm2, idx_tg, Rng.av]
          exact hfin s6 lo hi _ (q + 1) (.inr ⟨rfl, hm0⟩) l1 l2 l3 l4
      · skip
        refine near_c r q 0 25000 1 (by omega) (by omega) _ (hp.pw _).app _ fun s6 lo hi l1 l2 l3 l4 l5 l6 junk => ?_
        rw [pw_pwa hr, List.append_assoc]
        simp -implicitDefEqProofs (maxSteps := 2000000) (disch := omega) only [go_sem, reduceCtorEq, Nat.reduceAdd, Nat.reduceSub, Nat.reduceMul, Nat.reduceLT, Nat.reduceLeDiff, Nat.reduceEqDiff, Nat.reduceBEq, Int.reduceToNat, Int.reduceLT, Int.reduceLE, Int.reduceEq, Int.reduceNeg, Int.reduceAdd, Int.reduceSub, Int.reduceMul, ↓reduceIte, Int.reduceBEq, Int.reduceBNe, length_pw, hget_pw0, hget_pw, hset_pw0, hset_pw, hq, hm2, idx_tg, Rng.av]
        exact hfin s6 lo hi _ q (.inl rfl) l1 l2 l3 l4
    · have hD : (if tg T a - tg T b < tg T b - tg T a then tg T b - tg T a else tg T a - tg T b) = dist (tg T a) (tg T b) := by unfold dist; split <;> omega
      have hD2 : 0 ≤ dist (tg T a) (tg T b) ∧ dist (tg T a) (tg T b) ≤ 100000 := by unfold dist; omega
      have hisR : ∀ lo hi, 100 * lo ≤ dist (tg T a) (tg T b) * sec → dist (tg T a) (tg T b) * sec ≤ 100 * hi → isR ⟨2, a, b, sec, ⟨lo, hi⟩⟩ s0 T = true := fun lo hi g1 g2 => by
        have : ¬ (2 : Int) = 1 := by decide
        simp only [isR, this, if_false, if_true, decide_eq_true_eq]
        exact ⟨g1, g2⟩
      generalize dist (tg T a) (tg T b) = D at hD hD2 hisR
      have hDn : 0 ≤ D * sec ∧ D * sec ≤ 2000000 := ⟨Int.mul_nonneg hD2.1 (by omega), by have := Int.mul_le_mul hD2.2 hsec.2 (by omega) (by omega); omega⟩
      have e1 : (D * sec).tdiv 100 = D * sec / 100 := Int.tdiv_eq_ediv_of_nonneg hDn.1
      have e2 : (D * sec + 99).tdiv 100 = (D * sec + 99) / 100 := Int.tdiv_eq_ediv_of_nonneg (by omega)
      simp -implicitDefEqProofs (maxSteps := 2000000) (disch := omega) only [go_sem, reduceCtorEq, Nat.reduceAdd, Nat.reduceSub, Nat.reduceMul, Nat.reduceLT, Nat.reduceLeDiff, Nat.reduceEqDiff, Nat.reduceBEq, Int.reduceToNat, Int.reduceLT, Int.reduceLE, Int.reduceEq, Int.reduceNeg, Int.reduceAdd, Int.reduceSub, Int.reduceMul, ↓reduceIte, Int.reduceBEq, Int.reduceBNe, length_pw, hget_pw0, hget_pw, hset_pw0, hset_pw, hD, e1, e2, idx_tg, Rng.av]
      refine of_c r [0, 0, 1] .full (by simp) _ (hp.pw _).app _ fun s5 x1 hx1 => ?_
      rw [pw_pwa hr]
      have hx1' : x1 = 0 ∨ x1 = 1 := by simpa using hx1
      obtain ⟨lo, hlo⟩ : ∃ lo, (if 0 < D * sec / 100 - x1 then D * sec / 100 - x1 else 0) = lo := ⟨_, rfl⟩
      have hlo2 : 0 ≤ lo ∧ lo ≤ 20000 ∧ 100 * lo ≤ D * sec := by rw [← hlo]; split <;> omega
      simp -implicitDefEqProofs (maxSteps := 2000000) (disch := omega) only [go_sem, reduceCtorEq, Nat.reduceAdd, Nat.reduceSub, Nat.reduceMul, Nat.reduceLT, Nat.reduceLeDiff, Nat.reduceEqDiff, Nat.reduceBEq, Int.reduceToNat, Int.reduceLT, Int.reduceLE, Int.reduceEq, Int.reduceNeg, Int.reduceAdd, Int.reduceSub, Int.reduceMul, ↓reduceIte, Int.reduceBEq, Int.reduceBNe, length_pw, hget_pw0, hget_pw, hset_pw0, hset_pw, hD, e1, e2, idx_tg, Rng.av, hlo]
      refine of_c r [0, 0, 1] .full (by simp) _ (hp.pw _).app _ fun s6 x2 hx2 => ?_
      rw [pw_pwa hr]
      have hx2' : x2 = 0 ∨ x2 = 1 := by simpa using hx2
      obtain ⟨hi, hhi⟩ : ∃ hi, (D * sec + 99) / 100 + x2 = hi := ⟨_, rfl⟩
      have hhi2 : lo ≤ hi ∧ hi ≤ 25000 ∧ D * sec ≤ 100 * hi := by omega
      simp -implicitDefEqProofs (maxSteps := 2000000) (disch := omega) only [go_sem, reduceCtorEq, Nat.reduceAdd, Nat.reduceSub, Nat.reduceMul, Nat.reduceLT, Nat.reduceLeDiff, Nat.reduceEqDiff, Nat.reduceBEq, Int.reduceToNat, Int.reduceLT, Int.reduceLE, Int.reduceEq, Int.reduceNeg, Int.reduceAdd, Int.reduceSub, Int.reduceMul, ↓reduceIte, Int.reduceBEq, Int.reduceBNe, length_pw, hget_pw0, hget_pw, hset_pw0, hset_pw, hD, e1, e2, idx_tg, Rng.av, hlo, hhi]
      refine h s6 ⟨2, a, b, sec, ⟨lo, hi⟩⟩ _ ?_ (hisR lo hi hlo2.2.2 hhi2.2.2)
      simp only [ckR]; grind
    · by_cases hle : tg T a ≤ tg T b
      · skip
        simp -implicitDefEqProofs (maxSteps := 2000000) (disch := omega) only [go_sem, reduceCtorEq, Nat.reduceAdd, Nat.reduceSub, Nat.reduceMul, Nat.reduceLT, Nat.reduceLeDiff, Nat.reduceEqDiff, Nat.reduceBEq, Int.reduceToNat, Int.reduceLT, Int.reduceLE, Int.reduceEq, Int.reduceNeg, Int.reduceAdd, Int.reduceSub, Int.reduceMul, ↓reduceIte, Int.reduceBEq, Int.reduceBNe, length_pw, hget_pw0, hget_pw, hset_pw0, hset_pw, hq, hm2, idx_tg, Rng.av]
        refine ⟨fun hm0 => ?_, fun hm0 => ?_⟩
        · refine odds_c r 1 2 (by omega) (by omega) _ (hp.pw _).app _ fun s5 b5 => ?_
          rw [pw_pwa hr]
          cases b5
          · simp -implicitDefEqProofs (maxSteps := 2000000) (disch := omega) only [go_sem, reduceCtorEq, Nat.reduceAdd, Nat.reduceSub, Nat.reduceMul, Nat.reduceLT, Nat.reduceLeDiff, Nat.reduceEqDiff, Nat.reduceBEq, Int.reduceToNat, Int.reduceLT, Int.reduceLE, Int.reduceEq, Int.reduceNeg, Int.reduceAdd, Int.reduceSub, Int.reduceMul, ↓reduceIte, Int.reduceBEq, Int.reduceBNe, length_pw, hget_pw0, hget_pw, hset_pw0, hset_pw, hq, hm2, idx_tg, Rng.av]
            refine near_c r q 0 25000 1 (by omega) (by omega) _ (hp.pw _).app _ fun s6 lo hi l1 l2 l3 l4 l5 l6 junk => ?_
            rw [pw_pwa hr, List.append_assoc]
            simp -implicitDefEqProofs (maxSteps := 2000000) (disch := omega) only [go_sem, reduceCtorEq, Nat.reduceAdd, Nat.reduceSub, Nat.reduceMul, Nat.reduceLT, Nat.reduceLeDiff, Nat.reduceEqDiff, Nat.reduceBEq, Int.reduceToNat, Int.reduceLT, Int.reduceLE, Int.reduceEq, Int.reduceNeg, Int.reduceAdd, Int.reduceSub, Int.reduceMul, ↓reduceIte, Int.reduceBEq, Int.reduceBNe, length_pw, hget_pw0, hget_pw, hset_pw0, hset_pw, hq, hm2, idx_tg, Rng.av]
            exact hfin s6 lo hi _ q (.inl rfl) l1 l2 l3 l4
          · simp -implicitDefEqProofs (maxSteps := 2000000) (disch := omega) only [go_sem, reduceCtorEq, Nat.reduceAdd, Nat.reduceSub, Nat.reduceMul, Nat.reduceLT, Nat.reduceLeDiff, Nat.reduceEqDiff, Nat.reduceBEq, Int.reduceToNat, Int.reduceLT, Int.reduceLE, Int.reduceEq, Int.reduceNeg, Int.reduceAdd, Int.reduceSub, Int.reduceMul, ↓reduceIte, Int.reduceBEq, Int.reduceBNe, length_pw, hget_pw0, hget_pw, hset_pw0, hset_pw, hq, hm2, idx_tg, Rng.av]
            refine near_c r (q + 1) 0 25000 1 (by omega) (by omega) _ (hp.pw _).app _ fun s6 lo hi l1 l2 l3 l4 l5 l6 junk => ?_
            rw [pw_pwa hr, List.append_assoc]
            simp -implicitDefEqProofs (maxSteps := 2000000) (disch := omega) only [go_sem, reduceCtorEq, Nat.reduceAdd, Nat.reduceSub, Nat.reduceMul, Nat.reduceLT, Nat.reduceLeDiff, Nat.reduceEqDiff, Nat.reduceBEq, Int.reduceToNat, Int.reduceLT, Int.reduceLE, Int.reduceEq, Int.reduceNeg, Int.reduceAdd, Int.reduceSub, Int.reduceMul, ↓reduceIte, Int.reduceBEq, Int.reduceBNe, length_pw, hget_pw0, hget_pw, hset_pw0, hset_pw, hq, hm2, idx_tg, Rng.av]
            exact hfin s6 lo hi _ (q + 1) (.inr ⟨rfl, hm0⟩) l1 l2 l3 l4
        · skip
          refine near_c r q 0 25000 1 (by omega) (by omega) _ (hp.pw _).app _ fun s6 lo hi l1 l2 l3 l4 l5 l6 junk => ?_
          rw [pw_pwa hr, List.append_assoc]
          simp -implicitDefEqProofs (maxSteps := 2000000) (disch := omega) only [go_sem, reduceCtorEq, Nat.reduceAdd, Nat.reduceSub, Nat.reduceMul, Nat.reduceLT, Nat.reduceLeDiff, Nat.reduceEqDiff, Nat.reduceBEq, Int.reduceToNat, Int.reduceLT, Int.reduceLE, Int.reduceEq, Int.reduceNeg, Int.reduceAdd, Int.reduceSub, Int.reduceMul, ↓reduceIte, Int.reduceBEq, Int.reduceBNe, length_pw, hget_pw0, hget_pw, hset_pw0, hset_pw, hq, hm2, idx_tg, Rng.av]
          exact hfin s6 lo hi _ q (.inl rfl) l1 l2 l3 l4
      · simp -implicitDefEqProofs (maxSteps := 2000000) (disch := omega) only [go_sem, reduceCtorEq, Nat.reduceAdd, Nat.reduceSub, Nat.reduceMul, Nat.reduceLT, Nat.reduceLeDiff, Nat.reduceEqDiff, Nat.reduceBEq, Int.reduceToNat, Int.reduceLT, Int.reduceLE, Int.reduceEq, Int.reduceNeg, Int.reduceAdd, Int.reduceSub, Int.reduceMul, ↓reduceIte, Int.reduceBEq, Int.reduceBNe, length_pw, hget_pw0, hget_pw, hset_pw0, hset_pw, hq, hm2, idx_tg, Rng.av]
        refine h s4 ⟨3, a, b, 0, ⟨0, 0⟩⟩ _ ?_ ?_
        · simp only [ckR]; grind
        · have n1 : ¬ (3 : Int) = 1 := by decide
          have n2 : ¬ (3 : Int) = 2 := by decide
          simp only [isR, n1, n2, if_false, decide_eq_true_eq]; omega
end Go.Proofs
set_option linter.unusedSimpArgs false
set_option linter.unusedVariables false
set_option maxRecDepth 100000
namespace Go.Proofs
open Go Go.Mu

set_option maxHeartbeats 2000000 in
theorem earOf_v (r : Nat) (m n w : Int) (hm : 1 ≤ m ∧ m ≤ 3) (hn : 0 ≤ n ∧ n ≤ 6) (hw : 0 ≤ w ∧ w ≤ 10) (σ : List AObj) (hp : PotAt σ r) (Q : AV → List AObj → Prop) (h : ∀ s' e T junk q, EarP m n w e T → σ.length ≤ q → (∀ s2, hget (pw σ r s2 ++ junk) q = some (.vec 6 (e.rds.map Rd.av))) → Q (.tup [.agg [.int .i64 e.slack, .list .no 2 (e.tones.map Rng.av), .vec q e.rds.length], .list .no 1 (T.map (.int .i64))]) (pw σ r s' ++ junk)) :
    ACalls Try.prog 17 [.ptr r 0, .int .i64 m, .int .i64 n, .int .i64 w] σ Q := by
  refine ACalls.wkpost ?_
  refine ACalls.of_ev (E := Try.E 70 Try.ord17 fs0) (Try.envOK 70 Try.ord17 fs0 fs0_ok) Try.kp17 Try.func17 rfl (by kernel_rfl) (by simp [Try.E]) (Callable.of Try.func17 (by kernel_rfl) (by kernel_rfl)) (by kernel_rfl) ?_
  have hr := hp.lt
  simp -implicitDefEqProofs (maxSteps := 2000000) (disch := omega) only [go_sem, reduceCtorEq, Nat.reduceAdd, Nat.reduceSub, Nat.reduceMul, Nat.reduceLT, Nat.reduceLeDiff, Nat.reduceEqDiff, Nat.reduceBEq, Int.reduceToNat, Int.reduceLT, Int.reduceLE, Int.reduceEq, Int.reduceNeg, Int.reduceAdd, Int.reduceSub, Int.reduceMul, ↓reduceIte, Int.reduceBEq, Int.reduceBNe]
  refine of_c r [0, 0, 1] .full (by simp) _ hp.app _ fun s1 sl hsl => ?_
  rw [pw_app hr]
  have hsl' : 0 ≤ sl ∧ sl ≤ 1 := by simp at hsl; omega
  simp -implicitDefEqProofs (maxSteps := 2000000) (disch := omega) only [go_sem, reduceCtorEq, Nat.reduceAdd, Nat.reduceSub, Nat.reduceMul, Nat.reduceLT, Nat.reduceLeDiff, Nat.reduceEqDiff, Nat.reduceBEq, Int.reduceToNat, Int.reduceLT, Int.reduceLE, Int.reduceEq, Int.reduceNeg, Int.reduceAdd, Int.reduceSub, Int.reduceMul, ↓reduceIte, Int.reduceBEq, Int.reduceBNe, length_pw, hget_pw0, hget_pw, hset_pw0, hset_pw]
  refine within_c r 50 300 (by omega) (by omega) _ (hp.pw _).app _ fun s2 b1 hb1 hb2 => ?_
  rw [pw_pwa hr]
  simp -implicitDefEqProofs (maxSteps := 2000000) (disch := omega) only [go_sem, reduceCtorEq, Nat.reduceAdd, Nat.reduceSub, Nat.reduceMul, Nat.reduceLT, Nat.reduceLeDiff, Nat.reduceEqDiff, Nat.reduceBEq, Int.reduceToNat, Int.reduceLT, Int.reduceLE, Int.reduceEq, Int.reduceNeg, Int.reduceAdd, Int.reduceSub, Int.reduceMul, ↓reduceIte, Int.reduceBEq, Int.reduceBNe, length_pw, hget_pw0, hget_pw, hset_pw0, hset_pw]
  refine within_c r 20000 50000 (by omega) (by omega) _ (hp.pw _).app _ fun s3 b2 hb3 hb4 => ?_
  rw [pw_pwa hr]
  simp -implicitDefEqProofs (maxSteps := 2000000) (disch := omega) only [go_sem, reduceCtorEq, Nat.reduceAdd, Nat.reduceSub, Nat.reduceMul, Nat.reduceLT, Nat.reduceLeDiff, Nat.reduceEqDiff, Nat.reduceBEq, Int.reduceToNat, Int.reduceLT, Int.reduceLE, Int.reduceEq, Int.reduceNeg, Int.reduceAdd, Int.reduceSub, Int.reduceMul, ↓reduceIte, Int.reduceBEq, Int.reduceBNe, length_pw, hget_pw0, hget_pw, hset_pw0, hset_pw]
  refine of_c r [b1, b2] .full (by simp) _ (hp.pw _).app _ fun s4 base hbase => ?_
  rw [pw_pwa hr]
  have hbase' : 50 ≤ base ∧ base ≤ 50000 := by simp at hbase; omega
  clear hb1 hb2 hb3 hb4 hbase
  simp -implicitDefEqProofs (maxSteps := 2000000) (disch := omega) only [go_sem, reduceCtorEq, Nat.reduceAdd, Nat.reduceSub, Nat.reduceMul, Nat.reduceLT, Nat.reduceLeDiff, Nat.reduceEqDiff, Nat.reduceBEq, Int.reduceToNat, Int.reduceLT, Int.reduceLE, Int.reduceEq, Int.reduceNeg, Int.reduceAdd, Int.reduceSub, Int.reduceMul, ↓reduceIte, Int.reduceBEq, Int.reduceBNe, length_pw, hget_pw0, hget_pw, hset_pw0, hset_pw]
  refine within_c r 1 m (by omega) (by omega) _ (hp.pw _).app _ fun s5 i0 hi1 hi2 => ?_
  rw [pw_pwa hr]
  simp -implicitDefEqProofs (maxSteps := 2000000) (disch := omega) only [go_sem, reduceCtorEq, Nat.reduceAdd, Nat.reduceSub, Nat.reduceMul, Nat.reduceLT, Nat.reduceLeDiff, Nat.reduceEqDiff, Nat.reduceBEq, Int.reduceToNat, Int.reduceLT, Int.reduceLE, Int.reduceEq, Int.reduceNeg, Int.reduceAdd, Int.reduceSub, Int.reduceMul, ↓reduceIte, Int.reduceBEq, Int.reduceBNe, length_pw, hget_pw0, hget_pw, hset_pw0, hset_pw]
  refine ARun.ghost 11 1 (sz0 := 0) rfl (by simp [lookA]) ?_
  simp only [ins, ↓reduceIte, List.append_assoc, List.cons_append, List.nil_append, List.length_append, List.length_cons, List.length_nil, Nat.zero_add, Nat.reduceAdd, Nat.reduceEqDiff, length_pw]
  refine ARun.ghostK (σ.length + 1) 1 2 (by rw [hget_pw]; rfl) rfl ?_
  simp only [hset_pw, List.set_cons_succ, List.set_cons_zero, List.append_assoc, List.cons_append, List.nil_append, List.length_append, List.length_cons, List.length_nil, Nat.zero_add, Nat.reduceAdd, length_pw]
  refine ARun.ghostVK (σ.length + 1) 2 6 (by rw [hget_pw]; rfl) rfl ?_
  simp only [hset_pw, List.set_cons_succ, List.set_cons_zero, List.append_assoc, List.cons_append, List.nil_append, List.length_append, List.length_cons, List.length_nil, Nat.zero_add, Nat.reduceAdd, length_pw]
  have hi0 : 1 ≤ i0 ∧ i0 ≤ m := by omega
  clear hi1 hi2
  refine ARun.loopJ (Try.envOK 70 Try.ord17 fs0 fs0_ok) (α := Nat × List Int × List Rng) (fun a => i0.toNat - a.1)
    (fun a τ => (∃ s j, τ = pw σ r s ++ (.cells [.int .i64 0, .list .full 0 [], .list .full 0 []] :: .cells [.int .i64 sl, .list (.own (σ.length + 3)) 2 (a.2.2.map Rng.av), .vec (σ.length + 4) 0] :: .tail a.2.1.length 1 :: .tail a.2.2.length 2 :: .vec 6 [] :: j)) ∧ (a.1 : Int) ≤ i0 ∧ a.2.1.length = a.1 ∧ a.2.2.length = a.1 ∧ (∀ x ∈ a.2.1, 50 ≤ x ∧ x ≤ 50030) ∧ (∀ i (h : i < a.2.1.length) (h' : i < a.2.2.length), 1 ≤ a.2.2[i].lo ∧ a.2.2[i].lo ≤ a.2.1[i] ∧ a.2.1[i] ≤ a.2.2[i].hi ∧ a.2.2[i].hi ≤ 100000 ∧ a.2.1[i] - w ≤ a.2.2[i].lo ∧ a.2.2[i].hi ≤ a.2.1[i] + w))
    (fun a => [(11, .list (.own (σ.length + 2)) 1 (a.2.1.map (.int .i64))), (13, .int .i64 (i0 - a.1))]) (0, [], []) (by kernel_rfl) (by simp [upd, ins, subF, lookA]) ⟨⟨s5, [], by simp⟩, by simp; omega, rfl, rfl, by simp, by simp⟩ ?_
  rintro ⟨k, T, ts⟩ τ ⟨⟨s6, j, rfl⟩, hk, hT, hts, hTb, hrng⟩ ih
  simp only at hk hT hts hTb hrng ih
  by_cases hlt : (k : Int) < i0
  · simp -implicitDefEqProofs (maxSteps := 2000000) (disch := omega) only [go_sem, reduceCtorEq, Nat.reduceAdd, Nat.reduceSub, Nat.reduceMul, Nat.reduceLT, Nat.reduceLeDiff, Nat.reduceEqDiff, Nat.reduceBEq, Int.reduceToNat, Int.reduceLT, Int.reduceLE, Int.reduceEq, Int.reduceNeg, Int.reduceAdd, Int.reduceSub, Int.reduceMul, ↓reduceIte, Int.reduceBEq, Int.reduceBNe, length_pw, hget_pw0, hget_pw, hset_pw0, hset_pw]
    refine upto_c r 30 (by omega) _ (hp.pw _).app _ fun s7 u hu1 hu2 => ?_
    rw [pw_pwa hr]
    have hu : 0 ≤ u ∧ u ≤ 30 := by omega
    clear hu1 hu2
    simp -implicitDefEqProofs (maxSteps := 2000000) (disch := omega) only [go_sem, reduceCtorEq, Nat.reduceAdd, Nat.reduceSub, Nat.reduceMul, Nat.reduceLT, Nat.reduceLeDiff, Nat.reduceEqDiff, Nat.reduceBEq, Int.reduceToNat, Int.reduceLT, Int.reduceLE, Int.reduceEq, Int.reduceNeg, Int.reduceAdd, Int.reduceSub, Int.reduceMul, ↓reduceIte, Int.reduceBEq, Int.reduceBNe, length_pw, hget_pw0, hget_pw, hset_pw0, hset_pw]
    refine near_c r (base + u) 1 100000 w (by omega) (by omega) _ (hp.pw _).app _ fun s8 a b c1 c2 c3 c4 c5 c6 junk => ?_
    rw [pw_pwa hr, List.append_assoc]
    simp -implicitDefEqProofs (maxSteps := 2000000) (disch := omega) only [go_sem, reduceCtorEq, Nat.reduceAdd, Nat.reduceSub, Nat.reduceMul, Nat.reduceLT, Nat.reduceLeDiff, Nat.reduceEqDiff, Nat.reduceBEq, Int.reduceToNat, Int.reduceLT, Int.reduceLE, Int.reduceEq, Int.reduceNeg, Int.reduceAdd, Int.reduceSub, Int.reduceMul, ↓reduceIte, Int.reduceBEq, Int.reduceBNe, length_pw, hget_pw0, hget_pw, hset_pw0, hset_pw, Rng.av]
    refine (ih (k + 1, T ++ [base + u], ts ++ [⟨a, b⟩]) _ (by simp only; omega) ⟨⟨s8, j ++ junk, rfl⟩, by simp only; omega, by simp [hT], by simp [hts], fun x hx => ?_, fun i h h' => ?_⟩).castS (by simp [Rng.av]) (by simp [upd, ins, subF, lookA]; omega)
    · rcases List.mem_append.1 hx with hx | hx
      · exact hTb x hx
      · simp at hx; omega
    · simp only at h h' ⊢
      rw [List.getElem_append, List.getElem_append]
      split <;> split
      · exact hrng i (by assumption) (by assumption)
      · omega
      · omega
      · simp only [List.getElem_singleton]; omega
  · have hke : (k : Int) = i0 := by omega
    have hk3 : k ≤ 3 := by omega
    have hts3 : ts.length ≤ 3 := by omega
    simp -implicitDefEqProofs (maxSteps := 2000000) (disch := omega) only [go_sem, reduceCtorEq, Nat.reduceAdd, Nat.reduceSub, Nat.reduceMul, Nat.reduceLT, Nat.reduceLeDiff, Nat.reduceEqDiff, Nat.reduceBEq, Int.reduceToNat, Int.reduceLT, Int.reduceLE, Int.reduceEq, Int.reduceNeg, Int.reduceAdd, Int.reduceSub, Int.reduceMul, ↓reduceIte, Int.reduceBEq, Int.reduceBNe, length_pw, hget_pw0, hget_pw, hset_pw0, hset_pw]
    refine upto_c r n (by omega) _ (hp.pw _).app _ fun s7 q hq1 hq2 => ?_
    rw [pw_pwa hr]
    have hq : 0 ≤ q ∧ q ≤ n := by omega
    clear hq1 hq2 ih
    simp -implicitDefEqProofs (maxSteps := 2000000) (disch := omega) only [go_sem, reduceCtorEq, Nat.reduceAdd, Nat.reduceSub, Nat.reduceMul, Nat.reduceLT, Nat.reduceLeDiff, Nat.reduceEqDiff, Nat.reduceBEq, Int.reduceToNat, Int.reduceLT, Int.reduceLE, Int.reduceEq, Int.reduceNeg, Int.reduceAdd, Int.reduceSub, Int.reduceMul, ↓reduceIte, Int.reduceBEq, Int.reduceBNe, length_pw, hget_pw0, hget_pw, hset_pw0, hset_pw]
    refine ARun.loopJ (Try.envOK 70 Try.ord17 fs0 fs0_ok) (α := Nat × List Rd) (fun a => q.toNat - a.1)
      (fun a τ => (∃ s j, τ = pw σ r s ++ (.cells [.int .i64 0, .list .full 0 [], .list .full 0 []] :: .cells [.int .i64 sl, .list (.own (σ.length + 3)) 2 (ts.map Rng.av), .vec (σ.length + 4) a.2.length] :: .tail T.length 1 :: .tail ts.length 2 :: .vec 6 (a.2.map Rd.av) :: j)) ∧ (a.1 : Int) ≤ q ∧ a.2.length = a.1 ∧ (∀ x ∈ a.2, ckR x T.length = 0 ∧ isR x sl T = true))
      (fun a => [(15, .int .i64 (q - a.1))]) (0, []) (by kernel_rfl) (by simp [upd, ins, subF, lookA]) ⟨⟨s7, j, by simp⟩, by simp; omega, rfl, by simp⟩ ?_
    rintro ⟨k2, rs⟩ τ ⟨⟨s8, j2, rfl⟩, hk2, hrs, hrd⟩ ih
    simp only at hk2 hrs hrd ih
    by_cases hlt2 : (k2 : Int) < q
    · simp -implicitDefEqProofs (maxSteps := 2000000) (disch := omega) only [go_sem, reduceCtorEq, Nat.reduceAdd, Nat.reduceSub, Nat.reduceMul, Nat.reduceLT, Nat.reduceLeDiff, Nat.reduceEqDiff, Nat.reduceBEq, Int.reduceToNat, Int.reduceLT, Int.reduceLE, Int.reduceEq, Int.reduceNeg, Int.reduceAdd, Int.reduceSub, Int.reduceMul, ↓reduceIte, Int.reduceBEq, Int.reduceBNe, length_pw, hget_pw0, hget_pw, hset_pw0, hset_pw]
      refine ACalls.weaken (l' := [.ptr r 0, .agg [.int .i64 sl, .list .no 2 (ts.map Rng.av), .vec (σ.length + 4) rs.length], .list (.own (σ.length + 2)) 1 (T.map (.int .i64))]) ⟨rfl, ⟨rfl, ⟨rfl, .inl rfl, .inl rfl⟩, rfl, trivial⟩, ⟨rfl, .inl rfl, .inr rfl⟩, trivial⟩ (readingOf_v r sl ts (σ.length + 4) rs.length T (.own (σ.length + 2)) (by omega) (by omega) (fun x hx => by have := hTb x hx; omega) _ (hp.pw _).app _ fun s9 x junk hx1 hx2 => ?_)
      rw [pw_pwa hr, List.append_assoc]
      simp -implicitDefEqProofs (maxSteps := 2000000) (disch := omega) only [go_sem, reduceCtorEq, Nat.reduceAdd, Nat.reduceSub, Nat.reduceMul, Nat.reduceLT, Nat.reduceLeDiff, Nat.reduceEqDiff, Nat.reduceBEq, Int.reduceToNat, Int.reduceLT, Int.reduceLE, Int.reduceEq, Int.reduceNeg, Int.reduceAdd, Int.reduceSub, Int.reduceMul, ↓reduceIte, Int.reduceBEq, Int.reduceBNe, length_pw, hget_pw0, hget_pw, hset_pw0, hset_pw, Rd.av]
      refine (ih (k2 + 1, rs ++ [x]) _ (by simp only; omega) ⟨⟨s9, j2 ++ junk, rfl⟩, by simp only; omega, by simp [hrs], fun y hy => ?_⟩).castS (by simp [Rd.av]) (by simp [upd, ins, subF, lookA]; omega)
      rcases List.mem_append.1 hy with hy | hy
      · exact hrd y hy
      · simp at hy; subst hy; exact ⟨hx1, hx2⟩
    · have hk2e : (k2 : Int) = q := by omega
      simp -implicitDefEqProofs (maxSteps := 2000000) (disch := omega) only [go_sem, reduceCtorEq, Nat.reduceAdd, Nat.reduceSub, Nat.reduceMul, Nat.reduceLT, Nat.reduceLeDiff, Nat.reduceEqDiff, Nat.reduceBEq, Int.reduceToNat, Int.reduceLT, Int.reduceLE, Int.reduceEq, Int.reduceNeg, Int.reduceAdd, Int.reduceSub, Int.reduceMul, ↓reduceIte, Int.reduceBEq, Int.reduceBNe, length_pw, hget_pw0, hget_pw, hset_pw0, hset_pw, Rd.av]
      refine ⟨.tup [.agg [.int .i64 sl, .list .no 2 (ts.map Rng.av), .vec (σ.length + 4) rs.length], .list .no 1 (T.map (.int .i64))], ⟨⟨rfl, ⟨rfl, .inl rfl, .inl rfl⟩, rfl, trivial⟩, ⟨rfl, .inl rfl, .inl rfl⟩, trivial⟩, h s8 ⟨sl, ts, rs⟩ T _ (σ.length + 4) ⟨?_, by simp only; omega, by omega, by omega, by simp only; omega, hsl', fun i h h' => ?_, hTb, fun x hx => (hrd x hx).2⟩ (by omega) (fun s2 => by rw [hget_pw]; rfl)⟩
      · have f1 : firstE ckT ts = 0 := firstE_zero fun i hi => by
          have := hrng i (by omega) hi
          simp only [ckT]; grind
        have f2 : firstE (fun r => ckR r ts.length) rs = 0 := firstE_zero fun i hi => by
          have := (hrd rs[i] (List.getElem_mem hi)).1
          have e : T.length = ts.length := by omega
          rw [e] at this; exact this
        simp only [ck]; grind
      · have := hrng i h h'
        exact ⟨this.1, this.2.1, this.2.2.1, this.2.2.2.2⟩
end Go.Proofs
set_option linter.unusedSimpArgs false
set_option linter.unusedVariables false
set_option maxRecDepth 100000
namespace Go.Proofs
open Go Go.Mu

theorem ARun.loopA {E : Env} {ro : Option Nat} {c : Code} {k : List Item} {kp : Nat → Bool} {tm sl : List (Nat × AV)} {σ : List AObj} {Q : Post} {α : Type} (m : α → Nat) (J : α → List AObj → Prop) (lv : α → List (Nat × AV)) (x0 : α)
    (h0 : subF (upd sl (lv x0)) sl) (hJ : J x0 σ)
    (hs : ∀ x τ, J x τ → (∀ y τ', m y < m x → J y τ' → ARun E ro (.inLoop c :: k) ⟨kp, [], upd sl (lv y)⟩ τ' Q) → ARun E ro (.code c :: .inLoop c :: k) ⟨kp, [], upd sl (lv x)⟩ τ Q) : ARun E ro (.code (.loop c) :: k) ⟨kp, tm, sl⟩ σ Q := by
  have key : ∀ n x τ, m x = n → J x τ → ARun E ro (.code c :: .inLoop c :: k) ⟨kp, [], upd sl (lv x)⟩ τ Q := by
    intro n
    induction n using Nat.strongRecOn with
    | _ n ih =>
      intro x τ hm hj
      exact hs x τ hj fun y τ' hlt hy => .inLoop (ih (m y) (by omega) y τ' rfl hy)
  exact .loop (ARun.sub (key _ x0 σ rfl hJ) h0)
theorem intsV_c (l : List Int) (tk : Tok) (hl : l.length ≤ 4294967296) (σ : List AObj) (Q : AV → List AObj → Prop) (h : Q (.vec σ.length l.length) (σ ++ [.vec 1 (l.map (.int .i64))])) :
    ACalls Try.prog 22 [.list tk 1 (l.map (.int .i64))] σ Q := by
  refine ACalls.of_ev (E := Try.Ev 6 (fun _ => ([], [])) fs0) (Try.envOKV 6 (fun _ => ([], [])) fs0 fs0_ok) Try.kp22 Try.func22 rfl (by kernel_rfl) (by simp [Try.Ev]) (Callable.of Try.func22 (by kernel_rfl) (by kernel_rfl)) (by kernel_rfl) ?_
  simp -implicitDefEqProofs (maxSteps := 2000000) (disch := omega) only [go_sem, reduceCtorEq, Nat.reduceAdd, Nat.reduceSub, Nat.reduceMul, Nat.reduceLT, Nat.reduceLeDiff, Nat.reduceEqDiff, Nat.reduceBEq, Int.reduceToNat, Int.reduceLT, Int.reduceLE, Int.reduceEq, Int.reduceNeg, Int.reduceAdd, Int.reduceSub, Int.reduceMul, ↓reduceIte, Int.reduceBEq, Int.reduceBNe]
  exact h
theorem ck_set {e : Ear} {x : Rd} {k : Nat} (h : ck e = 0) (hx : ckR x e.tones.length = 0) : ck ⟨e.slack, e.tones, e.rds.set k x⟩ = 0 := by
  have hrd := ck_rd h
  have h2 : firstE (fun r => ckR r e.tones.length) (e.rds.set k x) = 0 := firstE_zero fun i hi => by
    rcases List.mem_or_eq_of_mem_set (List.getElem_mem hi) with hm | hm
    · exact hrd _ hm
    · rw [hm]; exact hx
  simp only [ck, List.length_set] at h ⊢
  rw [h2]
  grind
set_option maxHeartbeats 4000000 in
theorem shaken_c (r : Nat) (m n w : Int) (hm : 1 ≤ m ∧ m ≤ 3) (hn : 0 ≤ n ∧ n ≤ 6) (hw : 0 ≤ w ∧ w ≤ 10) (σ : List AObj) (hp : PotAt σ r) (Q : AV → List AObj → Prop)
    (h : ∀ s' e junk q, ck e = 0 → 1 ≤ e.tones.length → (e.tones.length : Int) ≤ m → (e.rds.length : Int) ≤ n → σ.length ≤ q → hget (pw σ r s' ++ junk) q = some (.vec 6 (e.rds.map Rd.av)) → Q (.agg [.int .i64 e.slack, .list .no 2 (e.tones.map Rng.av), .vec q e.rds.length]) (pw σ r s' ++ junk)) :
    ACalls Try.prog 58 [.ptr r 0, .int .i64 m, .int .i64 n, .int .i64 w] σ Q := by
  refine ACalls.of_ev (E := Try.E 61 Try.ord58 fs0) (Try.envOK 61 Try.ord58 fs0 fs0_ok) Try.kp58 Try.func58 rfl (by kernel_rfl) (by simp [Try.E]) (Callable.of Try.func58 (by kernel_rfl) (by kernel_rfl)) (by kernel_rfl) ?_
  have hr := hp.lt
  simp -implicitDefEqProofs (maxSteps := 2000000) (disch := omega) only [go_sem, reduceCtorEq, Nat.reduceAdd, Nat.reduceSub, Nat.reduceMul, Nat.reduceLT, Nat.reduceLeDiff, Nat.reduceEqDiff, Nat.reduceBEq, Int.reduceToNat, Int.reduceLT, Int.reduceLE, Int.reduceEq, Int.reduceNeg, Int.reduceAdd, Int.reduceSub, Int.reduceMul, ↓reduceIte, Int.reduceBEq, Int.reduceBNe]
  refine earOf_v r m n w hm hn hw _ hp.app _ fun s1 e T junk1 q hE hq hv => ?_
  simp only [pw_app hr, List.append_assoc, List.cons_append, List.nil_append, List.length_append, List.length_cons, List.length_nil, Nat.zero_add] at hq hv ⊢
  have hck := hE.ck
  have hlo := hE.lo
  have hhi := hE.hi
  have hlen := hE.len
  have hrs := hE.rn
  have hbd := hE.bd
  have hsl := hE.sl
  obtain ⟨sl, ts, rs⟩ := e
  simp only at hlen hrs hsl hv
  have hvq : ∀ s2 X, hget (pw σ r s2 ++ .cells [.int .i64 0, .list .full 0 [], .list .full 0 []] :: (junk1 ++ X)) q = some (.vec 6 (rs.map Rd.av)) := fun s2 X => by
    have h2 := hv s2
    have e : pw σ r s2 ++ .cells [.int .i64 0, .list .full 0 [], .list .full 0 []] :: (junk1 ++ X) = (pw σ r s2 ++ .cells [.int .i64 0, .list .full 0 [], .list .full 0 []] :: junk1) ++ X := by simp
    rw [e, hget_app (hget_lt h2)]; exact h2
  have hqr : r ≠ q := by omega
  clear hE hv
  have hset0 : ∀ s2 X o, hset (pw σ r s2 ++ X) σ.length o = pw σ r s2 ++ X.set 0 o := fun s2 X o => hset_pw0
  have hfin : ∀ s2 X sl' ts' rs', hget (pw σ r s2 ++ X) q = some (.vec 6 (List.map Rd.av rs')) → ck ⟨sl', ts', rs'⟩ = 0 → 1 ≤ ts'.length → (ts'.length : Int) ≤ m → (rs'.length : Int) ≤ n → Q (.agg [.int .i64 sl', .list .no 2 (ts'.map Rng.av), .vec q rs'.length]) (pw σ r s2 ++ X) := fun s2 X sl' ts' rs' g1 g2 g3 g4 g5 => h s2 ⟨sl', ts', rs'⟩ X q g2 g3 g4 g5 (by omega) g1
  clear h
  have hz : ∀ s2 X o, hget (pw σ r s2 ++ .cells [.int .i64 sl, .list .no 2 (ts.map Rng.av), o] :: (junk1 ++ X)) q = some (.vec 6 (rs.map Rd.av)) := fun s2 X o => by
    have h2 := hvq s2 X
    have hne : σ.length ≠ q := by omega
    have e : pw σ r s2 ++ .cells [.int .i64 sl, .list .no 2 (ts.map Rng.av), o] :: (junk1 ++ X) = hset (pw σ r s2 ++ .cells [.int .i64 0, .list .full 0 [], .list .full 0 []] :: (junk1 ++ X)) σ.length (.cells [.int .i64 sl, .list .no 2 (ts.map Rng.av), o]) := by rw [hset_pw0]; rfl
    rw [e, hget_ne hne]; exact h2
  by_cases hn0 : 0 < rs.length
  · simp -implicitDefEqProofs (maxSteps := 2000000) (disch := omega) only [go_sem, reduceCtorEq, Nat.reduceAdd, Nat.reduceSub, Nat.reduceMul, Nat.reduceLT, Nat.reduceLeDiff, Nat.reduceEqDiff, Nat.reduceBEq, Int.reduceToNat, Int.reduceLT, Int.reduceLE, Int.reduceEq, Int.reduceNeg, Int.reduceAdd, Int.reduceSub, Int.reduceMul, ↓reduceIte, Int.reduceBEq, Int.reduceBNe, length_pw, hget_pw0, hget_pw, hset_pw0, hset_pw]
    refine odds_c r 1 2 (by omega) (by omega) _ (hp.pw _).app _ fun s2 b => ?_
    rw [pw_pwa hr]
    cases b
    · simp -implicitDefEqProofs (maxSteps := 2000000) (disch := omega) only [go_sem, reduceCtorEq, Nat.reduceAdd, Nat.reduceSub, Nat.reduceMul, Nat.reduceLT, Nat.reduceLeDiff, Nat.reduceEqDiff, Nat.reduceBEq, Int.reduceToNat, Int.reduceLT, Int.reduceLE, Int.reduceEq, Int.reduceNeg, Int.reduceAdd, Int.reduceSub, Int.reduceMul, ↓reduceIte, Int.reduceBEq, Int.reduceBNe, length_pw, hget_pw0, hget_pw, hset_pw0, hset_pw]
      exact hfin _ _ sl ts rs (hz _ _ _) hck (by omega) (by omega) (by omega)
    · simp -implicitDefEqProofs (maxSteps := 2000000) (disch := omega) only [go_sem, reduceCtorEq, Nat.reduceAdd, Nat.reduceSub, Nat.reduceMul, Nat.reduceLT, Nat.reduceLeDiff, Nat.reduceEqDiff, Nat.reduceBEq, Int.reduceToNat, Int.reduceLT, Int.reduceLE, Int.reduceEq, Int.reduceNeg, Int.reduceAdd, Int.reduceSub, Int.reduceMul, ↓reduceIte, Int.reduceBEq, Int.reduceBNe, length_pw, hget_pw0, hget_pw, hset_pw0, hset_pw]
      refine intsV_c T .no (by omega) _ _ ?_
      simp -implicitDefEqProofs (maxSteps := 2000000) (disch := omega) only [go_sem, reduceCtorEq, Nat.reduceAdd, Nat.reduceSub, Nat.reduceMul, Nat.reduceLT, Nat.reduceLeDiff, Nat.reduceEqDiff, Nat.reduceBEq, Int.reduceToNat, Int.reduceLT, Int.reduceLE, Int.reduceEq, Int.reduceNeg, Int.reduceAdd, Int.reduceSub, Int.reduceMul, ↓reduceIte, Int.reduceBEq, Int.reduceBNe, length_pw, hget_pw0, hget_pw, hset_pw0, hset_pw]
      refine ARun.loopA (α := Nat × List Int) (fun a => T.length - a.1) (fun a τ => (∃ s, τ = pw σ r s ++ (.cells [.int .i64 0, .list .full 0 [], .list .full 0 []] :: (junk1 ++ [.cells [.int .i64 sl, .list .no 2 (ts.map Rng.av), .vec q rs.length], .vec 1 (a.2.map (.int .i64))]))) ∧ a.1 ≤ T.length ∧ a.2.length = T.length ∧ (∀ i (h : i < a.2.length), 50 ≤ a.2[i] ∧ a.2[i] ≤ 50036 ∧ (a.1 ≤ i → a.2[i] ≤ 50030)))
        (fun a => [(13, .int .i64 a.1)]) (0, T) (by simp [upd, ins, subF, lookA]) ⟨⟨s2, rfl⟩, by simp, rfl, fun i h => by have := hbd _ (List.getElem_mem h); exact ⟨this.1, by simp only at this ⊢; omega, fun _ => this.2⟩⟩ ?_
      rintro ⟨k, U⟩ τ ⟨⟨s3, rfl⟩, hk, hU, hUb⟩ ih
      simp only at hk hU hUb ih ⊢
      by_cases hlt : k < T.length
      · have hUk : (U.map (AV.int .i64))[k]? = some (.int .i64 U[k]) := by simp [List.getElem?_eq_getElem (show k < U.length by omega)]
        have hb := hUb k (by omega)
        refine ev_sound (Try.envOK 61 Try.ord58 fs0 fs0_ok) (n := 1000) (by kernel_rfl) ?_
        simp -implicitDefEqProofs (maxSteps := 2000000) (disch := omega) only [go_sem, reduceCtorEq, Nat.reduceAdd, Nat.reduceSub, Nat.reduceMul, Nat.reduceLT, Nat.reduceLeDiff, Nat.reduceEqDiff, Nat.reduceBEq, Int.reduceToNat, Int.reduceLT, Int.reduceLE, Int.reduceEq, Int.reduceNeg, Int.reduceAdd, Int.reduceSub, Int.reduceMul, ↓reduceIte, Int.reduceBEq, Int.reduceBNe, length_pw, hget_pw0, hget_pw, hset_pw0, hset_pw, hUk]
        refine upto_c r 6 (by omega) _ (hp.pw _).app _ fun s4 u hu1 hu2 => ?_
        rw [pw_pwa hr]
        have hu : 0 ≤ u ∧ u ≤ 6 := by omega
        clear hu1 hu2
        simp -implicitDefEqProofs (maxSteps := 2000000) (disch := omega) only [go_sem, reduceCtorEq, Nat.reduceAdd, Nat.reduceSub, Nat.reduceMul, Nat.reduceLT, Nat.reduceLeDiff, Nat.reduceEqDiff, Nat.reduceBEq, Int.reduceToNat, Int.reduceLT, Int.reduceLE, Int.reduceEq, Int.reduceNeg, Int.reduceAdd, Int.reduceSub, Int.reduceMul, ↓reduceIte, Int.reduceBEq, Int.reduceBNe, length_pw, hget_pw0, hget_pw, hset_pw0, hset_pw, hUk]
        refine (ih (k + 1, U.set k (U[k] + u)) _ (by simp only; omega) ⟨⟨s4, rfl⟩, by simp only; omega, by simp only [List.length_set]; exact hU, fun i hi => ?_⟩).castS (by simp [List.map_set]) (by simp [upd, ins, subF, lookA])
        simp only [List.length_set] at hi ⊢
        rw [List.getElem_set]
        split
        · omega
        · have := hUb i hi; omega
      · have hke : k = T.length := by omega
        subst hke
        clear ih
        refine ARun.freeze 12 (r := σ.length + (junk1.length + 1 + 1)) (n := T.length) (sz := 1) (xs := U.map (.int .i64)) rfl (by simp [upd, ins, lookA]) (by rw [hget_pw]; simp) (by simpa using hU) ?_
        have hz2 : ∀ s, hget (pw σ r s ++ .cells [.int .i64 0, .list .full 0 [], .list .full 0 []] :: (junk1 ++ [.cells [.int .i64 sl, .list .no 2 (ts.map Rng.av), .vec q rs.length], .dead])) q = some (.vec 6 (rs.map Rd.av)) := fun s => hvq s _
        have hUs : ∀ x ∈ U, 1 ≤ x ∧ x ≤ 100000 := fun x hx => by
          obtain ⟨i, hi, rfl⟩ := List.mem_iff_getElem.1 hx
          have := hUb i hi; omega
        simp only [ins, upd, hset_pw, ↓reduceIte, Nat.reduceEqDiff]
        refine ev_sound (Try.envOK 61 Try.ord58 fs0 fs0_ok) (n := 1000) (by kernel_rfl) ?_
        simp -implicitDefEqProofs (maxSteps := 2000000) (disch := omega) only [go_sem, reduceCtorEq, Nat.reduceAdd, Nat.reduceSub, Nat.reduceMul, Nat.reduceLT, Nat.reduceLeDiff, Nat.reduceEqDiff, Nat.reduceBEq, Int.reduceToNat, Int.reduceLT, Int.reduceLE, Int.reduceEq, Int.reduceNeg, Int.reduceAdd, Int.reduceSub, Int.reduceMul, ↓reduceIte, Int.reduceBEq, Int.reduceBNe, length_pw, hget_pw0, hget_pw, hset_pw0, hset_pw, hU]
        refine upto_c r _ (by omega) _ (hp.pw _).app _ fun s4 kx hk1 hk2 => ?_
        rw [pw_pwa hr]
        have hkx : 0 ≤ kx ∧ kx < rs.length := by omega
        clear hk1 hk2
        simp -implicitDefEqProofs (maxSteps := 2000000) (disch := omega) only [go_sem, reduceCtorEq, Nat.reduceAdd, Nat.reduceSub, Nat.reduceMul, Nat.reduceLT, Nat.reduceLeDiff, Nat.reduceEqDiff, Nat.reduceBEq, Int.reduceToNat, Int.reduceLT, Int.reduceLE, Int.reduceEq, Int.reduceNeg, Int.reduceAdd, Int.reduceSub, Int.reduceMul, ↓reduceIte, Int.reduceBEq, Int.reduceBNe, length_pw, hget_pw0, hget_pw, hset_pw0, hset_pw, hU]
        refine readingOf_v r sl ts q rs.length U .no (by omega) (by omega) hUs _ (hp.pw _).app _ fun s5 x junk2 hx1 hx2 => ?_
        rw [pw_pwa hr]
        simp only [List.append_assoc, List.cons_append, List.nil_append]
        have htq := hvq s5 (.cells [.int .i64 sl, .list .no 2 (ts.map Rng.av), .vec q rs.length] :: .dead :: junk2)
        have ht8 : hget (pw σ r s5 ++ .cells [.int .i64 0, .list .full 0 [], .list .full 0 []] :: (junk1 ++ .cells [.int .i64 sl, .list .no 2 (ts.map Rng.av), .vec q rs.length] :: .dead :: junk2)) σ.length = some (.cells [.int .i64 0, .list .full 0 [], .list .full 0 []]) := by rw [hget_pw0]; rfl
        have ht9 : hget (pw σ r s5 ++ .cells [.int .i64 0, .list .full 0 [], .list .full 0 []] :: (junk1 ++ .cells [.int .i64 sl, .list .no 2 (ts.map Rng.av), .vec q rs.length] :: .dead :: junk2)) (σ.length + (junk1.length + 1)) = some (.cells [.int .i64 sl, .list .no 2 (ts.map Rng.av), .vec q rs.length]) := by rw [hget_pw]; simp
        have hL : ∃ X : AObj → AObj → List AObj, ∀ o c, hset (hset (pw σ r s5 ++ .cells [.int .i64 0, .list .full 0 [], .list .full 0 []] :: (junk1 ++ .cells [.int .i64 sl, .list .no 2 (ts.map Rng.av), .vec q rs.length] :: .dead :: junk2)) q o) σ.length c = pw σ r s5 ++ X o c := by
          obtain ⟨k, rfl⟩ : ∃ k, q = σ.length + k := ⟨q - σ.length, by omega⟩
          exact ⟨_, fun o c => by rw [hset_pw, hset_pw0]⟩
        obtain ⟨X, hX⟩ := hL
        have hpt : PotAt (pw σ r s5 ++ .cells [.int .i64 0, .list .full 0 [], .list .full 0 []] :: (junk1 ++ .cells [.int .i64 sl, .list .no 2 (ts.map Rng.av), .vec q rs.length] :: .dead :: junk2)) r := (hp.pw _).app
        generalize pw σ r s5 ++ .cells [.int .i64 0, .list .full 0 [], .list .full 0 []] :: (junk1 ++ .cells [.int .i64 sl, .list .no 2 (ts.map Rng.av), .vec q rs.length] :: .dead :: junk2) = τ at htq ht8 ht9 hX hpt ⊢
        have n8 : q ≠ σ.length := by omega
        have n9 : q ≠ σ.length + (junk1.length + 1) := fun e => by rw [e, ht9] at htq; cases htq
        generalize σ.length + (junk1.length + 1) = R9 at ht9 n9 ⊢
        have k9 : ∀ o, hget (hset τ q o) R9 = some (.cells [.int .i64 sl, .list .no 2 (ts.map Rng.av), .vec q rs.length]) := fun o => by rw [hget_ne n9]; exact ht9
        have k8 : ∀ o, hget (hset τ q o) σ.length = some (.cells [.int .i64 0, .list .full 0 [], .list .full 0 []]) := fun o => by rw [hget_ne n8]; exact ht8
        have k88 : ∀ o c, hget (hset (hset τ q o) σ.length c) σ.length = some c := fun o c => hget_set (k8 o) c
        have kqq : ∀ o c, hget (hset (hset τ q o) σ.length c) q = some o := fun o c => by rw [hget_ne (fun e => n8 e.symm)]; exact hget_set htq o
        have hrk : (rs.map Rd.av)[kx.toNat]? = some rs[kx.toNat].av := by simp [List.getElem?_eq_getElem (show kx.toNat < rs.length by omega)]
        rw [hU, ← hlen] at hx1
        obtain ⟨x1, x2, x3, x4, ⟨x5, x6⟩⟩ := x
        generalize rs[kx.toNat] = y at hrk
        obtain ⟨y1, y2, y3, y4, ⟨y5, y6⟩⟩ := y
        simp only [Rd.av] at hrk
        simp only [Rd.av]
        simp -implicitDefEqProofs (maxSteps := 2000000) (disch := omega) only [go_sem, reduceCtorEq, Nat.reduceAdd, Nat.reduceSub, Nat.reduceMul, Nat.reduceLT, Nat.reduceLeDiff, Nat.reduceEqDiff, Nat.reduceBEq, Int.reduceToNat, Int.reduceLT, Int.reduceLE, Int.reduceEq, Int.reduceNeg, Int.reduceAdd, Int.reduceSub, Int.reduceMul, ↓reduceIte, Int.reduceBEq, Int.reduceBNe, length_pw, hget_pw0, hget_pw, hset_pw0, hset_pw, htq, ht9, k9, k8, k88, hrk]
        have e : (rs.map Rd.av).set kx.toNat (.agg [.int .i64 x1, .int .i64 x2, .int .i64 x3, .int .i64 x4, .int .i64 x5, .int .i64 x6]) = (rs.set kx.toNat ⟨x1, x2, x3, x4, ⟨x5, x6⟩⟩).map Rd.av := by rw [List.map_set]; rfl
        rw [e]
        have hv9 := kqq (.vec 6 ((rs.set kx.toNat ⟨x1, x2, x3, x4, ⟨x5, x6⟩⟩).map Rd.av)) (.cells [.int .i64 sl, .list .no 2 (ts.map Rng.av), .vec q rs.length])
        rw [hX] at hv9 ⊢
        have hf := hfin _ _ sl ts (rs.set kx.toNat ⟨x1, x2, x3, x4, ⟨x5, x6⟩⟩) hv9 (ck_set hck hx1) (by omega) (by omega) (by rw [List.length_set]; omega)
        rw [List.length_set] at hf
        exact hf
  · simp -implicitDefEqProofs (maxSteps := 2000000) (disch := omega) only [go_sem, reduceCtorEq, Nat.reduceAdd, Nat.reduceSub, Nat.reduceMul, Nat.reduceLT, Nat.reduceLeDiff, Nat.reduceEqDiff, Nat.reduceBEq, Int.reduceToNat, Int.reduceLT, Int.reduceLE, Int.reduceEq, Int.reduceNeg, Int.reduceAdd, Int.reduceSub, Int.reduceMul, ↓reduceIte, Int.reduceBEq, Int.reduceBNe, length_pw, hget_pw0, hget_pw, hset_pw0, hset_pw]
    exact hfin _ _ sl ts rs (hz _ _ _) hck (by omega) (by omega) (by omega)
end Go.Proofs
set_option linter.unusedSimpArgs false
set_option linter.unusedVariables false
set_option maxRecDepth 100000
namespace Go.Proofs
open Go Go.Mu

theorem choices_p (n : Nat) (hn : n ≤ 6) : ∀ (m a : Nat), m ≤ 6 → a ≤ 7 → PureV Try.prog 60 [.int .i64 a, .int .i64 n, .int .i64 m] (tss (comb n m a)) := by
  intro m
  induction m with
  | zero =>
    intro a hm ha
    refine PureV.of_ev (E := Try.E 43 (fun _ => ([], [])) fs0) (Try.envOK 43 (fun _ => ([], [])) fs0 fs0_ok) (tss_plain _) Try.kp60 Try.func60 rfl (by kernel_rfl) (by simp [Try.E]) (Callable.of Try.func60 (by kernel_rfl) (by kernel_rfl)) (by kernel_rfl) ?_
    intro σ
    simp -implicitDefEqProofs (maxSteps := 2000000) (disch := omega) only [go_sem, reduceCtorEq, Nat.reduceAdd, Nat.reduceSub, Nat.reduceMul, Nat.reduceLT, Nat.reduceLeDiff, Nat.reduceEqDiff, Nat.reduceBEq, Int.reduceToNat, Int.reduceLT, Int.reduceLE, Int.reduceEq, Int.reduceNeg, Int.reduceAdd, Int.reduceSub, Int.reduceMul, ↓reduceIte, Int.reduceBEq, Int.reduceBNe, tss, comb, isv, List.map_nil]
  | succ m ih =>
    intro a hm ha
    refine PureV.of_ev (E := Try.E 43 (fun _ => ([], [])) fs0) (Try.envOK 43 (fun _ => ([], [])) fs0 fs0_ok) (tss_plain _) Try.kp60 Try.func60 rfl (by kernel_rfl) (by simp [Try.E]) (Callable.of Try.func60 (by kernel_rfl) (by kernel_rfl)) (by kernel_rfl) ?_
    intro σ
    rw [comb_succ]
    have hbd : ∀ i, ((List.range i).flatMap (combK n m a)).length ≤ i * 117649 := fun i => flatMap_len _ fun k _ => by unfold combK; rw [List.length_map]; exact comb_len6 hn (by omega)
    simp -implicitDefEqProofs (maxSteps := 2000000) (disch := omega) only [go_sem, reduceCtorEq, Nat.reduceAdd, Nat.reduceSub, Nat.reduceMul, Nat.reduceLT, Nat.reduceLeDiff, Nat.reduceEqDiff, Nat.reduceBEq, Int.reduceToNat, Int.reduceLT, Int.reduceLE, Int.reduceEq, Int.reduceNeg, Int.reduceAdd, Int.reduceSub, Int.reduceMul, ↓reduceIte, Int.reduceBEq, Int.reduceBNe]
    refine ARun.ghost 7 1 (sz0 := 0) rfl (by simp [lookA]) ?_
    simp only [ins, ↓reduceIte, List.append_assoc, List.cons_append, List.nil_append, List.length_append, List.length_cons, List.length_nil, Nat.zero_add, Nat.reduceEqDiff, Nat.reduceAdd]
    refine ARun.forS (Try.envOK 43 (fun _ => ([], [])) fs0 fs0_ok) (n - a) (fun _ => True) (fun i => [(7, .list (.own σ.length) 1 (((List.range i).flatMap (combK n m a)).map isv)), (8, .int .i64 ((a : Int) + i))]) (fun i j => σ ++ (.tail ((List.range i).flatMap (combK n m a)).length 1 :: j)) [] (by kernel_rfl) (by simp) (by simp [upd, ins, subF, lookA]) trivial ?_ ?_
    · intro i j hi _ ih2
      have hb := hbd i
      have hC : (comb n m (a + i + 1)).length ≤ 117649 := comb_len6 hn (by omega)
      have ih' := ih (a + i + 1) (by omega) (by omega)
      rw [flatMap_succ] at ih2
      have hK : combK n m a i = (comb n m (a + i + 1)).map fun l => ((a + i : Nat) : Int) :: l := rfl
      rw [hK, show ((a + i : Nat) : Int) = (a : Int) + i by omega] at ih2
      rw [show ((a + i + 1 : Nat) : Int) = (a : Int) + i + 1 by omega] at ih'
      have hel : ∀ l ∈ comb n m (a + i + 1), l.length ≤ 6 := fun l hl => by rw [(comb_mem hl).1]; omega
      clear hK hbd ih
      generalize (List.range i).flatMap (combK n m a) = B at hb ih2 ⊢
      generalize comb n m (a + i + 1) = C at hC ih2 ih' hel
      have hb2 : B.length ≤ 1000000 := by omega
      clear hb
      simp -implicitDefEqProofs (maxSteps := 2000000) (disch := omega) only [go_sem, reduceCtorEq, Nat.reduceAdd, Nat.reduceSub, Nat.reduceMul, Nat.reduceLT, Nat.reduceLeDiff, Nat.reduceEqDiff, Nat.reduceBEq, Int.reduceToNat, Int.reduceLT, Int.reduceLE, Int.reduceEq, Int.reduceNeg, Int.reduceAdd, Int.reduceSub, Int.reduceMul, ↓reduceIte, Int.reduceBEq, Int.reduceBNe, Int.add_sub_cancel]
      refine ih' _ _ ?_
      simp only [tss]
      simp -implicitDefEqProofs (maxSteps := 2000000) (disch := omega) only [go_sem, reduceCtorEq, Nat.reduceAdd, Nat.reduceSub, Nat.reduceMul, Nat.reduceLT, Nat.reduceLeDiff, Nat.reduceEqDiff, Nat.reduceBEq, Int.reduceToNat, Int.reduceLT, Int.reduceLE, Int.reduceEq, Int.reduceNeg, Int.reduceAdd, Int.reduceSub, Int.reduceMul, ↓reduceIte, Int.reduceBEq, Int.reduceBNe]
      refine ARun.forS (Try.envOK 43 (fun _ => ([], [])) fs0 fs0_ok) C.length (fun _ => True) (fun k => [(7, .list (.own σ.length) 1 ((B ++ (C.take k).map fun l => ((a : Int) + i) :: l).map isv)), (10, .int .i64 k)]) (fun k j2 => σ ++ (.tail (B ++ (C.take k).map fun l => ((a : Int) + i) :: l).length 1 :: (j ++ j2))) [] (by kernel_rfl) (by simp) (by simp [upd, ins, subF, lookA]) trivial ?_ ?_
      · intro k j2 hk _ ih3
        have hCk := idx_iss hk
        have hl := hel _ (List.getElem_mem hk)
        have hDl : (B ++ (C.take k).map fun l => ((a : Int) + i) :: l).length ≤ 2000000 := by rw [List.length_append, List.length_map, List.length_take]; omega
        have hst : (B ++ (C.take (k + 1)).map fun l => ((a : Int) + i) :: l) = (B ++ (C.take k).map fun l => ((a : Int) + i) :: l) ++ [((a : Int) + i) :: C[k]] := by
          rw [List.take_succ_eq_append_getElem hk, List.map_append, ← List.append_assoc]; rfl
        rw [hst] at ih3
        clear hst
        generalize (B ++ (C.take k).map fun l => ((a : Int) + i) :: l) = D at hDl ih3 ⊢
        generalize C[k] = T at hCk hl ih3
        simp only [isv] at hCk
        clear ih' ih2 hel
        simp -implicitDefEqProofs (maxSteps := 2000000) (disch := omega) only [go_sem, reduceCtorEq, Nat.reduceAdd, Nat.reduceSub, Nat.reduceMul, Nat.reduceLT, Nat.reduceLeDiff, Nat.reduceEqDiff, Nat.reduceBEq, Int.reduceToNat, Int.reduceLT, Int.reduceLE, Int.reduceEq, Int.reduceNeg, Int.reduceAdd, Int.reduceSub, Int.reduceMul, ↓reduceIte, Int.reduceBEq, Int.reduceBNe, hCk]
        exact (ih3 trivial (j2 ++ [.tail (1 + T.length) 1])).castS (by simp) (by simp [upd, ins, subF, lookA, isv])
      · intro j2 _
        rw [List.take_length]
        generalize (B ++ C.map fun l => ((a : Int) + i) :: l) = D at ih2 ⊢
        simp -implicitDefEqProofs (maxSteps := 2000000) (disch := omega) only [go_sem, reduceCtorEq, Nat.reduceAdd, Nat.reduceSub, Nat.reduceMul, Nat.reduceLT, Nat.reduceLeDiff, Nat.reduceEqDiff, Nat.reduceBEq, Int.reduceToNat, Int.reduceLT, Int.reduceLE, Int.reduceEq, Int.reduceNeg, Int.reduceAdd, Int.reduceSub, Int.reduceMul, ↓reduceIte, Int.reduceBEq, Int.reduceBNe]
        exact (ih2 trivial (j ++ j2)).castS rfl (by simp [upd, ins, subF, lookA, Int.add_assoc])
    · intro j _
      generalize (List.range (n - a)).flatMap (combK n m a) = B
      have e : (a : Int) + ((n - a : Nat) : Int) = if a ≤ n then (n : Int) else a := by split <;> omega
      simp -implicitDefEqProofs (maxSteps := 2000000) (disch := omega) only [go_sem, reduceCtorEq, Nat.reduceAdd, Nat.reduceSub, Nat.reduceMul, Nat.reduceLT, Nat.reduceLeDiff, Nat.reduceEqDiff, Nat.reduceBEq, Int.reduceToNat, Int.reduceLT, Int.reduceLE, Int.reduceEq, Int.reduceNeg, Int.reduceAdd, Int.reduceSub, Int.reduceMul, ↓reduceIte, Int.reduceBEq, Int.reduceBNe, tss]
def choices_s := spec3 tI tI tI fun a n m => if (0 ≤ a ∧ a ≤ 7) ∧ (0 ≤ n ∧ n ≤ 6) ∧ (0 ≤ m ∧ m ≤ 6) then some (tss (comb n.toNat m.toNat a.toNat)) else none
theorem choices_ok : ∀ xs v, choices_s xs = some v → PureV Try.prog 60 xs v :=
  spec3_ok fun a n m v h => by
    obtain ⟨⟨h1, h2, h3⟩, h⟩ := someIf h
    rw [← h]
    have := choices_p n.toNat (by omega) m.toNat a.toNat (by omega) (by omega)
    rw [show ((a.toNat : Nat) : Int) = a by omega, show ((n.toNat : Nat) : Int) = n by omega, show ((m.toNat : Nat) : Int) = m by omega] at this
    exact this
theorem place_p (l : List Int) (x : Int) (hl : l.length ≤ 4294967296) : PureV Try.prog 62 [.list .no 1 (l.map (.int .i64)), .int .i64 x] (.int .i64 (placeL l x)) := by
  refine PureV.of_ev (E := Try.E 19 (fun _ => ([], [])) fs0) (Try.envOK 19 (fun _ => ([], [])) fs0 fs0_ok) (.int) Try.kp62 Try.func62 rfl (by kernel_rfl) (by simp [Try.E]) (Callable.of Try.func62 (by kernel_rfl) (by kernel_rfl)) (by kernel_rfl) ?_
  intro σ
  simp -implicitDefEqProofs (maxSteps := 2000000) (disch := omega) only [go_sem, reduceCtorEq, Nat.reduceAdd, Nat.reduceSub, Nat.reduceMul, Nat.reduceLT, Nat.reduceLeDiff, Nat.reduceEqDiff, Nat.reduceBEq, Int.reduceToNat, Int.reduceLT, Int.reduceLE, Int.reduceEq, Int.reduceNeg, Int.reduceAdd, Int.reduceSub, Int.reduceMul, ↓reduceIte, Int.reduceBEq, Int.reduceBNe]
  refine ARun.forS (Try.envOK 19 (fun _ => ([], [])) fs0 fs0_ok) l.length (fun i => x ∉ l.take i) (fun i => [(5, .int .i64 i)]) (fun _ _ => σ) [] (by kernel_rfl) rfl (by simp [upd, ins, subF, lookA]) (by simp) ?_ ?_
  · intro i j hi hp ih
    have hli : idx (l.map (AV.int .i64)) (i : Int) = some (.int .i64 l[i]) := by rw [idx_nat hi]
    have hat := place_at (x := x) hi hp
    have hns := notin_succ (x := x) hi hp
    generalize l[i] = y at hli hat hns
    clear hp
    by_cases hy : x = y
    · rw [hat hy.symm]
      simp -implicitDefEqProofs (maxSteps := 2000000) (disch := omega) only [go_sem, reduceCtorEq, Nat.reduceAdd, Nat.reduceSub, Nat.reduceMul, Nat.reduceLT, Nat.reduceLeDiff, Nat.reduceEqDiff, Nat.reduceBEq, Int.reduceToNat, Int.reduceLT, Int.reduceLE, Int.reduceEq, Int.reduceNeg, Int.reduceAdd, Int.reduceSub, Int.reduceMul, ↓reduceIte, Int.reduceBEq, Int.reduceBNe, hli]
    · simp -implicitDefEqProofs (maxSteps := 2000000) (disch := omega) only [go_sem, reduceCtorEq, Nat.reduceAdd, Nat.reduceSub, Nat.reduceMul, Nat.reduceLT, Nat.reduceLeDiff, Nat.reduceEqDiff, Nat.reduceBEq, Int.reduceToNat, Int.reduceLT, Int.reduceLE, Int.reduceEq, Int.reduceNeg, Int.reduceAdd, Int.reduceSub, Int.reduceMul, ↓reduceIte, Int.reduceBEq, Int.reduceBNe, hli]
      exact (ih (hns fun e => hy e.symm) []).castS rfl (by simp [upd, ins, subF, lookA])
  · intro j hp
    rw [List.take_length] at hp
    have : placeL l x = -1 := by unfold placeL; rw [if_neg hp]
    rw [this]
    simp -implicitDefEqProofs (maxSteps := 2000000) (disch := omega) only [go_sem, reduceCtorEq, Nat.reduceAdd, Nat.reduceSub, Nat.reduceMul, Nat.reduceLT, Nat.reduceLeDiff, Nat.reduceEqDiff, Nat.reduceBEq, Int.reduceToNat, Int.reduceLT, Int.reduceLE, Int.reduceEq, Int.reduceNeg, Int.reduceAdd, Int.reduceSub, Int.reduceMul, ↓reduceIte, Int.reduceBEq, Int.reduceBNe]
def place_s := spec2 tIs tI fun l x => if l.length ≤ 4294967296 then some (.int .i64 (placeL l x)) else none
theorem place_ok : ∀ xs v, place_s xs = some v → PureV Try.prog 62 xs v :=
  spec2_ok fun l x v h => by have h := someIf h; rw [← h.2]; exact place_p l x h.1
theorem lverd_p (so n : Int) : PureV Try.prog 63 [.int .i64 so, .int .i64 n] (.int .i64 (if so = n then 1 else if so = 0 then 2 else 3)) := by
  refine PureV.of_ev (E := Try.E 11 (fun _ => ([], [])) fs0) (Try.envOK 11 (fun _ => ([], [])) fs0 fs0_ok) (.int) Try.kp63 Try.func63 rfl (by kernel_rfl) (by simp [Try.E]) (Callable.of Try.func63 (by kernel_rfl) (by kernel_rfl)) (by kernel_rfl) ?_
  intro σ
  simp -implicitDefEqProofs (maxSteps := 2000000) (disch := omega) only [go_sem, reduceCtorEq, Nat.reduceAdd, Nat.reduceSub, Nat.reduceMul, Nat.reduceLT, Nat.reduceLeDiff, Nat.reduceEqDiff, Nat.reduceBEq, Int.reduceToNat, Int.reduceLT, Int.reduceLE, Int.reduceEq, Int.reduceNeg, Int.reduceAdd, Int.reduceSub, Int.reduceMul, ↓reduceIte, Int.reduceBEq, Int.reduceBNe]
  grind
def lverd_s := spec2 tI tI fun so n => some (.int .i64 (if so = n then 1 else if so = 0 then 2 else 3))
theorem lverd_ok : ∀ xs v, lverd_s xs = some v → PureV Try.prog 63 xs v :=
  spec2_ok fun so n v h => by simp only [Option.some.injEq] at h; rw [← h]; exact lverd_p so n

def fs41 (f : FuncId) (xs : List AV) : Option AV := if f = 28 then sameInts_s xs else if f = 54 then false_s xs else if f = 56 then doubt_s xs else if f = 61 then rwithout_s xs else if f = 60 then choices_s xs else if f = 62 then place_s xs else if f = 63 then lverd_s xs else fs22 f xs
theorem fs41_ok : ∀ f xs v, fs41 f xs = some v → PureV Try.prog f xs v := by
  intro f xs v h
  unfold fs41 at h
  split at h
  · rename_i e; subst e; exact sameInts_ok _ _ h
  split at h
  · rename_i e; subst e; exact false_ok _ _ h
  split at h
  · rename_i e; subst e; exact doubt_ok _ _ h
  split at h
  · rename_i e; subst e; exact rwithout_ok _ _ h
  split at h
  · rename_i e; subst e; exact choices_ok _ _ h
  split at h
  · rename_i e; subst e; exact place_ok _ _ h
  split at h
  · rename_i e; subst e; exact lverd_ok _ _ h
  exact fs22_ok _ _ _ h
attribute [go_sem] fs41 sameInts_s false_s doubt_s rwithout_s choices_s place_s lverd_s
end Go.Proofs
