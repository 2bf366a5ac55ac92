/- Texts of a proof: lemmas. -/
import Derived.Test.YtbkjffpembflcaaA27
import Derived.Test.YtbkjffpembflcaaMV
import Derived.Test.YtbkjffpembflcaaBF
import Derived.Test.YtbkjffpembflcaaAK
set_option linter.unusedSimpArgs false
set_option linter.unusedVariables false
set_option maxRecDepth 100000
namespace Go.Proofs
open Go Go.Mu

set_option maxHeartbeats 2000000 in
theorem readingOf_v (r : Nat) (s0 : Int) (ts : List Rng) (qv nv : Nat) (T : List Int) (tk : Tok) (hsl : 0 ≤ s0 ∧ s0 ≤ 3) (hT : 1 ≤ T.length ∧ T.length ≤ 3) (hs : ∀ x ∈ T, 1 ≤ x ∧ x ≤ 100000) (σ : List AObj) (hp : PotAt σ r) (Q : AV → List AObj → Prop) (h : ∀ s' x junk, ckR x T.length = 0 → isR x s0 T = true → Q x.av (pw σ r s' ++ junk)) :
    ACalls Try.prog 48 [.ptr r 0, .agg [.int .i64 s0, .list .no 2 (ts.map Rng.av), .vec qv nv], .list tk 1 (T.map (.int .i64))] σ Q := by
  refine ACalls.of_ev (E := Try.E 125 Try.ord48 fs0) (Try.envOK 125 Try.ord48 fs0 fs0_ok) Try.kp48 Try.func48 rfl (by kernel_rfl) (by simp [Try.E]) (Callable.of Try.func48 (by kernel_rfl) (by kernel_rfl)) (by kernel_rfl) ?_
  have hr := hp.lt
  simp -implicitDefEqProofs (maxSteps := 2000000) (disch := omega) only [go_sem, reduceCtorEq, Nat.reduceAdd, Nat.reduceSub, Nat.reduceMul, Nat.reduceLT, Nat.reduceLeDiff, Nat.reduceEqDiff, Nat.reduceBEq, Int.reduceToNat, Int.reduceLT, Int.reduceLE, Int.reduceEq, Int.reduceNeg, Int.reduceAdd, Int.reduceSub, Int.reduceMul, ↓reduceIte, Int.reduceBEq, Int.reduceBNe, length_pw, hget_pw0, hget_pw, hset_pw0, hset_pw]
  refine of_c r [1, 1, 2, 2, 3] .full (by simp) _ hp.app _ fun s1 k hk => ?_
  rw [pw_app hr]
  simp -implicitDefEqProofs (maxSteps := 2000000) (disch := omega) only [go_sem, reduceCtorEq, Nat.reduceAdd, Nat.reduceSub, Nat.reduceMul, Nat.reduceLT, Nat.reduceLeDiff, Nat.reduceEqDiff, Nat.reduceBEq, Int.reduceToNat, Int.reduceLT, Int.reduceLE, Int.reduceEq, Int.reduceNeg, Int.reduceAdd, Int.reduceSub, Int.reduceMul, ↓reduceIte, Int.reduceBEq, Int.reduceBNe, length_pw, hget_pw0, hget_pw, hset_pw0, hset_pw]
  refine upto_c r _ (by omega) _ (hp.pw _).app _ fun s2 a ha1 ha2 => ?_
  rw [pw_pwa hr]
  simp -implicitDefEqProofs (maxSteps := 2000000) (disch := omega) only [go_sem, reduceCtorEq, Nat.reduceAdd, Nat.reduceSub, Nat.reduceMul, Nat.reduceLT, Nat.reduceLeDiff, Nat.reduceEqDiff, Nat.reduceBEq, Int.reduceToNat, Int.reduceLT, Int.reduceLE, Int.reduceEq, Int.reduceNeg, Int.reduceAdd, Int.reduceSub, Int.reduceMul, ↓reduceIte, Int.reduceBEq, Int.reduceBNe, length_pw, hget_pw0, hget_pw, hset_pw0, hset_pw]
  refine upto_c r _ (by omega) _ (hp.pw _).app _ fun s3 b hb1 hb2 => ?_
  rw [pw_pwa hr]
  simp -implicitDefEqProofs (maxSteps := 2000000) (disch := omega) only [go_sem, reduceCtorEq, Nat.reduceAdd, Nat.reduceSub, Nat.reduceMul, Nat.reduceLT, Nat.reduceLeDiff, Nat.reduceEqDiff, Nat.reduceBEq, Int.reduceToNat, Int.reduceLT, Int.reduceLE, Int.reduceEq, Int.reduceNeg, Int.reduceAdd, Int.reduceSub, Int.reduceMul, ↓reduceIte, Int.reduceBEq, Int.reduceBNe, length_pw, hget_pw0, hget_pw, hset_pw0, hset_pw]
  refine within_c r 1 20 (by omega) (by omega) _ (hp.pw _).app _ fun s4 sec hc1 hc2 => ?_
  rw [pw_pwa hr]
  have ha : 0 ≤ a ∧ a < T.length := by omega
  have hb : 0 ≤ b ∧ b < T.length := by omega
  have hk' : k = 1 ∨ k = 2 ∨ k = 3 := by simpa using hk
  have hsec : 1 ≤ sec ∧ sec ≤ 20 := by omega
  have hTa : 1 ≤ tg T a ∧ tg T a ≤ 100000 := by
    have hx : a.toNat < T.length := by omega
    have : tg T a = T[a.toNat] := by simp [tg, List.getD, List.getElem?_eq_getElem hx]
    rw [this]; exact hs _ (List.getElem_mem hx)
  have hTb : 1 ≤ tg T b ∧ tg T b ≤ 100000 := by
    have hx : b.toNat < T.length := by omega
    have : tg T b = T[b.toNat] := by simp [tg, List.getD, List.getElem?_eq_getElem hx]
    rw [this]; exact hs _ (List.getElem_mem hx)
  clear hk ha1 ha2 hb1 hb2 hc1 hc2
  have hn := mul_le (a := tg T a) (s := sec) (by omega) (by omega)
  obtain ⟨q, hq⟩ : ∃ q, (tg T a * sec).tdiv 100 = q := ⟨_, rfl⟩
  have hq2 : q = tg T a * sec / 100 := by rw [← hq]; exact Int.tdiv_eq_ediv_of_nonneg hn.1
  have hm2 : (tg T a * sec).tmod 100 = tg T a * sec % 100 := Int.tmod_eq_emod_of_nonneg hn.1
  have hq3 : tg T a * sec / 100 ≤ 20000 := by
    have := Int.mul_le_mul hTa.2 hsec.2 (by omega) (by omega)
    omega
  have hfin : ∀ s' lo hi junk c, (c = q ∨ c = q + 1 ∧ 0 < tg T a * sec % 100) → 0 ≤ lo → lo ≤ c → c ≤ hi → hi ≤ 25000 → Q (Rd.mk 1 a 0 sec ⟨lo, hi⟩).av (pw σ r s' ++ junk) := fun s' lo hi junk c hc l1 l2 l3 l4 => by
    refine h s' _ junk ?_ ?_
    · simp only [ckR]; grind
    · simp only [isR, if_true, decide_eq_true_eq]; omega
  by_cases hab : a = b
  · subst hab
    rcases hk' with rfl | rfl | rfl
    · skip
      simp -implicitDefEqProofs (maxSteps := 2000000) (disch := omega) only [go_sem, reduceCtorEq, Nat.reduceAdd, Nat.reduceSub, Nat.reduceMul, Nat.reduceLT, Nat.reduceLeDiff, Nat.reduceEqDiff, Nat.reduceBEq, Int.reduceToNat, Int.reduceLT, Int.reduceLE, Int.reduceEq, Int.reduceNeg, Int.reduceAdd, Int.reduceSub, Int.reduceMul, ↓reduceIte, Int.reduceBEq, Int.reduceBNe, length_pw, hget_pw0, hget_pw, hset_pw0, hset_pw, hq, hm2, idx_tg, Rng.av]
      refine ⟨fun hm0 => ?_, fun hm0 => ?_⟩
      · refine odds_c r 1 2 (by omega) (by omega) _ (hp.pw _).app _ fun s5 b5 => ?_
        rw [pw_pwa hr]
        cases b5
        · simp -implicitDefEqProofs (maxSteps := 2000000) (disch := omega) only [go_sem, reduceCtorEq, Nat.reduceAdd, Nat.reduceSub, Nat.reduceMul, Nat.reduceLT, Nat.reduceLeDiff, Nat.reduceEqDiff, Nat.reduceBEq, Int.reduceToNat, Int.reduceLT, Int.reduceLE, Int.reduceEq, Int.reduceNeg, Int.reduceAdd, Int.reduceSub, Int.reduceMul, ↓reduceIte, Int.reduceBEq, Int.reduceBNe, length_pw, hget_pw0, hget_pw, hset_pw0, hset_pw, hq, hm2, idx_tg, Rng.av]
          refine near_c r q 0 25000 1 (by omega) (by omega) _ (hp.pw _).app _ fun s6 lo hi l1 l2 l3 l4 l5 l6 junk => ?_
          rw [pw_pwa hr, List.append_assoc]
          simp -implicitDefEqProofs (maxSteps := 2000000) (disch := omega) only [go_sem, reduceCtorEq, Nat.reduceAdd, Nat.reduceSub, Nat.reduceMul, Nat.reduceLT, Nat.reduceLeDiff, Nat.reduceEqDiff, Nat.reduceBEq, Int.reduceToNat, Int.reduceLT, Int.reduceLE, Int.reduceEq, Int.reduceNeg, Int.reduceAdd, Int.reduceSub, Int.reduceMul, ↓reduceIte, Int.reduceBEq, Int.reduceBNe, length_pw, hget_pw0, hget_pw, hset_pw0, hset_pw, hq, hm2, idx_tg, Rng.av]
          exact hfin s6 lo hi _ q (.inl rfl) l1 l2 l3 l4
        · simp -implicitDefEqProofs (maxSteps := 2000000) (disch := omega) only [go_sem, reduceCtorEq, Nat.reduceAdd, Nat.reduceSub, Nat.reduceMul, Nat.reduceLT, Nat.reduceLeDiff, Nat.reduceEqDiff, Nat.reduceBEq, Int.reduceToNat, Int.reduceLT, Int.reduceLE, Int.reduceEq, Int.reduceNeg, Int.reduceAdd, Int.reduceSub, Int.reduceMul, ↓reduceIte, Int.reduceBEq, Int.reduceBNe, length_pw, hget_pw0, hget_pw, hset_pw0, hset_pw, hq, hm2, idx_tg, Rng.av]
          refine near_c r (q + 1) 0 25000 1 (by omega) (by omega) _ (hp.pw _).app _ fun s6 lo hi l1 l2 l3 l4 l5 l6 junk => ?_
          rw [pw_pwa hr, List.append_assoc]
          simp -implicitDefEqProofs (maxSteps := 2000000) (disch := omega) only [go_sem, reduceCtorEq, Nat.reduceAdd, Nat.reduceSub, Nat.reduceMul, Nat.reduceLT, Nat.reduceLeDiff, Nat.reduceEqDiff, Nat.reduceBEq, Int.reduceToNat, Int.reduceLT, Int.reduceLE, Int.reduceEq, Int.reduceNeg, Int.reduceAdd, Int.reduceSub, Int.reduceMul, ↓reduceIte, Int.reduceBEq, Int.reduceBNe, length_pw, hget_pw0, hget_pw, hset_pw0, hset_pw, hq, hm2, idx_tg, Rng.av]
          exact hfin s6 lo hi _ (q + 1) (.inr ⟨rfl, hm0⟩) l1 l2 l3 l4
      · skip
        refine near_c r q 0 25000 1 (by omega) (by omega) _ (hp.pw _).app _ fun s6 lo hi l1 l2 l3 l4 l5 l6 junk => ?_
        rw [pw_pwa hr, List.append_assoc]
        simp -implicitDefEqProofs (maxSteps := 2000000) (disch := omega) only [go_sem, reduceCtorEq, Nat.reduceAdd, Nat.reduceSub, Nat.reduceMul, Nat.reduceLT, Nat.reduceLeDiff, Nat.reduceEqDiff, Nat.reduceBEq, Int.reduceToNat, Int.reduceLT, Int.reduceLE, Int.reduceEq, Int.reduceNeg, Int.reduceAdd, Int.reduceSub, Int.reduceMul, ↓reduceIte, Int.reduceBEq, Int.reduceBNe, length_pw, hget_pw0, hget_pw, hset_pw0, hset_pw, hq, hm2, idx_tg, Rng.av]
        exact hfin s6 lo hi _ q (.inl rfl) l1 l2 l3 l4
    · skip
      simp -implicitDefEqProofs (maxSteps := 2000000) (disch := omega) only [go_sem, reduceCtorEq, Nat.reduceAdd, Nat.reduceSub, Nat.reduceMul, Nat.reduceLT, Nat.reduceLeDiff, Nat.reduceEqDiff, Nat.reduceBEq, Int.reduceToNat, Int.reduceLT, Int.reduceLE, Int.reduceEq, Int.reduceNeg, Int.reduceAdd, Int.reduceSub, Int.reduceMul, ↓reduceIte, Int.reduceBEq, Int.reduceBNe, length_pw, hget_pw0, hget_pw, hset_pw0, hset_pw, hq, hm2, idx_tg, Rng.av]
      refine ⟨fun hm0 => ?_, fun hm0 => ?_⟩
      · refine odds_c r 1 2 (by omega) (by omega) _ (hp.pw _).app _ fun s5 b5 => ?_
        rw [pw_pwa hr]
        cases b5
        · simp -implicitDefEqProofs (maxSteps := 2000000) (disch := omega) only [go_sem, reduceCtorEq, Nat.reduceAdd, Nat.reduceSub, Nat.reduceMul, Nat.reduceLT, Nat.reduceLeDiff, Nat.reduceEqDiff, Nat.reduceBEq, Int.reduceToNat, Int.reduceLT, Int.reduceLE, Int.reduceEq, Int.reduceNeg, Int.reduceAdd, Int.reduceSub, Int.reduceMul, ↓reduceIte, Int.reduceBEq, Int.reduceBNe, length_pw, hget_pw0, hget_pw, hset_pw0, hset_pw, hq, hm2, idx_tg, Rng.av]
          refine near_c r q 0 25000 1 (by omega) (by omega) _ (hp.pw _).app _ fun s6 lo hi l1 l2 l3 l4 l5 l6 junk => ?_
          rw [pw_pwa hr, List.append_assoc]
          simp -implicitDefEqProofs (maxSteps := 2000000) (disch := omega) only [go_sem, reduceCtorEq, Nat.reduceAdd, Nat.reduceSub, Nat.reduceMul, Nat.reduceLT, Nat.reduceLeDiff, Nat.reduceEqDiff, Nat.reduceBEq, Int.reduceToNat, Int.reduceLT, Int.reduceLE, Int.reduceEq, Int.reduceNeg, Int.reduceAdd, Int.reduceSub, Int.reduceMul, ↓reduceIte, Int.reduceBEq, Int.reduceBNe, length_pw, hget_pw0, hget_pw, hset_pw0, hset_pw, hq, hm2, idx_tg, Rng.av]
          exact hfin s6 lo hi _ q (.inl rfl) l1 l2 l3 l4
        · simp -implicitDefEqProofs (maxSteps := 2000000) (disch := omega) only [go_sem, reduceCtorEq, Nat.reduceAdd, Nat.reduceSub, Nat.reduceMul, Nat.reduceLT, Nat.reduceLeDiff, Nat.reduceEqDiff, Nat.reduceBEq, Int.reduceToNat, Int.reduceLT, Int.reduceLE, Int.reduceEq, Int.reduceNeg, Int.reduceAdd, Int.reduceSub, Int.reduceMul, ↓reduceIte, Int.reduceBEq, Int.reduceBNe, length_pw, hget_pw0, hget_pw, hset_pw0, hset_pw, hq, hm2, idx_tg, Rng.av]
          refine near_c r (q + 1) 0 25000 1 (by omega) (by omega) _ (hp.pw _).app _ fun s6 lo hi l1 l2 l3 l4 l5 l6 junk => ?_
          rw [pw_pwa hr, List.append_assoc]
          simp -implicitDefEqProofs (maxSteps := 2000000) (disch := omega) only [go_sem, reduceCtorEq, Nat.reduceAdd, Nat.reduceSub, Nat.reduceMul, Nat.reduceLT, Nat.reduceLeDiff, Nat.reduceEqDiff, Nat.reduceBEq, Int.reduceToNat, Int.reduceLT, Int.reduceLE, Int.reduceEq, Int.reduceNeg, Int.reduceAdd, Int.reduceSub, Int.reduceMul, ↓reduceIte, Int.reduceBEq, Int.reduceBNe, length_pw, hget_pw0, hget_pw, hset_pw0, hset_pw, hq, hm2, idx_tg, Rng.av]
          exact hfin s6 lo hi _ (q + 1) (.inr ⟨rfl, hm0⟩) l1 l2 l3 l4
      · skip
        refine near_c r q 0 25000 1 (by omega) (by omega) _ (hp.pw _).app _ fun s6 lo hi l1 l2 l3 l4 l5 l6 junk => ?_
        rw [pw_pwa hr, List.append_assoc]
        simp -implicitDefEqProofs (maxSteps := 2000000) (disch := omega) only [go_sem, reduceCtorEq, Nat.reduceAdd, Nat.reduceSub, Nat.reduceMul, Nat.reduceLT, Nat.reduceLeDiff, Nat.reduceEqDiff, Nat.reduceBEq, Int.reduceToNat, Int.reduceLT, Int.reduceLE, Int.reduceEq, Int.reduceNeg, Int.reduceAdd, Int.reduceSub, Int.reduceMul, ↓reduceIte, Int.reduceBEq, Int.reduceBNe, length_pw, hget_pw0, hget_pw, hset_pw0, hset_pw, hq, hm2, idx_tg, Rng.av]
        exact hfin s6 lo hi _ q (.inl rfl) l1 l2 l3 l4
    · skip
      simp -implicitDefEqProofs (maxSteps := 2000000) (disch := omega) only [go_sem, reduceCtorEq, Nat.reduceAdd, Nat.reduceSub, Nat.reduceMul, Nat.reduceLT, Nat.reduceLeDiff, Nat.reduceEqDiff, Nat.reduceBEq, Int.reduceToNat, Int.reduceLT, Int.reduceLE, Int.reduceEq, Int.reduceNeg, Int.reduceAdd, Int.reduceSub, Int.reduceMul, ↓reduceIte, Int.reduceBEq, Int.reduceBNe, length_pw, hget_pw0, hget_pw, hset_pw0, hset_pw, hq, hm2, idx_tg, Rng.av]
      refine ⟨fun hm0 => ?_, fun hm0 => ?_⟩
      · refine odds_c r 1 2 (by omega) (by omega) _ (hp.pw _).app _ fun s5 b5 => ?_
        rw [pw_pwa hr]
        cases b5
        · simp -implicitDefEqProofs (maxSteps := 2000000) (disch := omega) only [go_sem, reduceCtorEq, Nat.reduceAdd, Nat.reduceSub, Nat.reduceMul, Nat.reduceLT, Nat.reduceLeDiff, Nat.reduceEqDiff, Nat.reduceBEq, Int.reduceToNat, Int.reduceLT, Int.reduceLE, Int.reduceEq, Int.reduceNeg, Int.reduceAdd, Int.reduceSub, Int.reduceMul, ↓reduceIte, Int.reduceBEq, Int.reduceBNe, length_pw, hget_pw0, hget_pw, hset_pw0, hset_pw, hq, hm2, idx_tg, Rng.av]
          refine near_c r q 0 25000 1 (by omega) (by omega) _ (hp.pw _).app _ fun s6 lo hi l1 l2 l3 l4 l5 l6 junk => ?_
          rw [pw_pwa hr, List.append_assoc]
          simp -implicitDefEqProofs (maxSteps := 2000000) (disch := omega) only [go_sem, reduceCtorEq, Nat.reduceAdd, Nat.reduceSub, Nat.reduceMul, Nat.reduceLT, Nat.reduceLeDiff, Nat.reduceEqDiff, Nat.reduceBEq, Int.reduceToNat, Int.reduceLT, Int.reduceLE, Int.reduceEq, Int.reduceNeg, Int.reduceAdd, Int.reduceSub, Int.reduceMul, ↓reduceIte, Int.reduceBEq, Int.reduceBNe, length_pw, hget_pw0, hget_pw, hset_pw0, hset_pw, hq, hm2, idx_tg, Rng.av]
          exact hfin s6 lo hi _ q (.inl rfl) l1 l2 l3 l4
        · simp -implicitDefEqProofs (maxSteps := 2000000) (disch := omega) only [go_sem, reduceCtorEq, Nat.reduceAdd, Nat.reduceSub, Nat.reduceMul, Nat.reduceLT, Nat.reduceLeDiff, Nat.reduceEqDiff, Nat.reduceBEq, Int.reduceToNat, Int.reduceLT, Int.reduceLE, Int.reduceEq, Int.reduceNeg, Int.reduceAdd, Int.reduceSub, Int.reduceMul, ↓reduceIte, Int.reduceBEq, Int.reduceBNe, length_pw, hget_pw0, hget_pw, hset_pw0, hset_pw, hq, hm2, idx_tg, Rng.av]
          refine near_c r (q + 1) 0 25000 1 (by omega) (by omega) _ (hp.pw _).app _ fun s6 lo hi l1 l2 l3 l4 l5 l6 junk => ?_
          rw [pw_pwa hr, List.append_assoc]
          simp -implicitDefEqProofs (maxSteps := 2000000) (disch := omega) only [go_sem, reduceCtorEq, Nat.reduceAdd, Nat.reduceSub, Nat.reduceMul, Nat.reduceLT, Nat.reduceLeDiff, Nat.reduceEqDiff, Nat.reduceBEq, Int.reduceToNat, Int.reduceLT, Int.reduceLE, Int.reduceEq, Int.reduceNeg, Int.reduceAdd, Int.reduceSub, Int.reduceMul, ↓reduceIte, Int.reduceBEq, Int.reduceBNe, length_pw, hget_pw0, hget_pw, hset_pw0, hset_pw, hq, hm2, idx_tg, Rng.av]
          exact hfin s6 lo hi _ (q + 1) (.inr ⟨rfl, hm0⟩) l1 l2 l3 l4
      · skip
        refine near_c r q 0 25000 1 (by omega) (by omega) _ (hp.pw _).app _ fun s6 lo hi l1 l2 l3 l4 l5 l6 junk => ?_
        rw [pw_pwa hr, List.append_assoc]
        simp -implicitDefEqProofs (maxSteps := 2000000) (disch := omega) only [go_sem, reduceCtorEq, Nat.reduceAdd, Nat.reduceSub, Nat.reduceMul, Nat.reduceLT, Nat.reduceLeDiff, Nat.reduceEqDiff, Nat.reduceBEq, Int.reduceToNat, Int.reduceLT, Int.reduceLE, Int.reduceEq, Int.reduceNeg, Int.reduceAdd, Int.reduceSub, Int.reduceMul, ↓reduceIte, Int.reduceBEq, Int.reduceBNe, length_pw, hget_pw0, hget_pw, hset_pw0, hset_pw, hq, hm2, idx_tg, Rng.av]
        exact hfin s6 lo hi _ q (.inl rfl) l1 l2 l3 l4
  · rcases hk' with rfl | rfl | rfl
    · skip
      simp -implicitDefEqProofs (maxSteps := 2000000) (disch := omega) only [go_sem, reduceCtorEq, Nat.reduceAdd, Nat.reduceSub, Nat.reduceMul, Nat.reduceLT, Nat.reduceLeDiff, Nat.reduceEqDiff, Nat.reduceBEq, Int.reduceToNat, Int.reduceLT, Int.reduceLE, Int.reduceEq, Int.reduceNeg, Int.reduceAdd, Int.reduceSub, Int.reduceMul, ↓reduceIte, Int.reduceBEq, Int.reduceBNe, length_pw, hget_pw0, hget_pw, hset_pw0, hset_pw, hq, hm2, idx_tg, Rng.av]
      refine ⟨fun hm0 => ?_, fun hm0 => ?_⟩
      · refine odds_c r 1 2 (by omega) (by omega) _ (hp.pw _).app _ fun s5 b5 => ?_
        rw [pw_pwa hr]
        cases b5
        · simp -implicitDefEqProofs (maxSteps := 2000000) (disch := omega) only [go_sem, reduceCtorEq, Nat.reduceAdd, Nat.reduceSub, Nat.reduceMul, Nat.reduceLT, Nat.reduceLeDiff, Nat.reduceEqDiff, Nat.reduceBEq, Int.reduceToNat, Int.reduceLT, Int.reduceLE, Int.reduceEq, Int.reduceNeg, Int.reduceAdd, Int.reduceSub, Int.reduceMul, ↓reduceIte, Int.reduceBEq, Int.reduceBNe, length_pw, hget_pw0, hget_pw, hset_pw0, hset_pw, hq, hm2, idx_tg, Rng.av]
          refine near_c r q 0 25000 1 (by omega) (by omega) _ (hp.pw _).app _ fun s6 lo hi l1 l2 l3 l4 l5 l6 junk => ?_
          rw [pw_pwa hr, List.append_assoc]
          simp -implicitDefEqProofs (maxSteps := 2000000) (disch := omega) only [go_sem, reduceCtorEq, Nat.reduceAdd, Nat.reduceSub, Nat.reduceMul, Nat.reduceLT, Nat.reduceLeDiff, Nat.reduceEqDiff, Nat.reduceBEq, Int.reduceToNat, Int.reduceLT, Int.reduceLE, Int.reduceEq, Int.reduceNeg, Int.reduceAdd, Int.reduceSub, Int.reduceMul, ↓reduceIte, Int.reduceBEq, Int.reduceBNe, length_pw, hget_pw0, hget_pw, hset_pw0, hset_pw, hq, hm2, idx_tg, Rng.av]
          exact hfin s6 lo hi _ q (.inl rfl) l1 l2 l3 l4
        · simp -implicitDefEqProofs (maxSteps := 2000000) (disch := omega) only [go_sem, reduceCtorEq, Nat.reduceAdd, Nat.reduceSub, Nat.reduceMul, Nat.reduceLT, Nat.reduceLeDiff, Nat.reduceEqDiff, Nat.reduceBEq, Int.reduceToNat, Int.reduceLT, Int.reduceLE, Int.reduceEq, Int.reduceNeg, Int.reduceAdd, Int.reduceSub, Int.reduceMul, ↓reduceIte, Int.reduceBEq, Int.reduceBNe, length_pw, hget_pw0, hget_pw, hset_pw0, hset_pw, hq, hm2, idx_tg, Rng.av]
          refine near_c r (q + 1) 0 25000 1 (by omega) (by omega) _ (hp.pw _).app _ fun s6 lo hi l1 l2 l3 l4 l5 l6 junk => ?_
          rw [pw_pwa hr, List.append_assoc]
          simp -implicitDefEqProofs (maxSteps := 2000000) (disch := omega) only [go_sem, reduceCtorEq, Nat.reduceAdd, Nat.reduceSub, Nat.reduceMul, Nat.reduceLT, Nat.reduceLeDiff, Nat.reduceEqDiff, Nat.reduceBEq, Int.reduceToNat, Int.reduceLT, Int.reduceLE, Int.reduceEq, Int.reduceNeg, Int.reduceAdd, Int.reduceSub, Int.reduceMul, ↓reduceIte, Int.reduceBEq, Int.reduceBNe, length_pw, hget_pw0, hget_pw, hset_pw0, hset_pw, hq, hm2, idx_tg, Rng.av]
          exact hfin s6 lo hi _ (q + 1) (.inr ⟨rfl, hm0⟩) l1 l2 l3 l4
      · skip
        refine near_c r q 0 25000 1 (by omega) (by omega) _ (hp.pw _).app _ fun s6 lo hi l1 l2 l3 l4 l5 l6 junk => ?_
        rw [pw_pwa hr, List.append_assoc]
        simp -implicitDefEqProofs (maxSteps := 2000000) (disch := omega) only [go_sem, reduceCtorEq, Nat.reduceAdd, Nat.reduceSub, Nat.reduceMul, Nat.reduceLT, Nat.reduceLeDiff, Nat.reduceEqDiff, Nat.reduceBEq, Int.reduceToNat, Int.reduceLT, Int.reduceLE, Int.reduceEq, Int.reduceNeg, Int.reduceAdd, Int.reduceSub, Int.reduceMul, ↓reduceIte, Int.reduceBEq, Int.reduceBNe, length_pw, hget_pw0, hget_pw, hset_pw0, hset_pw, hq, hm2, idx_tg, Rng.av]
        exact hfin s6 lo hi _ q (.inl rfl) l1 l2 l3 l4
    · have hD : (if tg T a - tg T b < tg T b - tg T a then tg T b - tg T a else tg T a - tg T b) = dist (tg T a) (tg T b) := by unfold dist; split <;> omega
      have hD2 : 0 ≤ dist (tg T a) (tg T b) ∧ dist (tg T a) (tg T b) ≤ 100000 := by unfold dist; omega
      have hisR : ∀ lo hi, 100 * lo ≤ dist (tg T a) (tg T b) * sec → dist (tg T a) (tg T b) * sec ≤ 100 * hi → isR ⟨2, a, b, sec, ⟨lo, hi⟩⟩ s0 T = true := fun lo hi g1 g2 => by
        have : ¬ (2 : Int) = 1 := by decide
        simp only [isR, this, if_false, if_true, decide_eq_true_eq]
        exact ⟨g1, g2⟩
      generalize dist (tg T a) (tg T b) = D at hD hD2 hisR
      have hDn : 0 ≤ D * sec ∧ D * sec ≤ 2000000 := ⟨Int.mul_nonneg hD2.1 (by omega), by have := Int.mul_le_mul hD2.2 hsec.2 (by omega) (by omega); omega⟩
      have e1 : (D * sec).tdiv 100 = D * sec / 100 := Int.tdiv_eq_ediv_of_nonneg hDn.1
      have e2 : (D * sec + 99).tdiv 100 = (D * sec + 99) / 100 := Int.tdiv_eq_ediv_of_nonneg (by omega)
      simp -implicitDefEqProofs (maxSteps := 2000000) (disch := omega) only [go_sem, reduceCtorEq, Nat.reduceAdd, Nat.reduceSub, Nat.reduceMul, Nat.reduceLT, Nat.reduceLeDiff, Nat.reduceEqDiff, Nat.reduceBEq, Int.reduceToNat, Int.reduceLT, Int.reduceLE, Int.reduceEq, Int.reduceNeg, Int.reduceAdd, Int.reduceSub, Int.reduceMul, ↓reduceIte, Int.reduceBEq, Int.reduceBNe, length_pw, hget_pw0, hget_pw, hset_pw0, hset_pw, hD, e1, e2, idx_tg, Rng.av]
      refine of_c r [0, 0, 1] .full (by simp) _ (hp.pw _).app _ fun s5 x1 hx1 => ?_
      rw [pw_pwa hr]
      have hx1' : x1 = 0 ∨ x1 = 1 := by simpa using hx1
      obtain ⟨lo, hlo⟩ : ∃ lo, (if 0 < D * sec / 100 - x1 then D * sec / 100 - x1 else 0) = lo := ⟨_, rfl⟩
      have hlo2 : 0 ≤ lo ∧ lo ≤ 20000 ∧ 100 * lo ≤ D * sec := by rw [← hlo]; split <;> omega
      simp -implicitDefEqProofs (maxSteps := 2000000) (disch := omega) only [go_sem, reduceCtorEq, Nat.reduceAdd, Nat.reduceSub, Nat.reduceMul, Nat.reduceLT, Nat.reduceLeDiff, Nat.reduceEqDiff, Nat.reduceBEq, Int.reduceToNat, Int.reduceLT, Int.reduceLE, Int.reduceEq, Int.reduceNeg, Int.reduceAdd, Int.reduceSub, Int.reduceMul, ↓reduceIte, Int.reduceBEq, Int.reduceBNe, length_pw, hget_pw0, hget_pw, hset_pw0, hset_pw, hD, e1, e2, idx_tg, Rng.av, hlo]
      refine of_c r [0, 0, 1] .full (by simp) _ (hp.pw _).app _ fun s6 x2 hx2 => ?_
      rw [pw_pwa hr]
      have hx2' : x2 = 0 ∨ x2 = 1 := by simpa using hx2
      obtain ⟨hi, hhi⟩ : ∃ hi, (D * sec + 99) / 100 + x2 = hi := ⟨_, rfl⟩
      have hhi2 : lo ≤ hi ∧ hi ≤ 25000 ∧ D * sec ≤ 100 * hi := by omega
      simp -implicitDefEqProofs (maxSteps := 2000000) (disch := omega) only [go_sem, reduceCtorEq, Nat.reduceAdd, Nat.reduceSub, Nat.reduceMul, Nat.reduceLT, Nat.reduceLeDiff, Nat.reduceEqDiff, Nat.reduceBEq, Int.reduceToNat, Int.reduceLT, Int.reduceLE, Int.reduceEq, Int.reduceNeg, Int.reduceAdd, Int.reduceSub, Int.reduceMul, ↓reduceIte, Int.reduceBEq, Int.reduceBNe, length_pw, hget_pw0, hget_pw, hset_pw0, hset_pw, hD, e1, e2, idx_tg, Rng.av, hlo, hhi]
      refine h s6 ⟨2, a, b, sec, ⟨lo, hi⟩⟩ _ ?_ (hisR lo hi hlo2.2.2 hhi2.2.2)
      simp only [ckR]; grind
    · by_cases hle : tg T a ≤ tg T b
      · skip
        simp -implicitDefEqProofs (maxSteps := 2000000) (disch := omega) only [go_sem, reduceCtorEq, Nat.reduceAdd, Nat.reduceSub, Nat.reduceMul, Nat.reduceLT, Nat.reduceLeDiff, Nat.reduceEqDiff, Nat.reduceBEq, Int.reduceToNat, Int.reduceLT, Int.reduceLE, Int.reduceEq, Int.reduceNeg, Int.reduceAdd, Int.reduceSub, Int.reduceMul, ↓reduceIte, Int.reduceBEq, Int.reduceBNe, length_pw, hget_pw0, hget_pw, hset_pw0, hset_pw, hq, hm2, idx_tg, Rng.av]
        refine ⟨fun hm0 => ?_, fun hm0 => ?_⟩
        · refine odds_c r 1 2 (by omega) (by omega) _ (hp.pw _).app _ fun s5 b5 => ?_
          rw [pw_pwa hr]
          cases b5
          · simp -implicitDefEqProofs (maxSteps := 2000000) (disch := omega) only [go_sem, reduceCtorEq, Nat.reduceAdd, Nat.reduceSub, Nat.reduceMul, Nat.reduceLT, Nat.reduceLeDiff, Nat.reduceEqDiff, Nat.reduceBEq, Int.reduceToNat, Int.reduceLT, Int.reduceLE, Int.reduceEq, Int.reduceNeg, Int.reduceAdd, Int.reduceSub, Int.reduceMul, ↓reduceIte, Int.reduceBEq, Int.reduceBNe, length_pw, hget_pw0, hget_pw, hset_pw0, hset_pw, hq, hm2, idx_tg, Rng.av]
            refine near_c r q 0 25000 1 (by omega) (by omega) _ (hp.pw _).app _ fun s6 lo hi l1 l2 l3 l4 l5 l6 junk => ?_
            rw [pw_pwa hr, List.append_assoc]
            simp -implicitDefEqProofs (maxSteps := 2000000) (disch := omega) only [go_sem, reduceCtorEq, Nat.reduceAdd, Nat.reduceSub, Nat.reduceMul, Nat.reduceLT, Nat.reduceLeDiff, Nat.reduceEqDiff, Nat.reduceBEq, Int.reduceToNat, Int.reduceLT, Int.reduceLE, Int.reduceEq, Int.reduceNeg, Int.reduceAdd, Int.reduceSub, Int.reduceMul, ↓reduceIte, Int.reduceBEq, Int.reduceBNe, length_pw, hget_pw0, hget_pw, hset_pw0, hset_pw, hq, hm2, idx_tg, Rng.av]
            exact hfin s6 lo hi _ q (.inl rfl) l1 l2 l3 l4
          · simp -implicitDefEqProofs (maxSteps := 2000000) (disch := omega) only [go_sem, reduceCtorEq, Nat.reduceAdd, Nat.reduceSub, Nat.reduceMul, Nat.reduceLT, Nat.reduceLeDiff, Nat.reduceEqDiff, Nat.reduceBEq, Int.reduceToNat, Int.reduceLT, Int.reduceLE, Int.reduceEq, Int.reduceNeg, Int.reduceAdd, Int.reduceSub, Int.reduceMul, ↓reduceIte, Int.reduceBEq, Int.reduceBNe, length_pw, hget_pw0, hget_pw, hset_pw0, hset_pw, hq, hm2, idx_tg, Rng.av]
            refine near_c r (q + 1) 0 25000 1 (by omega) (by omega) _ (hp.pw _).app _ fun s6 lo hi l1 l2 l3 l4 l5 l6 junk => ?_
            rw [pw_pwa hr, List.append_assoc]
            simp -implicitDefEqProofs (maxSteps := 2000000) (disch := omega) only [go_sem, reduceCtorEq, Nat.reduceAdd, Nat.reduceSub, Nat.reduceMul, Nat.reduceLT, Nat.reduceLeDiff, Nat.reduceEqDiff, Nat.reduceBEq, Int.reduceToNat, Int.reduceLT, Int.reduceLE, Int.reduceEq, Int.reduceNeg, Int.reduceAdd, Int.reduceSub, Int.reduceMul, ↓reduceIte, Int.reduceBEq, Int.reduceBNe, length_pw, hget_pw0, hget_pw, hset_pw0, hset_pw, hq, hm2, idx_tg, Rng.av]
            exact hfin s6 lo hi _ (q + 1) (.inr ⟨rfl, hm0⟩) l1 l2 l3 l4
        · skip
          refine near_c r q 0 25000 1 (by omega) (by omega) _ (hp.pw _).app _ fun s6 lo hi l1 l2 l3 l4 l5 l6 junk => ?_
          rw [pw_pwa hr, List.append_assoc]
          simp -implicitDefEqProofs (maxSteps := 2000000) (disch := omega) only [go_sem, reduceCtorEq, Nat.reduceAdd, Nat.reduceSub, Nat.reduceMul, Nat.reduceLT, Nat.reduceLeDiff, Nat.reduceEqDiff, Nat.reduceBEq, Int.reduceToNat, Int.reduceLT, Int.reduceLE, Int.reduceEq, Int.reduceNeg, Int.reduceAdd, Int.reduceSub, Int.reduceMul, ↓reduceIte, Int.reduceBEq, Int.reduceBNe, length_pw, hget_pw0, hget_pw, hset_pw0, hset_pw, hq, hm2, idx_tg, Rng.av]
          exact hfin s6 lo hi _ q (.inl rfl) l1 l2 l3 l4
      · simp -implicitDefEqProofs (maxSteps := 2000000) (disch := omega) only [go_sem, reduceCtorEq, Nat.reduceAdd, Nat.reduceSub, Nat.reduceMul, Nat.reduceLT, Nat.reduceLeDiff, Nat.reduceEqDiff, Nat.reduceBEq, Int.reduceToNat, Int.reduceLT, Int.reduceLE, Int.reduceEq, Int.reduceNeg, Int.reduceAdd, Int.reduceSub, Int.reduceMul, ↓reduceIte, Int.reduceBEq, Int.reduceBNe, length_pw, hget_pw0, hget_pw, hset_pw0, hset_pw, hq, hm2, idx_tg, Rng.av]
        refine h s4 ⟨3, a, b, 0, ⟨0, 0⟩⟩ _ ?_ ?_
        · simp only [ckR]; grind
        · have n1 : ¬ (3 : Int) = 1 := by decide
          have n2 : ¬ (3 : Int) = 2 := by decide
          simp only [isR, n1, n2, if_false, decide_eq_true_eq]; omega
end Go.Proofs
set_option linter.unusedSimpArgs false
set_option linter.unusedVariables false
set_option maxRecDepth 100000
namespace Go.Proofs
open Go Go.Mu

set_option maxHeartbeats 2000000 in
theorem earOf_v (r : Nat) (m n w : Int) (hm : 1 ≤ m ∧ m ≤ 3) (hn : 0 ≤ n ∧ n ≤ 6) (hw : 0 ≤ w ∧ w ≤ 10) (σ : List AObj) (hp : PotAt σ r) (Q : AV → List AObj → Prop) (h : ∀ s' e T junk q, EarP m n w e T → σ.length ≤ q → (∀ s2, hget (pw σ r s2 ++ junk) q = some (.vec 6 (e.rds.map Rd.av))) → Q (.tup [.agg [.int .i64 e.slack, .list .no 2 (e.tones.map Rng.av), .vec q e.rds.length], .list .no 1 (T.map (.int .i64))]) (pw σ r s' ++ junk)) :
    ACalls Try.prog 17 [.ptr r 0, .int .i64 m, .int .i64 n, .int .i64 w] σ Q := by
  refine ACalls.wkpost ?_
  refine ACalls.of_ev (E := Try.E 70 Try.ord17 fs0) (Try.envOK 70 Try.ord17 fs0 fs0_ok) Try.kp17 Try.func17 rfl (by kernel_rfl) (by simp [Try.E]) (Callable.of Try.func17 (by kernel_rfl) (by kernel_rfl)) (by kernel_rfl) ?_
  have hr := hp.lt
  simp -implicitDefEqProofs (maxSteps := 2000000) (disch := omega) only [go_sem, reduceCtorEq, Nat.reduceAdd, Nat.reduceSub, Nat.reduceMul, Nat.reduceLT, Nat.reduceLeDiff, Nat.reduceEqDiff, Nat.reduceBEq, Int.reduceToNat, Int.reduceLT, Int.reduceLE, Int.reduceEq, Int.reduceNeg, Int.reduceAdd, Int.reduceSub, Int.reduceMul, ↓reduceIte, Int.reduceBEq, Int.reduceBNe]
  refine of_c r [0, 0, 1] .full (by simp) _ hp.app _ fun s1 sl hsl => ?_
  rw [pw_app hr]
  have hsl' : 0 ≤ sl ∧ sl ≤ 1 := by simp at hsl; omega
  simp -implicitDefEqProofs (maxSteps := 2000000) (disch := omega) only [go_sem, reduceCtorEq, Nat.reduceAdd, Nat.reduceSub, Nat.reduceMul, Nat.reduceLT, Nat.reduceLeDiff, Nat.reduceEqDiff, Nat.reduceBEq, Int.reduceToNat, Int.reduceLT, Int.reduceLE, Int.reduceEq, Int.reduceNeg, Int.reduceAdd, Int.reduceSub, Int.reduceMul, ↓reduceIte, Int.reduceBEq, Int.reduceBNe, length_pw, hget_pw0, hget_pw, hset_pw0, hset_pw]
  refine within_c r 50 300 (by omega) (by omega) _ (hp.pw _).app _ fun s2 b1 hb1 hb2 => ?_
  rw [pw_pwa hr]
  simp -implicitDefEqProofs (maxSteps := 2000000) (disch := omega) only [go_sem, reduceCtorEq, Nat.reduceAdd, Nat.reduceSub, Nat.reduceMul, Nat.reduceLT, Nat.reduceLeDiff, Nat.reduceEqDiff, Nat.reduceBEq, Int.reduceToNat, Int.reduceLT, Int.reduceLE, Int.reduceEq, Int.reduceNeg, Int.reduceAdd, Int.reduceSub, Int.reduceMul, ↓reduceIte, Int.reduceBEq, Int.reduceBNe, length_pw, hget_pw0, hget_pw, hset_pw0, hset_pw]
  refine within_c r 20000 50000 (by omega) (by omega) _ (hp.pw _).app _ fun s3 b2 hb3 hb4 => ?_
  rw [pw_pwa hr]
  simp -implicitDefEqProofs (maxSteps := 2000000) (disch := omega) only [go_sem, reduceCtorEq, Nat.reduceAdd, Nat.reduceSub, Nat.reduceMul, Nat.reduceLT, Nat.reduceLeDiff, Nat.reduceEqDiff, Nat.reduceBEq, Int.reduceToNat, Int.reduceLT, Int.reduceLE, Int.reduceEq, Int.reduceNeg, Int.reduceAdd, Int.reduceSub, Int.reduceMul, ↓reduceIte, Int.reduceBEq, Int.reduceBNe, length_pw, hget_pw0, hget_pw, hset_pw0, hset_pw]
  refine of_c r [b1, b2] .full (by simp) _ (hp.pw _).app _ fun s4 base hbase => ?_
  rw [pw_pwa hr]
  have hbase' : 50 ≤ base ∧ base ≤ 50000 := by simp at hbase; omega
  clear hb1 hb2 hb3 hb4 hbase
  simp -implicitDefEqProofs (maxSteps := 2000000) (disch := omega) only [go_sem, reduceCtorEq, Nat.reduceAdd, Nat.reduceSub, Nat.reduceMul, Nat.reduceLT, Nat.reduceLeDiff, Nat.reduceEqDiff, Nat.reduceBEq, Int.reduceToNat, Int.reduceLT, Int.reduceLE, Int.reduceEq, Int.reduceNeg, Int.reduceAdd, Int.reduceSub, Int.reduceMul, ↓reduceIte, Int.reduceBEq, Int.reduceBNe, length_pw, hget_pw0, hget_pw, hset_pw0, hset_pw]
  refine within_c r 1 m (by omega) (by omega) _ (hp.pw _).app _ fun s5 i0 hi1 hi2 => ?_
  rw [pw_pwa hr]
  simp -implicitDefEqProofs (maxSteps := 2000000) (disch := omega) only [go_sem, reduceCtorEq, Nat.reduceAdd, Nat.reduceSub, Nat.reduceMul, Nat.reduceLT, Nat.reduceLeDiff, Nat.reduceEqDiff, Nat.reduceBEq, Int.reduceToNat, Int.reduceLT, Int.reduceLE, Int.reduceEq, Int.reduceNeg, Int.reduceAdd, Int.reduceSub, Int.reduceMul, ↓reduceIte, Int.reduceBEq, Int.reduceBNe, length_pw, hget_pw0, hget_pw, hset_pw0, hset_pw]
  refine ARun.ghost 11 1 (sz0 := 0) rfl (by simp [lookA]) ?_
  simp only [ins, ↓reduceIte, List.append_assoc, List.cons_append, List.nil_append, List.length_append, List.length_cons, List.length_nil, Nat.zero_add, Nat.reduceAdd, Nat.reduceEqDiff, length_pw]
  refine ARun.ghostK (σ.length + 1) 1 2 (by rw [hget_pw]; rfl) rfl ?_
  simp only [hset_pw, List.set_cons_succ, List.set_cons_zero, List.append_assoc, List.cons_append, List.nil_append, List.length_append, List.length_cons, List.length_nil, Nat.zero_add, Nat.reduceAdd, length_pw]
  refine ARun.ghostVK (σ.length + 1) 2 6 (by rw [hget_pw]; rfl) rfl ?_
  simp only [hset_pw, List.set_cons_succ, List.set_cons_zero, List.append_assoc, List.cons_append, List.nil_append, List.length_append, List.length_cons, List.length_nil, Nat.zero_add, Nat.reduceAdd, length_pw]
  have hi0 : 1 ≤ i0 ∧ i0 ≤ m := by omega
  clear hi1 hi2
  refine ARun.loopJ (Try.envOK 70 Try.ord17 fs0 fs0_ok) (α := Nat × List Int × List Rng) (fun a => i0.toNat - a.1)
    (fun a τ => (∃ s j, τ = pw σ r s ++ (.cells [.int .i64 0, .list .full 0 [], .list .full 0 []] :: .cells [.int .i64 sl, .list (.own (σ.length + 3)) 2 (a.2.2.map Rng.av), .vec (σ.length + 4) 0] :: .tail a.2.1.length 1 :: .tail a.2.2.length 2 :: .vec 6 [] :: j)) ∧ (a.1 : Int) ≤ i0 ∧ a.2.1.length = a.1 ∧ a.2.2.length = a.1 ∧ (∀ x ∈ a.2.1, 50 ≤ x ∧ x ≤ 50030) ∧ (∀ i (h : i < a.2.1.length) (h' : i < a.2.2.length), 1 ≤ a.2.2[i].lo ∧ a.2.2[i].lo ≤ a.2.1[i] ∧ a.2.1[i] ≤ a.2.2[i].hi ∧ a.2.2[i].hi ≤ 100000 ∧ a.2.1[i] - w ≤ a.2.2[i].lo ∧ a.2.2[i].hi ≤ a.2.1[i] + w))
    (fun a => [(11, .list (.own (σ.length + 2)) 1 (a.2.1.map (.int .i64))), (13, .int .i64 (i0 - a.1))]) (0, [], []) (by kernel_rfl) (by simp [upd, ins, subF, lookA]) ⟨⟨s5, [], by simp⟩, by simp; omega, rfl, rfl, by simp, by simp⟩ ?_
  rintro ⟨k, T, ts⟩ τ ⟨⟨s6, j, rfl⟩, hk, hT, hts, hTb, hrng⟩ ih
  simp only at hk hT hts hTb hrng ih
  by_cases hlt : (k : Int) < i0
  · simp -implicitDefEqProofs (maxSteps := 2000000) (disch := omega) only [go_sem, reduceCtorEq, Nat.reduceAdd, Nat.reduceSub, Nat.reduceMul, Nat.reduceLT, Nat.reduceLeDiff, Nat.reduceEqDiff, Nat.reduceBEq, Int.reduceToNat, Int.reduceLT, Int.reduceLE, Int.reduceEq, Int.reduceNeg, Int.reduceAdd, Int.reduceSub, Int.reduceMul, ↓reduceIte, Int.reduceBEq, Int.reduceBNe, length_pw, hget_pw0, hget_pw, hset_pw0, hset_pw]
    refine upto_c r 30 (by omega) _ (hp.pw _).app _ fun s7 u hu1 hu2 => ?_
    rw [pw_pwa hr]
    have hu : 0 ≤ u ∧ u ≤ 30 := by omega
    clear hu1 hu2
    simp -implicitDefEqProofs (maxSteps := 2000000) (disch := omega) only [go_sem, reduceCtorEq, Nat.reduceAdd, Nat.reduceSub, Nat.reduceMul, Nat.reduceLT, Nat.reduceLeDiff, Nat.reduceEqDiff, Nat.reduceBEq, Int.reduceToNat, Int.reduceLT, Int.reduceLE, Int.reduceEq, Int.reduceNeg, Int.reduceAdd, Int.reduceSub, Int.reduceMul, ↓reduceIte, Int.reduceBEq, Int.reduceBNe, length_pw, hget_pw0, hget_pw, hset_pw0, hset_pw]
    refine near_c r (base + u) 1 100000 w (by omega) (by omega) _ (hp.pw _).app _ fun s8 a b c1 c2 c3 c4 c5 c6 junk => ?_
    rw [pw_pwa hr, List.append_assoc]
    simp -implicitDefEqProofs (maxSteps := 2000000) (disch := omega) only [go_sem, reduceCtorEq, Nat.reduceAdd, Nat.reduceSub, Nat.reduceMul, Nat.reduceLT, Nat.reduceLeDiff, Nat.reduceEqDiff, Nat.reduceBEq, Int.reduceToNat, Int.reduceLT, Int.reduceLE, Int.reduceEq, Int.reduceNeg, Int.reduceAdd, Int.reduceSub, Int.reduceMul, ↓reduceIte, Int.reduceBEq, Int.reduceBNe, length_pw, hget_pw0, hget_pw, hset_pw0, hset_pw, Rng.av]
    refine (ih (k + 1, T ++ [base + u], ts ++ [⟨a, b⟩]) _ (by simp only; omega) ⟨⟨s8, j ++ junk, rfl⟩, by simp only; omega, by simp [hT], by simp [hts], fun x hx => ?_, fun i h h' => ?_⟩).castS (by simp [Rng.av]) (by simp [upd, ins, subF, lookA]; omega)
    · rcases List.mem_append.1 hx with hx | hx
      · exact hTb x hx
      · simp at hx; omega
    · simp only at h h' ⊢
      rw [List.getElem_append, List.getElem_append]
      split <;> split
      · exact hrng i (by assumption) (by assumption)
      · omega
      · omega
      · simp only [List.getElem_singleton]; omega
  · have hke : (k : Int) = i0 := by omega
    have hk3 : k ≤ 3 := by omega
    have hts3 : ts.length ≤ 3 := by omega
    simp -implicitDefEqProofs (maxSteps := 2000000) (disch := omega) only [go_sem, reduceCtorEq, Nat.reduceAdd, Nat.reduceSub, Nat.reduceMul, Nat.reduceLT, Nat.reduceLeDiff, Nat.reduceEqDiff, Nat.reduceBEq, Int.reduceToNat, Int.reduceLT, Int.reduceLE, Int.reduceEq, Int.reduceNeg, Int.reduceAdd, Int.reduceSub, Int.reduceMul, ↓reduceIte, Int.reduceBEq, Int.reduceBNe, length_pw, hget_pw0, hget_pw, hset_pw0, hset_pw]
    refine upto_c r n (by omega) _ (hp.pw _).app _ fun s7 q hq1 hq2 => ?_
    rw [pw_pwa hr]
    have hq : 0 ≤ q ∧ q ≤ n := by omega
    clear hq1 hq2 ih
    simp -implicitDefEqProofs (maxSteps := 2000000) (disch := omega) only [go_sem, reduceCtorEq, Nat.reduceAdd, Nat.reduceSub, Nat.reduceMul, Nat.reduceLT, Nat.reduceLeDiff, Nat.reduceEqDiff, Nat.reduceBEq, Int.reduceToNat, Int.reduceLT, Int.reduceLE, Int.reduceEq, Int.reduceNeg, Int.reduceAdd, Int.reduceSub, Int.reduceMul, ↓reduceIte, Int.reduceBEq, Int.reduceBNe, length_pw, hget_pw0, hget_pw, hset_pw0, hset_pw]
    refine ARun.loopJ (Try.envOK 70 Try.ord17 fs0 fs0_ok) (α := Nat × List Rd) (fun a => q.toNat - a.1)
      (fun a τ => (∃ s j, τ = pw σ r s ++ (.cells [.int .i64 0, .list .full 0 [], .list .full 0 []] :: .cells [.int .i64 sl, .list (.own (σ.length + 3)) 2 (ts.map Rng.av), .vec (σ.length + 4) a.2.length] :: .tail T.length 1 :: .tail ts.length 2 :: .vec 6 (a.2.map Rd.av) :: j)) ∧ (a.1 : Int) ≤ q ∧ a.2.length = a.1 ∧ (∀ x ∈ a.2, ckR x T.length = 0 ∧ isR x sl T = true))
      (fun a => [(15, .int .i64 (q - a.1))]) (0, []) (by kernel_rfl) (by simp [upd, ins, subF, lookA]) ⟨⟨s7, j, by simp⟩, by simp; omega, rfl, by simp⟩ ?_
    rintro ⟨k2, rs⟩ τ ⟨⟨s8, j2, rfl⟩, hk2, hrs, hrd⟩ ih
    simp only at hk2 hrs hrd ih
    by_cases hlt2 : (k2 : Int) < q
    · simp -implicitDefEqProofs (maxSteps := 2000000) (disch := omega) only [go_sem, reduceCtorEq, Nat.reduceAdd, Nat.reduceSub, Nat.reduceMul, Nat.reduceLT, Nat.reduceLeDiff, Nat.reduceEqDiff, Nat.reduceBEq, Int.reduceToNat, Int.reduceLT, Int.reduceLE, Int.reduceEq, Int.reduceNeg, Int.reduceAdd, Int.reduceSub, Int.reduceMul, ↓reduceIte, Int.reduceBEq, Int.reduceBNe, length_pw, hget_pw0, hget_pw, hset_pw0, hset_pw]
      refine ACalls.weaken (l' := [.ptr r 0, .agg [.int .i64 sl, .list .no 2 (ts.map Rng.av), .vec (σ.length + 4) rs.length], .list (.own (σ.length + 2)) 1 (T.map (.int .i64))]) ⟨rfl, ⟨rfl, ⟨rfl, .inl rfl, .inl rfl⟩, rfl, trivial⟩, ⟨rfl, .inl rfl, .inr rfl⟩, trivial⟩ (readingOf_v r sl ts (σ.length + 4) rs.length T (.own (σ.length + 2)) (by omega) (by omega) (fun x hx => by have := hTb x hx; omega) _ (hp.pw _).app _ fun s9 x junk hx1 hx2 => ?_)
      rw [pw_pwa hr, List.append_assoc]
      simp -implicitDefEqProofs (maxSteps := 2000000) (disch := omega) only [go_sem, reduceCtorEq, Nat.reduceAdd, Nat.reduceSub, Nat.reduceMul, Nat.reduceLT, Nat.reduceLeDiff, Nat.reduceEqDiff, Nat.reduceBEq, Int.reduceToNat, Int.reduceLT, Int.reduceLE, Int.reduceEq, Int.reduceNeg, Int.reduceAdd, Int.reduceSub, Int.reduceMul, ↓reduceIte, Int.reduceBEq, Int.reduceBNe, length_pw, hget_pw0, hget_pw, hset_pw0, hset_pw, Rd.av]
      refine (ih (k2 + 1, rs ++ [x]) _ (by simp only; omega) ⟨⟨s9, j2 ++ junk, rfl⟩, by simp only; omega, by simp [hrs], fun y hy => ?_⟩).castS (by simp [Rd.av]) (by simp [upd, ins, subF, lookA]; omega)
      rcases List.mem_append.1 hy with hy | hy
      · exact hrd y hy
      · simp at hy; subst hy; exact ⟨hx1, hx2⟩
    · have hk2e : (k2 : Int) = q := by omega
      simp -implicitDefEqProofs (maxSteps := 2000000) (disch := omega) only [go_sem, reduceCtorEq, Nat.reduceAdd, Nat.reduceSub, Nat.reduceMul, Nat.reduceLT, Nat.reduceLeDiff, Nat.reduceEqDiff, Nat.reduceBEq, Int.reduceToNat, Int.reduceLT, Int.reduceLE, Int.reduceEq, Int.reduceNeg, Int.reduceAdd, Int.reduceSub, Int.reduceMul, ↓reduceIte, Int.reduceBEq, Int.reduceBNe, length_pw, hget_pw0, hget_pw, hset_pw0, hset_pw, Rd.av]
      refine ⟨.tup [.agg [.int .i64 sl, .list .no 2 (ts.map Rng.av), .vec (σ.length + 4) rs.length], .list .no 1 (T.map (.int .i64))], ⟨⟨rfl, ⟨rfl, .inl rfl, .inl rfl⟩, rfl, trivial⟩, ⟨rfl, .inl rfl, .inl rfl⟩, trivial⟩, h s8 ⟨sl, ts, rs⟩ T _ (σ.length + 4) ⟨?_, by simp only; omega, by omega, by omega, by simp only; omega, hsl', fun i h h' => ?_, hTb, fun x hx => (hrd x hx).2⟩ (by omega) (fun s2 => by rw [hget_pw]; rfl)⟩
      · have f1 : firstE ckT ts = 0 := firstE_zero fun i hi => by
          have := hrng i (by omega) hi
          simp only [ckT]; grind
        have f2 : firstE (fun r => ckR r ts.length) rs = 0 := firstE_zero fun i hi => by
          have := (hrd rs[i] (List.getElem_mem hi)).1
          have e : T.length = ts.length := by omega
          rw [e] at this; exact this
        simp only [ck]; grind
      · have := hrng i h h'
        exact ⟨this.1, this.2.1, this.2.2.1, this.2.2.2.2⟩
end Go.Proofs
set_option linter.unusedSimpArgs false
set_option linter.unusedVariables false
set_option maxRecDepth 100000
namespace Go.Proofs
open Go Go.Mu

/-- Lists of so many numbers, ascending, from a on and below n. -/
def comb (n : Nat) : Nat → Nat → List (List Int)
  | 0, _ => [[]]
  | m + 1, a => (List.range (n - a)).flatMap fun k => (comb n m (a + k + 1)).map fun l => ((a + k : Nat) : Int) :: l
/-- Lists that begin with a number. -/
def combK (n m a k : Nat) : List (List Int) := (comb n m (a + k + 1)).map fun l => ((a + k : Nat) : Int) :: l
theorem comb_succ {n m a : Nat} : comb n (m + 1) a = (List.range (n - a)).flatMap (combK n m a) := rfl
theorem comb_mem {n : Nat} : ∀ {m a : Nat} {l : List Int}, l ∈ comb n m a → l.length = m ∧ (∀ x ∈ l, (a : Int) ≤ x ∧ x < n) ∧ l.Nodup
  | 0, a, l, h => by simp [comb] at h; subst h; simp
  | m + 1, a, l, h => by
    obtain ⟨k, hk, h2⟩ := List.mem_flatMap.1 h
    obtain ⟨u, hu, rfl⟩ := List.mem_map.1 h2
    obtain ⟨h3, h4, h5⟩ := comb_mem hu
    have hk' := List.mem_range.1 hk
    refine ⟨by simp [h3], fun x hx => ?_, ?_⟩
    · rcases List.mem_cons.1 hx with rfl | hx
      · omega
      · have := h4 x hx; omega
    · rw [List.nodup_cons]
      exact ⟨fun hm => by have := h4 _ hm; omega, h5⟩
theorem comb_len {n : Nat} : ∀ {m a : Nat}, (comb n m a).length ≤ (n + 1) ^ m
  | 0, a => by simp [comb]
  | m + 1, a => by
    simp only [comb]
    refine Nat.le_trans (flatMap_len (b := (n + 1) ^ m) _ fun k _ => by rw [List.length_map]; exact comb_len) ?_
    rw [Nat.pow_succ, Nat.mul_comm]
    exact Nat.mul_le_mul_left _ (by omega)
theorem comb_len6 {n m a : Nat} (hn : n ≤ 6) (hm : m ≤ 6) : (comb n m a).length ≤ 117649 := by
  refine Nat.le_trans comb_len (Nat.le_trans (Nat.pow_le_pow_left (show n + 1 ≤ 7 by omega) m) (Nat.le_trans (Nat.pow_le_pow_right (by omega) hm) (by decide)))
theorem comb_all : ∀ n : Nat, ∀ a, (List.range (n - a)).map (fun (k : Nat) => ((a + k : Nat) : Int)) ∈ comb n (n - a) a := by
  intro n a
  generalize hm : n - a = m
  induction m generalizing a with
  | zero => simp [comb]
  | succ m ih =>
    simp only [comb, List.mem_flatMap, List.mem_range, List.mem_map]
    refine ⟨0, by omega, _, ih (a + 0 + 1) (by omega), ?_⟩
    rw [List.range_succ_eq_map, List.map_cons, List.map_map]
    congr 1
    apply List.map_congr_left
    intro k _
    simp only [Function.comp]; omega
/-- Readings but some. -/
def keepL (l : List Int) (rs : List Rd) (i : Nat) : List Rd := ((List.range i).filter fun (k : Nat) => !l.contains (k : Int)).map fun k => rs.getD k default
def without (e : Ear) (l : List Int) : Ear := ⟨e.slack, e.tones, keepL l e.rds e.rds.length⟩
theorem keepL_zero {l : List Int} {rs : List Rd} : keepL l rs 0 = [] := rfl
theorem keepL_succ {l : List Int} {rs : List Rd} {i : Nat} (h : i < rs.length) : keepL l rs (i + 1) = keepL l rs i ++ (if l.contains (i : Int) = true then [] else [rs[i]]) := by
  unfold keepL
  rw [List.range_succ, List.filter_append, List.map_append]
  congr 1
  rw [List.filter_cons, List.filter_nil]
  cases hc : l.contains (i : Int)
  · simp only [hc, Bool.not_false, if_true, Bool.false_eq_true, if_false, List.map_cons, List.map_nil, List.getD, List.getElem?_eq_getElem h, Option.getD_some]
  · simp only [hc, Bool.not_true, Bool.false_eq_true, if_true, if_false, List.map_nil]
theorem keepL_len {l : List Int} {rs : List Rd} {i : Nat} : (keepL l rs i).length ≤ i := by
  unfold keepL
  rw [List.length_map]
  exact Nat.le_trans (List.length_filter_le _ _) (by simp)
theorem keepL_mem {l : List Int} {rs : List Rd} {r : Rd} (h : r ∈ keepL l rs rs.length) : r ∈ rs := by
  unfold keepL at h
  obtain ⟨k, hk, rfl⟩ := List.mem_map.1 h
  have hk' := List.mem_range.1 (List.mem_filter.1 hk).1
  simp only [List.getD, List.getElem?_eq_getElem hk', Option.getD_some]
  exact List.getElem_mem _
theorem ck_without {e : Ear} {l : List Int} (h : ck e = 0) : ck (without e l) = 0 := by
  have hrd := ck_rd h
  have h2 : firstE (fun r => ckR r e.tones.length) (keepL l e.rds e.rds.length) = 0 := firstE_zero fun i hi => hrd _ (keepL_mem (List.getElem_mem hi))
  have hl : (keepL l e.rds e.rds.length).length ≤ e.rds.length := keepL_len
  simp only [ck, without] at h ⊢
  rw [h2]
  grind
theorem allT_none {e : Ear} (he : OkE e) (hr : e.rds = []) : ∀ (m : Nat) (t : List Int) (a : Nat), a + m = e.tones.length → allT e m t a ≠ []
  | 0, t, a, _ => by simp [allT, hr]
  | m + 1, t, a, h => by
    simp only [allT]
    have hx := he.tone _ (List.getElem_mem (show a < e.tones.length by omega))
    rw [getD_tone (by omega)]
    intro hn
    rw [List.flatMap_eq_nil_iff] at hn
    exact allT_none he hr m _ (a + 1) (by omega) (hn 0 (List.mem_range.2 (by omega)))
def fewAt (e : Ear) (m : Nat) : List (List Int) := (comb e.rds.length m 0).filter fun l => mayL (without e l)
def fewFrom (e : Ear) : Nat → Nat → List (List Int)
  | 0, _ => []
  | f + 1, m => if fewAt e m = [] then fewFrom e f (m + 1) else fewAt e m
/-- The fewest readings without which there is a truth. -/
def fewL (e : Ear) : List (List Int) := fewFrom e (e.rds.length + 1) 0
theorem fewFrom_eq {e : Ear} : ∀ {f m k : Nat}, (∀ j, m ≤ j → j < k → fewAt e j = []) → m ≤ k → k < m + f → fewAt e k ≠ [] → fewFrom e f m = fewAt e k
  | 0, m, k, _, h1, h2, _ => by omega
  | f + 1, m, k, h, h1, h2, h3 => by
    simp only [fewFrom]
    by_cases hm : m = k
    · subst hm; rw [if_neg h3]
    · rw [if_pos (h m (Nat.le_refl _) (by omega))]
      exact fewFrom_eq (fun j a b => h j (by omega) b) (by omega) (by omega) h3
theorem fewL_eq {e : Ear} {k : Nat} (h : ∀ j, j < k → fewAt e j = []) (hk : k ≤ e.rds.length) (hn : fewAt e k ≠ []) : fewL e = fewAt e k := fewFrom_eq (fun j _ hj => h j hj) (by omega) (by omega) hn
theorem few_all {e : Ear} (h : ck e = 0) : fewAt e e.rds.length ≠ [] := by
  have hm := comb_all e.rds.length 0
  simp only [Nat.sub_zero, Nat.zero_add] at hm
  intro hn
  have : ∀ l ∈ comb e.rds.length e.rds.length 0, mayL (without e l) = false := fun l hl => by
    cases hc : mayL (without e l)
    · rfl
    · have : l ∈ fewAt e e.rds.length := List.mem_filter.2 ⟨hl, hc⟩
      rw [hn] at this; cases this
  have h1 := this _ hm
  have hw := ck_without (l := (List.range e.rds.length).map fun (k : Nat) => (k : Int)) h
  have hr : keepL ((List.range e.rds.length).map fun (k : Nat) => (k : Int)) e.rds e.rds.length = [] := by
    unfold keepL
    rw [List.map_eq_nil_iff, List.filter_eq_nil_iff]
    intro k hk
    simp only [Bool.not_eq_true', Bool.not_eq_false]
    rw [List.contains_iff_mem]
    exact List.mem_map.2 ⟨k, hk, rfl⟩
  unfold mayL at h1
  have h2 : (truthsL (without e ((List.range e.rds.length).map fun (k : Nat) => (k : Int)))) = [] := by simpa using h1
  exact allT_none (okE_of_ck hw) hr _ _ _ (by simp [without]) h2
theorem few_ex {e : Ear} (h : ck e = 0) : ∃ k, k ≤ e.rds.length ∧ (∀ j, j < k → fewAt e j = []) ∧ fewAt e k ≠ [] := by
  have key : ∀ d : Nat, ∀ m : Nat, m + d = e.rds.length → (∀ j, j < m → fewAt e j = []) → ∃ k, k ≤ e.rds.length ∧ (∀ j, j < k → fewAt e j = []) ∧ fewAt e k ≠ [] := by
    intro d
    induction d with
    | zero => intro m hm hj; exact ⟨m, by omega, hj, by have : m = e.rds.length := by omega
                                                        rw [this]; exact few_all h⟩
    | succ d ih =>
      intro m hm hj
      by_cases hn : fewAt e m = []
      · exact ih (m + 1) (by omega) fun j hj' => by
          by_cases hjm : j = m
          · rw [hjm]; exact hn
          · exact hj j (by omega)
      · exact ⟨m, by omega, hj, hn⟩
  exact key e.rds.length 0 (by omega) fun j hj => by omega
theorem fewL_ne {e : Ear} (h : ck e = 0) : fewL e ≠ [] := by
  obtain ⟨k, h1, h2, h3⟩ := few_ex h
  rw [fewL_eq h2 h1 h3]; exact h3
theorem fewL_mem {e : Ear} (h : ck e = 0) : ∃ k, k ≤ e.rds.length ∧ ∀ l ∈ fewL e, l ∈ comb e.rds.length k 0 := by
  obtain ⟨k, h1, h2, h3⟩ := few_ex h
  rw [fewL_eq h2 h1 h3]; exact ⟨k, h1, fun l hl => (List.mem_filter.1 hl).1⟩
theorem ck_rn {e : Ear} (h : ck e = 0) : e.rds.length ≤ 6 := by simp only [ck] at h; grind
theorem fewL_len {e : Ear} (h : ck e = 0) : (fewL e).length ≤ 117649 := by
  obtain ⟨k, h1, h2, h3⟩ := few_ex h
  have := ck_rn h
  rw [fewL_eq h2 h1 h3]
  exact Nat.le_trans (List.length_filter_le _ _) (comb_len6 (by omega) (by omega))
/-- In how many lists a number is. -/
def hasN (L : List (List Int)) (i : Int) : Nat := (L.filter fun l => l.contains i).length
def falseL (e : Ear) : List Int × Int := if ck e = 0 then ((fewL e).headD [], 0) else ([], ck e)
def doubtL (e : Ear) : List Int × Int := if ck e = 0 then ((List.range e.rds.length).map fun (i : Nat) => verd (hasN (fewL e) (i : Int)) (fewL e).length, 0) else ([], ck e)
theorem head_get {L : List (List Int)} (h : 0 < L.length) : L.headD [] = L[0] := by cases L with | nil => simp at h | cons a b => rfl
theorem count_has {l : List Int} {i : Int} (h : l.Nodup) : l.count i = if l.contains i = true then 1 else 0 := by
  by_cases hm : i ∈ l
  · rw [List.Nodup.count h, if_pos hm, if_pos (by simpa using hm)]
  · rw [List.Nodup.count h, if_neg hm, if_neg (by simpa using hm)]
end Go.Proofs
set_option linter.unusedSimpArgs false
set_option linter.unusedVariables false
set_option maxRecDepth 100000
namespace Go.Proofs
open Go Go.Mu

theorem ARun.loopA {E : Env} {ro : Option Nat} {c : Code} {k : List Item} {kp : Nat → Bool} {tm sl : List (Nat × AV)} {σ : List AObj} {Q : Post} {α : Type} (m : α → Nat) (J : α → List AObj → Prop) (lv : α → List (Nat × AV)) (x0 : α)
    (h0 : subF (upd sl (lv x0)) sl) (hJ : J x0 σ)
    (hs : ∀ x τ, J x τ → (∀ y τ', m y < m x → J y τ' → ARun E ro (.inLoop c :: k) ⟨kp, [], upd sl (lv y)⟩ τ' Q) → ARun E ro (.code c :: .inLoop c :: k) ⟨kp, [], upd sl (lv x)⟩ τ Q) : ARun E ro (.code (.loop c) :: k) ⟨kp, tm, sl⟩ σ Q := by
  have key : ∀ n x τ, m x = n → J x τ → ARun E ro (.code c :: .inLoop c :: k) ⟨kp, [], upd sl (lv x)⟩ τ Q := by
    intro n
    induction n using Nat.strongRecOn with
    | _ n ih =>
      intro x τ hm hj
      exact hs x τ hj fun y τ' hlt hy => .inLoop (ih (m y) (by omega) y τ' rfl hy)
  exact .loop (ARun.sub (key _ x0 σ rfl hJ) h0)
theorem intsV_c (l : List Int) (tk : Tok) (hl : l.length ≤ 4294967296) (σ : List AObj) (Q : AV → List AObj → Prop) (h : Q (.vec σ.length l.length) (σ ++ [.vec 1 (l.map (.int .i64))])) :
    ACalls Try.prog 22 [.list tk 1 (l.map (.int .i64))] σ Q := by
  refine ACalls.of_ev (E := Try.Ev 6 (fun _ => ([], [])) fs0) (Try.envOKV 6 (fun _ => ([], [])) fs0 fs0_ok) Try.kp22 Try.func22 rfl (by kernel_rfl) (by simp [Try.Ev]) (Callable.of Try.func22 (by kernel_rfl) (by kernel_rfl)) (by kernel_rfl) ?_
  simp -implicitDefEqProofs (maxSteps := 2000000) (disch := omega) only [go_sem, reduceCtorEq, Nat.reduceAdd, Nat.reduceSub, Nat.reduceMul, Nat.reduceLT, Nat.reduceLeDiff, Nat.reduceEqDiff, Nat.reduceBEq, Int.reduceToNat, Int.reduceLT, Int.reduceLE, Int.reduceEq, Int.reduceNeg, Int.reduceAdd, Int.reduceSub, Int.reduceMul, ↓reduceIte, Int.reduceBEq, Int.reduceBNe]
  exact h
theorem ck_set {e : Ear} {x : Rd} {k : Nat} (h : ck e = 0) (hx : ckR x e.tones.length = 0) : ck ⟨e.slack, e.tones, e.rds.set k x⟩ = 0 := by
  have hrd := ck_rd h
  have h2 : firstE (fun r => ckR r e.tones.length) (e.rds.set k x) = 0 := firstE_zero fun i hi => by
    rcases List.mem_or_eq_of_mem_set (List.getElem_mem hi) with hm | hm
    · exact hrd _ hm
    · rw [hm]; exact hx
  simp only [ck, List.length_set] at h ⊢
  rw [h2]
  grind
set_option maxHeartbeats 4000000 in
theorem shaken_c (r : Nat) (m n w : Int) (hm : 1 ≤ m ∧ m ≤ 3) (hn : 0 ≤ n ∧ n ≤ 6) (hw : 0 ≤ w ∧ w ≤ 10) (σ : List AObj) (hp : PotAt σ r) (Q : AV → List AObj → Prop)
    (h : ∀ s' e junk q, ck e = 0 → 1 ≤ e.tones.length → (e.tones.length : Int) ≤ m → (e.rds.length : Int) ≤ n → σ.length ≤ q → hget (pw σ r s' ++ junk) q = some (.vec 6 (e.rds.map Rd.av)) → Q (.agg [.int .i64 e.slack, .list .no 2 (e.tones.map Rng.av), .vec q e.rds.length]) (pw σ r s' ++ junk)) :
    ACalls Try.prog 58 [.ptr r 0, .int .i64 m, .int .i64 n, .int .i64 w] σ Q := by
  refine ACalls.of_ev (E := Try.E 61 Try.ord58 fs0) (Try.envOK 61 Try.ord58 fs0 fs0_ok) Try.kp58 Try.func58 rfl (by kernel_rfl) (by simp [Try.E]) (Callable.of Try.func58 (by kernel_rfl) (by kernel_rfl)) (by kernel_rfl) ?_
  have hr := hp.lt
  simp -implicitDefEqProofs (maxSteps := 2000000) (disch := omega) only [go_sem, reduceCtorEq, Nat.reduceAdd, Nat.reduceSub, Nat.reduceMul, Nat.reduceLT, Nat.reduceLeDiff, Nat.reduceEqDiff, Nat.reduceBEq, Int.reduceToNat, Int.reduceLT, Int.reduceLE, Int.reduceEq, Int.reduceNeg, Int.reduceAdd, Int.reduceSub, Int.reduceMul, ↓reduceIte, Int.reduceBEq, Int.reduceBNe]
  refine earOf_v r m n w hm hn hw _ hp.app _ fun s1 e T junk1 q hE hq hv => ?_
  simp only [pw_app hr, List.append_assoc, List.cons_append, List.nil_append, List.length_append, List.length_cons, List.length_nil, Nat.zero_add] at hq hv ⊢
  have hck := hE.ck
  have hlo := hE.lo
  have hhi := hE.hi
  have hlen := hE.len
  have hrs := hE.rn
  have hbd := hE.bd
  have hsl := hE.sl
  obtain ⟨sl, ts, rs⟩ := e
  simp only at hlen hrs hsl hv
  have hvq : ∀ s2 X, hget (pw σ r s2 ++ .cells [.int .i64 0, .list .full 0 [], .list .full 0 []] :: (junk1 ++ X)) q = some (.vec 6 (rs.map Rd.av)) := fun s2 X => by
    have h2 := hv s2
    have e : pw σ r s2 ++ .cells [.int .i64 0, .list .full 0 [], .list .full 0 []] :: (junk1 ++ X) = (pw σ r s2 ++ .cells [.int .i64 0, .list .full 0 [], .list .full 0 []] :: junk1) ++ X := by simp
    rw [e, hget_app (hget_lt h2)]; exact h2
  have hqr : r ≠ q := by omega
  clear hE hv
  have hset0 : ∀ s2 X o, hset (pw σ r s2 ++ X) σ.length o = pw σ r s2 ++ X.set 0 o := fun s2 X o => hset_pw0
  have hfin : ∀ s2 X sl' ts' rs', hget (pw σ r s2 ++ X) q = some (.vec 6 (List.map Rd.av rs')) → ck ⟨sl', ts', rs'⟩ = 0 → 1 ≤ ts'.length → (ts'.length : Int) ≤ m → (rs'.length : Int) ≤ n → Q (.agg [.int .i64 sl', .list .no 2 (ts'.map Rng.av), .vec q rs'.length]) (pw σ r s2 ++ X) := fun s2 X sl' ts' rs' g1 g2 g3 g4 g5 => h s2 ⟨sl', ts', rs'⟩ X q g2 g3 g4 g5 (by omega) g1
  clear h
  have hz : ∀ s2 X o, hget (pw σ r s2 ++ .cells [.int .i64 sl, .list .no 2 (ts.map Rng.av), o] :: (junk1 ++ X)) q = some (.vec 6 (rs.map Rd.av)) := fun s2 X o => by
    have h2 := hvq s2 X
    have hne : σ.length ≠ q := by omega
    have e : pw σ r s2 ++ .cells [.int .i64 sl, .list .no 2 (ts.map Rng.av), o] :: (junk1 ++ X) = hset (pw σ r s2 ++ .cells [.int .i64 0, .list .full 0 [], .list .full 0 []] :: (junk1 ++ X)) σ.length (.cells [.int .i64 sl, .list .no 2 (ts.map Rng.av), o]) := by rw [hset_pw0]; rfl
    rw [e, hget_ne hne]; exact h2
  by_cases hn0 : 0 < rs.length
  · simp -implicitDefEqProofs (maxSteps := 2000000) (disch := omega) only [go_sem, reduceCtorEq, Nat.reduceAdd, Nat.reduceSub, Nat.reduceMul, Nat.reduceLT, Nat.reduceLeDiff, Nat.reduceEqDiff, Nat.reduceBEq, Int.reduceToNat, Int.reduceLT, Int.reduceLE, Int.reduceEq, Int.reduceNeg, Int.reduceAdd, Int.reduceSub, Int.reduceMul, ↓reduceIte, Int.reduceBEq, Int.reduceBNe, length_pw, hget_pw0, hget_pw, hset_pw0, hset_pw]
    refine odds_c r 1 2 (by omega) (by omega) _ (hp.pw _).app _ fun s2 b => ?_
    rw [pw_pwa hr]
    cases b
    · simp -implicitDefEqProofs (maxSteps := 2000000) (disch := omega) only [go_sem, reduceCtorEq, Nat.reduceAdd, Nat.reduceSub, Nat.reduceMul, Nat.reduceLT, Nat.reduceLeDiff, Nat.reduceEqDiff, Nat.reduceBEq, Int.reduceToNat, Int.reduceLT, Int.reduceLE, Int.reduceEq, Int.reduceNeg, Int.reduceAdd, Int.reduceSub, Int.reduceMul, ↓reduceIte, Int.reduceBEq, Int.reduceBNe, length_pw, hget_pw0, hget_pw, hset_pw0, hset_pw]
      exact hfin _ _ sl ts rs (hz _ _ _) hck (by omega) (by omega) (by omega)
    · simp -implicitDefEqProofs (maxSteps := 2000000) (disch := omega) only [go_sem, reduceCtorEq, Nat.reduceAdd, Nat.reduceSub, Nat.reduceMul, Nat.reduceLT, Nat.reduceLeDiff, Nat.reduceEqDiff, Nat.reduceBEq, Int.reduceToNat, Int.reduceLT, Int.reduceLE, Int.reduceEq, Int.reduceNeg, Int.reduceAdd, Int.reduceSub, Int.reduceMul, ↓reduceIte, Int.reduceBEq, Int.reduceBNe, length_pw, hget_pw0, hget_pw, hset_pw0, hset_pw]
      refine intsV_c T .no (by omega) _ _ ?_
      simp -implicitDefEqProofs (maxSteps := 2000000) (disch := omega) only [go_sem, reduceCtorEq, Nat.reduceAdd, Nat.reduceSub, Nat.reduceMul, Nat.reduceLT, Nat.reduceLeDiff, Nat.reduceEqDiff, Nat.reduceBEq, Int.reduceToNat, Int.reduceLT, Int.reduceLE, Int.reduceEq, Int.reduceNeg, Int.reduceAdd, Int.reduceSub, Int.reduceMul, ↓reduceIte, Int.reduceBEq, Int.reduceBNe, length_pw, hget_pw0, hget_pw, hset_pw0, hset_pw]
      refine ARun.loopA (α := Nat × List Int) (fun a => T.length - a.1) (fun a τ => (∃ s, τ = pw σ r s ++ (.cells [.int .i64 0, .list .full 0 [], .list .full 0 []] :: (junk1 ++ [.cells [.int .i64 sl, .list .no 2 (ts.map Rng.av), .vec q rs.length], .vec 1 (a.2.map (.int .i64))]))) ∧ a.1 ≤ T.length ∧ a.2.length = T.length ∧ (∀ i (h : i < a.2.length), 50 ≤ a.2[i] ∧ a.2[i] ≤ 50036 ∧ (a.1 ≤ i → a.2[i] ≤ 50030)))
        (fun a => [(13, .int .i64 a.1)]) (0, T) (by simp [upd, ins, subF, lookA]) ⟨⟨s2, rfl⟩, by simp, rfl, fun i h => by have := hbd _ (List.getElem_mem h); exact ⟨this.1, by simp only at this ⊢; omega, fun _ => this.2⟩⟩ ?_
      rintro ⟨k, U⟩ τ ⟨⟨s3, rfl⟩, hk, hU, hUb⟩ ih
      simp only at hk hU hUb ih ⊢
      by_cases hlt : k < T.length
      · have hUk : (U.map (AV.int .i64))[k]? = some (.int .i64 U[k]) := by simp [List.getElem?_eq_getElem (show k < U.length by omega)]
        have hb := hUb k (by omega)
        refine ev_sound (Try.envOK 61 Try.ord58 fs0 fs0_ok) (n := 1000) (by kernel_rfl) ?_
        simp -implicitDefEqProofs (maxSteps := 2000000) (disch := omega) only [go_sem, reduceCtorEq, Nat.reduceAdd, Nat.reduceSub, Nat.reduceMul, Nat.reduceLT, Nat.reduceLeDiff, Nat.reduceEqDiff, Nat.reduceBEq, Int.reduceToNat, Int.reduceLT, Int.reduceLE, Int.reduceEq, Int.reduceNeg, Int.reduceAdd, Int.reduceSub, Int.reduceMul, ↓reduceIte, Int.reduceBEq, Int.reduceBNe, length_pw, hget_pw0, hget_pw, hset_pw0, hset_pw, hUk]
        refine upto_c r 6 (by omega) _ (hp.pw _).app _ fun s4 u hu1 hu2 => ?_
        rw [pw_pwa hr]
        have hu : 0 ≤ u ∧ u ≤ 6 := by omega
        clear hu1 hu2
        simp -implicitDefEqProofs (maxSteps := 2000000) (disch := omega) only [go_sem, reduceCtorEq, Nat.reduceAdd, Nat.reduceSub, Nat.reduceMul, Nat.reduceLT, Nat.reduceLeDiff, Nat.reduceEqDiff, Nat.reduceBEq, Int.reduceToNat, Int.reduceLT, Int.reduceLE, Int.reduceEq, Int.reduceNeg, Int.reduceAdd, Int.reduceSub, Int.reduceMul, ↓reduceIte, Int.reduceBEq, Int.reduceBNe, length_pw, hget_pw0, hget_pw, hset_pw0, hset_pw, hUk]
        refine (ih (k + 1, U.set k (U[k] + u)) _ (by simp only; omega) ⟨⟨s4, rfl⟩, by simp only; omega, by simp only [List.length_set]; exact hU, fun i hi => ?_⟩).castS (by simp [List.map_set]) (by simp [upd, ins, subF, lookA])
        simp only [List.length_set] at hi ⊢
        rw [List.getElem_set]
        split
        · omega
        · have := hUb i hi; omega
      · have hke : k = T.length := by omega
        subst hke
        clear ih
        refine ARun.freeze 12 (r := σ.length + (junk1.length + 1 + 1)) (n := T.length) (sz := 1) (xs := U.map (.int .i64)) rfl (by simp [upd, ins, lookA]) (by rw [hget_pw]; simp) (by simpa using hU) ?_
        have hz2 : ∀ s, hget (pw σ r s ++ .cells [.int .i64 0, .list .full 0 [], .list .full 0 []] :: (junk1 ++ [.cells [.int .i64 sl, .list .no 2 (ts.map Rng.av), .vec q rs.length], .dead])) q = some (.vec 6 (rs.map Rd.av)) := fun s => hvq s _
        have hUs : ∀ x ∈ U, 1 ≤ x ∧ x ≤ 100000 := fun x hx => by
          obtain ⟨i, hi, rfl⟩ := List.mem_iff_getElem.1 hx
          have := hUb i hi; omega
        simp only [ins, upd, hset_pw, ↓reduceIte, Nat.reduceEqDiff]
        refine ev_sound (Try.envOK 61 Try.ord58 fs0 fs0_ok) (n := 1000) (by kernel_rfl) ?_
        simp -implicitDefEqProofs (maxSteps := 2000000) (disch := omega) only [go_sem, reduceCtorEq, Nat.reduceAdd, Nat.reduceSub, Nat.reduceMul, Nat.reduceLT, Nat.reduceLeDiff, Nat.reduceEqDiff, Nat.reduceBEq, Int.reduceToNat, Int.reduceLT, Int.reduceLE, Int.reduceEq, Int.reduceNeg, Int.reduceAdd, Int.reduceSub, Int.reduceMul, ↓reduceIte, Int.reduceBEq, Int.reduceBNe, length_pw, hget_pw0, hget_pw, hset_pw0, hset_pw, hU]
        refine upto_c r _ (by omega) _ (hp.pw _).app _ fun s4 kx hk1 hk2 => ?_
        rw [pw_pwa hr]
        have hkx : 0 ≤ kx ∧ kx < rs.length := by omega
        clear hk1 hk2
        simp -implicitDefEqProofs (maxSteps := 2000000) (disch := omega) only [go_sem, reduceCtorEq, Nat.reduceAdd, Nat.reduceSub, Nat.reduceMul, Nat.reduceLT, Nat.reduceLeDiff, Nat.reduceEqDiff, Nat.reduceBEq, Int.reduceToNat, Int.reduceLT, Int.reduceLE, Int.reduceEq, Int.reduceNeg, Int.reduceAdd, Int.reduceSub, Int.reduceMul, ↓reduceIte, Int.reduceBEq, Int.reduceBNe, length_pw, hget_pw0, hget_pw, hset_pw0, hset_pw, hU]
        refine readingOf_v r sl ts q rs.length U .no (by omega) (by omega) hUs _ (hp.pw _).app _ fun s5 x junk2 hx1 hx2 => ?_
        rw [pw_pwa hr]
        simp only [List.append_assoc, List.cons_append, List.nil_append]
        have htq := hvq s5 (.cells [.int .i64 sl, .list .no 2 (ts.map Rng.av), .vec q rs.length] :: .dead :: junk2)
        have ht8 : hget (pw σ r s5 ++ .cells [.int .i64 0, .list .full 0 [], .list .full 0 []] :: (junk1 ++ .cells [.int .i64 sl, .list .no 2 (ts.map Rng.av), .vec q rs.length] :: .dead :: junk2)) σ.length = some (.cells [.int .i64 0, .list .full 0 [], .list .full 0 []]) := by rw [hget_pw0]; rfl
        have ht9 : hget (pw σ r s5 ++ .cells [.int .i64 0, .list .full 0 [], .list .full 0 []] :: (junk1 ++ .cells [.int .i64 sl, .list .no 2 (ts.map Rng.av), .vec q rs.length] :: .dead :: junk2)) (σ.length + (junk1.length + 1)) = some (.cells [.int .i64 sl, .list .no 2 (ts.map Rng.av), .vec q rs.length]) := by rw [hget_pw]; simp
        have hL : ∃ X : AObj → AObj → List AObj, ∀ o c, hset (hset (pw σ r s5 ++ .cells [.int .i64 0, .list .full 0 [], .list .full 0 []] :: (junk1 ++ .cells [.int .i64 sl, .list .no 2 (ts.map Rng.av), .vec q rs.length] :: .dead :: junk2)) q o) σ.length c = pw σ r s5 ++ X o c := by
          obtain ⟨k, rfl⟩ : ∃ k, q = σ.length + k := ⟨q - σ.length, by omega⟩
          exact ⟨_, fun o c => by rw [hset_pw, hset_pw0]⟩
        obtain ⟨X, hX⟩ := hL
        have hpt : PotAt (pw σ r s5 ++ .cells [.int .i64 0, .list .full 0 [], .list .full 0 []] :: (junk1 ++ .cells [.int .i64 sl, .list .no 2 (ts.map Rng.av), .vec q rs.length] :: .dead :: junk2)) r := (hp.pw _).app
        generalize pw σ r s5 ++ .cells [.int .i64 0, .list .full 0 [], .list .full 0 []] :: (junk1 ++ .cells [.int .i64 sl, .list .no 2 (ts.map Rng.av), .vec q rs.length] :: .dead :: junk2) = τ at htq ht8 ht9 hX hpt ⊢
        have n8 : q ≠ σ.length := by omega
        have n9 : q ≠ σ.length + (junk1.length + 1) := fun e => by rw [e, ht9] at htq; cases htq
        generalize σ.length + (junk1.length + 1) = R9 at ht9 n9 ⊢
        have k9 : ∀ o, hget (hset τ q o) R9 = some (.cells [.int .i64 sl, .list .no 2 (ts.map Rng.av), .vec q rs.length]) := fun o => by rw [hget_ne n9]; exact ht9
        have k8 : ∀ o, hget (hset τ q o) σ.length = some (.cells [.int .i64 0, .list .full 0 [], .list .full 0 []]) := fun o => by rw [hget_ne n8]; exact ht8
        have k88 : ∀ o c, hget (hset (hset τ q o) σ.length c) σ.length = some c := fun o c => hget_set (k8 o) c
        have kqq : ∀ o c, hget (hset (hset τ q o) σ.length c) q = some o := fun o c => by rw [hget_ne (fun e => n8 e.symm)]; exact hget_set htq o
        have hrk : (rs.map Rd.av)[kx.toNat]? = some rs[kx.toNat].av := by simp [List.getElem?_eq_getElem (show kx.toNat < rs.length by omega)]
        rw [hU, ← hlen] at hx1
        obtain ⟨x1, x2, x3, x4, ⟨x5, x6⟩⟩ := x
        generalize rs[kx.toNat] = y at hrk
        obtain ⟨y1, y2, y3, y4, ⟨y5, y6⟩⟩ := y
        simp only [Rd.av] at hrk
        simp only [Rd.av]
        simp -implicitDefEqProofs (maxSteps := 2000000) (disch := omega) only [go_sem, reduceCtorEq, Nat.reduceAdd, Nat.reduceSub, Nat.reduceMul, Nat.reduceLT, Nat.reduceLeDiff, Nat.reduceEqDiff, Nat.reduceBEq, Int.reduceToNat, Int.reduceLT, Int.reduceLE, Int.reduceEq, Int.reduceNeg, Int.reduceAdd, Int.reduceSub, Int.reduceMul, ↓reduceIte, Int.reduceBEq, Int.reduceBNe, length_pw, hget_pw0, hget_pw, hset_pw0, hset_pw, htq, ht9, k9, k8, k88, hrk]
        have e : (rs.map Rd.av).set kx.toNat (.agg [.int .i64 x1, .int .i64 x2, .int .i64 x3, .int .i64 x4, .int .i64 x5, .int .i64 x6]) = (rs.set kx.toNat ⟨x1, x2, x3, x4, ⟨x5, x6⟩⟩).map Rd.av := by rw [List.map_set]; rfl
        rw [e]
        have hv9 := kqq (.vec 6 ((rs.set kx.toNat ⟨x1, x2, x3, x4, ⟨x5, x6⟩⟩).map Rd.av)) (.cells [.int .i64 sl, .list .no 2 (ts.map Rng.av), .vec q rs.length])
        rw [hX] at hv9 ⊢
        have hf := hfin _ _ sl ts (rs.set kx.toNat ⟨x1, x2, x3, x4, ⟨x5, x6⟩⟩) hv9 (ck_set hck hx1) (by omega) (by omega) (by rw [List.length_set]; omega)
        rw [List.length_set] at hf
        exact hf
  · simp -implicitDefEqProofs (maxSteps := 2000000) (disch := omega) only [go_sem, reduceCtorEq, Nat.reduceAdd, Nat.reduceSub, Nat.reduceMul, Nat.reduceLT, Nat.reduceLeDiff, Nat.reduceEqDiff, Nat.reduceBEq, Int.reduceToNat, Int.reduceLT, Int.reduceLE, Int.reduceEq, Int.reduceNeg, Int.reduceAdd, Int.reduceSub, Int.reduceMul, ↓reduceIte, Int.reduceBEq, Int.reduceBNe, length_pw, hget_pw0, hget_pw, hset_pw0, hset_pw]
    exact hfin _ _ sl ts rs (hz _ _ _) hck (by omega) (by omega) (by omega)
end Go.Proofs
