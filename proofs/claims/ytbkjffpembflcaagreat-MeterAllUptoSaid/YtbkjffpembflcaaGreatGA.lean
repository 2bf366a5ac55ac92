/- Texts of a proof: lemmas. -/
import Derived.Test.YtbkjffpembflcaaGreatA27
import Derived.Test.YtbkjffpembflcaaGreatMV
import Derived.Test.YtbkjffpembflcaaGreatRl
import Derived.Test.YtbkjffpembflcaaGreatFA
set_option linter.unusedSimpArgs false
set_option linter.unusedVariables false
set_option maxRecDepth 100000
namespace Go.Proofs
open Go Go.Mu

set_option maxHeartbeats 2000000 in
theorem readingOf_v (r : Nat) (s0 : Int) (ts : List Rng) (qv nv : Nat) (T : List Int) (tk : Tok) (hsl : 0 ≤ s0 ∧ s0 ≤ 3) (hT : 1 ≤ T.length ∧ T.length ≤ 3) (hs : ∀ x ∈ T, 1 ≤ x ∧ x ≤ 100000) (σ : List AObj) (hp : PotAt σ r) (Q : AV → List AObj → Prop) (h : ∀ s' x junk, ckR x T.length = 0 → isR x s0 T = true → Q x.av (pw σ r s' ++ junk)) :
    ACalls Tryz.prog 47 [.ptr r 0, .agg [.int .i64 s0, .list .no 2 (ts.map Rng.av), .vec qv nv], .list tk 1 (T.map (.int .i64))] σ Q := by
  refine ACalls.of_ev (E := Tryz.E 125 Tryz.ord47 fs0) (Tryz.envOK 125 Tryz.ord47 fs0 fs0_ok) Tryz.kp47 Tryz.func47 rfl (by kernel_rfl) (by simp [Tryz.E]) (Callable.of Tryz.func47 (by kernel_rfl) (by kernel_rfl)) (by kernel_rfl) ?_
  have hr := hp.lt
  simp -implicitDefEqProofs (maxSteps := 2000000) (disch := omega) only [go_sem, reduceCtorEq, Nat.reduceAdd, Nat.reduceSub, Nat.reduceMul, Nat.reduceLT, Nat.reduceLeDiff, Nat.reduceEqDiff, Nat.reduceBEq, Int.reduceToNat, Int.reduceLT, Int.reduceLE, Int.reduceEq, Int.reduceNeg, Int.reduceAdd, Int.reduceSub, Int.reduceMul, ↓reduceIte, Int.reduceBEq, Int.reduceBNe, length_pw, hget_pw0, hget_pw, hset_pw0, hset_pw]
  refine of_c r [1, 1, 2, 2, 3] .full (by simp) _ hp.app _ fun s1 k hk => ?_
  rw [pw_app hr]
  simp -implicitDefEqProofs (maxSteps := 2000000) (disch := omega) only [go_sem, reduceCtorEq, Nat.reduceAdd, Nat.reduceSub, Nat.reduceMul, Nat.reduceLT, Nat.reduceLeDiff, Nat.reduceEqDiff, Nat.reduceBEq, Int.reduceToNat, Int.reduceLT, Int.reduceLE, Int.reduceEq, Int.reduceNeg, Int.reduceAdd, Int.reduceSub, Int.reduceMul, ↓reduceIte, Int.reduceBEq, Int.reduceBNe, length_pw, hget_pw0, hget_pw, hset_pw0, hset_pw]
  refine upto_c r _ (by omega) _ (hp.pw _).app _ fun s2 a ha1 ha2 => ?_
  rw [pw_pwa hr]
  simp -implicitDefEqProofs (maxSteps := 2000000) (disch := omega) only [go_sem, reduceCtorEq, Nat.reduceAdd, Nat.reduceSub, Nat.reduceMul, Nat.reduceLT, Nat.reduceLeDiff, Nat.reduceEqDiff, Nat.reduceBEq, Int.reduceToNat, Int.reduceLT, Int.reduceLE, Int.reduceEq, Int.reduceNeg, Int.reduceAdd, Int.reduceSub, Int.reduceMul, ↓reduceIte, Int.reduceBEq, Int.reduceBNe, length_pw, hget_pw0, hget_pw, hset_pw0, hset_pw]
  refine upto_c r _ (by omega) _ (hp.pw _).app _ fun s3 b hb1 hb2 => ?_
  rw [pw_pwa hr]
  simp -implicitDefEqProofs (maxSteps := 2000000) (disch := omega) only [go_sem, reduceCtorEq, Nat.reduceAdd, Nat.reduceSub, Nat.reduceMul, Nat.reduceLT, Nat.reduceLeDiff, Nat.reduceEqDiff, Nat.reduceBEq, Int.reduceToNat, Int.reduceLT, Int.reduceLE, Int.reduceEq, Int.reduceNeg, Int.reduceAdd, Int.reduceSub, Int.reduceMul, ↓reduceIte, Int.reduceBEq, Int.reduceBNe, length_pw, hget_pw0, hget_pw, hset_pw0, hset_pw]
  refine within_c r 1 20 (by omega) (by omega) _ (hp.pw _).app _ fun s4 sec hc1 hc2 => ?_
  rw [pw_pwa hr]
  have ha : 0 ≤ a ∧ a < T.length := by omega
  have hb : 0 ≤ b ∧ b < T.length := by omega
  have hk' : k = 1 ∨ k = 2 ∨ k = 3 := by simpa using hk
  have hsec : 1 ≤ sec ∧ sec ≤ 20 := by omega
  have hTa : 1 ≤ tg T a ∧ tg T a ≤ 100000 := by
    have hx : a.toNat < T.length := by omega
    have : tg T a = T[a.toNat] := by simp [tg, List.getD, List.getElem?_eq_getElem hx]
    rw [this]; exact hs _ (List.getElem_mem hx)
  have hTb : 1 ≤ tg T b ∧ tg T b ≤ 100000 := by
    have hx : b.toNat < T.length := by omega
    have : tg T b = T[b.toNat] := by simp [tg, List.getD, List.getElem?_eq_getElem hx]
    rw [this]; exact hs _ (List.getElem_mem hx)
  clear hk ha1 ha2 hb1 hb2 hc1 hc2
  have hn := mul_le (a := tg T a) (s := sec) (by omega) (by omega)
  obtain ⟨q, hq⟩ : ∃ q, (tg T a * sec).tdiv 100 = q := ⟨_, rfl⟩
  have hq2 : q = tg T a * sec / 100 := by rw [← hq]; exact Int.tdiv_eq_ediv_of_nonneg hn.1
  have hm2 : (tg T a * sec).tmod 100 = tg T a * sec % 100 := Int.tmod_eq_emod_of_nonneg hn.1
  have hq3 : tg T a * sec / 100 ≤ 20000 := by
    have := Int.mul_le_mul hTa.2 hsec.2 (by omega) (by omega)
    omega
  have hfin : ∀ s' lo hi junk c, (c = q ∨ c = q + 1 ∧ 0 < tg T a * sec % 100) → 0 ≤ lo → lo ≤ c → c ≤ hi → hi ≤ 25000 → Q (Rd.mk 1 a 0 sec ⟨lo, hi⟩).av (pw σ r s' ++ junk) := fun s' lo hi junk c hc l1 l2 l3 l4 => by
    refine h s' _ junk ?_ ?_
    · simp only [ckR]; grind
    · simp only [isR, if_true, decide_eq_true_eq]; omega
  by_cases hab : a = b
  · subst hab
    rcases hk' with rfl | rfl | rfl
    · skip
      simp -implicitDefEqProofs (maxSteps := 2000000) (disch := omega) only [go_sem, reduceCtorEq, Nat.reduceAdd, Nat.reduceSub, Nat.reduceMul, Nat.reduceLT, Nat.reduceLeDiff, Nat.reduceEqDiff, Nat.reduceBEq, Int.reduceToNat, Int.reduceLT, Int.reduceLE, Int.reduceEq, Int.reduceNeg, Int.reduceAdd, Int.reduceSub, Int.reduceMul, ↓reduceIte, Int.reduceBEq, Int.reduceBNe, length_pw, hget_pw0, hget_pw, hset_pw0, hset_pw, hq, hm2, idx_tg, Rng.av]
      refine ⟨fun hm0 => ?_, fun hm0 => ?_⟩
      · refine odds_c r 1 2 (by omega) (by omega) _ (hp.pw _).app _ fun s5 b5 => ?_
        rw [pw_pwa hr]
        cases b5
        · simp -implicitDefEqProofs (maxSteps := 2000000) (disch := omega) only [go_sem, reduceCtorEq, Nat.reduceAdd, Nat.reduceSub, Nat.reduceMul, Nat.reduceLT, Nat.reduceLeDiff, Nat.reduceEqDiff, Nat.reduceBEq, Int.reduceToNat, Int.reduceLT, Int.reduceLE, Int.reduceEq, Int.reduceNeg, Int.reduceAdd, Int.reduceSub, Int.reduceMul, ↓reduceIte, Int.reduceBEq, Int.reduceBNe, length_pw, hget_pw0, hget_pw, hset_pw0, hset_pw, hq, hm2, idx_tg, Rng.av]
          refine near_c r q 0 25000 1 (by omega) (by omega) _ (hp.pw _).app _ fun s6 lo hi l1 l2 l3 l4 l5 l6 junk => ?_
          rw [pw_pwa hr, List.append_assoc]
          simp -implicitDefEqProofs (maxSteps := 2000000) (disch := omega) only [go_sem, reduceCtorEq, Nat.reduceAdd, Nat.reduceSub, Nat.reduceMul, Nat.reduceLT, Nat.reduceLeDiff, Nat.reduceEqDiff, Nat.reduceBEq, Int.reduceToNat, Int.reduceLT, Int.reduceLE, Int.reduceEq, Int.reduceNeg, Int.reduceAdd, Int.reduceSub, Int.reduceMul, ↓reduceIte, Int.reduceBEq, Int.reduceBNe, length_pw, hget_pw0, hget_pw, hset_pw0, hset_pw, hq, hm2, idx_tg, Rng.av]
          exact hfin s6 lo hi _ q (.inl rfl) l1 l2 l3 l4
        · simp -implicitDefEqProofs (maxSteps := 2000000) (disch := omega) only [go_sem, reduceCtorEq, Nat.reduceAdd, Nat.reduceSub, Nat.reduceMul, Nat.reduceLT, Nat.reduceLeDiff, Nat.reduceEqDiff, Nat.reduceBEq, Int.reduceToNat, Int.reduceLT, Int.reduceLE, Int.reduceEq, Int.reduceNeg, Int.reduceAdd, Int.reduceSub, Int.reduceMul, ↓reduceIte, Int.reduceBEq, Int.reduceBNe, length_pw, hget_pw0, hget_pw, hset_pw0, hset_pw, hq, hm2, idx_tg, Rng.av]
          refine near_c r (q + 1) 0 25000 1 (by omega) (by omega) _ (hp.pw _).app _ fun s6 lo hi l1 l2 l3 l4 l5 l6 junk => ?_
          rw [pw_pwa hr, List.append_assoc]
          simp -implicitDefEqProofs (maxSteps := 2000000) (disch := omega) only [go_sem, reduceCtorEq, Nat.reduceAdd, Nat.reduceSub, Nat.reduceMul, Nat.reduceLT, Nat.reduceLeDiff, Nat.reduceEqDiff, Nat.reduceBEq, Int.reduceToNat, Int.reduceLT, Int.reduceLE, Int.reduceEq, Int.reduceNeg, Int.reduceAdd, Int.reduceSub, Int.reduceMul, ↓reduceIte, Int.reduceBEq, Int.reduceBNe, length_pw, hget_pw0, hget_pw, hset_pw0, hset_pw, hq, hm2, idx_tg, Rng.av]
          exact hfin s6 lo hi _ (q + 1) (.inr ⟨rfl, hm0⟩) l1 l2 l3 l4
      · skip
        refine near_c r q 0 25000 1 (by omega) (by omega) _ (hp.pw _).app _ fun s6 lo hi l1 l2 l3 l4 l5 l6 junk => ?_
        rw [pw_pwa hr, List.append_assoc]
        simp -implicitDefEqProofs (maxSteps := 2000000) (disch := omega) only [go_sem, reduceCtorEq, Nat.reduceAdd, Nat.reduceSub, Nat.reduceMul, Nat.reduceLT, Nat.reduceLeDiff, Nat.reduceEqDiff, Nat.reduceBEq, Int.reduceToNat, Int.reduceLT, Int.reduceLE, Int.reduceEq, Int.reduceNeg, Int.reduceAdd, Int.reduceSub, Int.reduceMul, ↓reduceIte, Int.reduceBEq, Int.reduceBNe, length_pw, hget_pw0, hget_pw, hset_pw0, hset_pw, hq, hm2, idx_tg, Rng.av]
        exact hfin s6 lo hi _ q (.inl rfl) l1 l2 l3 l4
    · skip
      simp -implicitDefEqProofs (maxSteps := 2000000) (disch := omega) only [go_sem, reduceCtorEq, Nat.reduceAdd, Nat.reduceSub, Nat.reduceMul, Nat.reduceLT, Nat.reduceLeDiff, Nat.reduceEqDiff, Nat.reduceBEq, Int.reduceToNat, Int.reduceLT, Int.reduceLE, Int.reduceEq, Int.reduceNeg, Int.reduceAdd, Int.reduceSub, Int.reduceMul, ↓reduceIte, Int.reduceBEq, Int.reduceBNe, length_pw, hget_pw0, hget_pw, hset_pw0, hset_pw, hq, hm2, idx_tg, Rng.av]
      refine ⟨fun hm0 => ?_, fun hm0 => ?_⟩
      · refine odds_c r 1 2 (by omega) (by omega) _ (hp.pw _).app _ fun s5 b5 => ?_
        rw [pw_pwa hr]
        cases b5
        · simp -implicitDefEqProofs (maxSteps := 2000000) (disch := omega) only [go_sem, reduceCtorEq, Nat.reduceAdd, Nat.reduceSub, Nat.reduceMul, Nat.reduceLT, Nat.reduceLeDiff, Nat.reduceEqDiff, Nat.reduceBEq, Int.reduceToNat, Int.reduceLT, Int.reduceLE, Int.reduceEq, Int.reduceNeg, Int.reduceAdd, Int.reduceSub, Int.reduceMul, ↓reduceIte, Int.reduceBEq, Int.reduceBNe, length_pw, hget_pw0, hget_pw, hset_pw0, hset_pw, hq, hm2, idx_tg, Rng.av]
          refine near_c r q 0 25000 1 (by omega) (by omega) _ (hp.pw _).app _ fun s6 lo hi l1 l2 l3 l4 l5 l6 junk => ?_
          rw [pw_pwa hr, List.append_assoc]
          simp -implicitDefEqProofs (maxSteps := 2000000) (disch := omega) only [go_sem, reduceCtorEq, Nat.reduceAdd, Nat.reduceSub, Nat.reduceMul, Nat.reduceLT, Nat.reduceLeDiff, Nat.reduceEqDiff, Nat.reduceBEq, Int.reduceToNat, Int.reduceLT, Int.reduceLE, Int.reduceEq, Int.reduceNeg, Int.reduceAdd, Int.reduceSub, Int.reduceMul, ↓reduceIte, Int.reduceBEq, Int.reduceBNe, length_pw, hget_pw0, hget_pw, hset_pw0, hset_pw, hq, hm2, idx_tg, Rng.av]
          exact hfin s6 lo hi _ q (.inl rfl) l1 l2 l3 l4
        · simp -implicitDefEqProofs (maxSteps := 2000000) (disch := omega) only [go_sem, reduceCtorEq, Nat.reduceAdd, Nat.reduceSub, Nat.reduceMul, Nat.reduceLT, Nat.reduceLeDiff, Nat.reduceEqDiff, Nat.reduceBEq, Int.reduceToNat, Int.reduceLT, Int.reduceLE, Int.reduceEq, Int.reduceNeg, Int.reduceAdd, Int.reduceSub, Int.reduceMul, ↓reduceIte, Int.reduceBEq, Int.reduceBNe, length_pw, hget_pw0, hget_pw, hset_pw0, hset_pw, hq, hm2, idx_tg, Rng.av]
          refine near_c r (q + 1) 0 25000 1 (by omega) (by omega) _ (hp.pw _).app _ fun s6 lo hi l1 l2 l3 l4 l5 l6 junk => ?_
          rw [pw_pwa hr, List.append_assoc]
          simp -implicitDefEqProofs (maxSteps := 2000000) (disch := omega) only [go_sem, reduceCtorEq, Nat.reduceAdd, Nat.reduceSub, Nat.reduceMul, Nat.reduceLT, Nat.reduceLeDiff, Nat.reduceEqDiff, Nat.reduceBEq, Int.reduceToNat, Int.reduceLT, Int.reduceLE, Int.reduceEq, Int.reduceNeg, Int.reduceAdd, Int.reduceSub, Int.reduceMul, ↓reduceIte, Int.reduceBEq, Int.reduceBNe, length_pw, hget_pw0, hget_pw, hset_pw0, hset_pw, hq, hm2, idx_tg, Rng.av]
          exact hfin s6 lo hi _ (q + 1) (.inr ⟨rfl, hm0⟩) l1 l2 l3 l4
      · skip
        refine near_c r q 0 25000 1 (by omega) (by omega) _ (hp.pw _).app _ fun s6 lo hi l1 l2 l3 l4 l5 l6 junk => ?_
        rw [pw_pwa hr, List.append_assoc]
        simp -implicitDefEqProofs (maxSteps := 2000000) (disch := omega) only [go_sem, reduceCtorEq, Nat.reduceAdd, Nat.reduceSub, Nat.reduceMul, Nat.reduceLT, Nat.reduceLeDiff, Nat.reduceEqDiff, Nat.reduceBEq, Int.reduceToNat, Int.reduceLT, Int.reduceLE, Int.reduceEq, Int.reduceNeg, Int.reduceAdd, Int.reduceSub, Int.reduceMul, ↓reduceIte, Int.reduceBEq, Int.reduceBNe, length_pw, hget_pw0, hget_pw, hset_pw0, hset_pw, hq, hm2, idx_tg, Rng.av]
        exact hfin s6 lo hi _ q (.inl rfl) l1 l2 l3 l4
    · skip
      simp -implicitDefEqProofs (maxSteps := 2000000) (disch := omega) only [go_sem, reduceCtorEq, Nat.reduceAdd, Nat.reduceSub, Nat.reduceMul, Nat.reduceLT, Nat.reduceLeDiff, Nat.reduceEqDiff, Nat.reduceBEq, Int.reduceToNat, Int.reduceLT, Int.reduceLE, Int.reduceEq, Int.reduceNeg, Int.reduceAdd, Int.reduceSub, Int.reduceMul, ↓reduceIte, Int.reduceBEq, Int.reduceBNe, length_pw, hget_pw0, hget_pw, hset_pw0, hset_pw, hq, hm2, idx_tg, Rng.av]
      refine ⟨fun hm0 => ?_, fun hm0 => ?_⟩
      · refine odds_c r 1 2 (by omega) (by omega) _ (hp.pw _).app _ fun s5 b5 => ?_
        rw [pw_pwa hr]
        cases b5
        · simp -implicitDefEqProofs (maxSteps := 2000000) (disch := omega) only [go_sem, reduceCtorEq, Nat.reduceAdd, Nat.reduceSub, Nat.reduceMul, Nat.reduceLT, Nat.reduceLeDiff, Nat.reduceEqDiff, Nat.reduceBEq, Int.reduceToNat, Int.reduceLT, Int.reduceLE, Int.reduceEq, Int.reduceNeg, Int.reduceAdd, Int.reduceSub, Int.reduceMul, ↓reduceIte, Int.reduceBEq, Int.reduceBNe, length_pw, hget_pw0, hget_pw, hset_pw0, hset_pw, hq, hm2, idx_tg, Rng.av]
          refine near_c r q 0 25000 1 (by omega) (by omega) _ (hp.pw _).app _ fun s6 lo hi l1 l2 l3 l4 l5 l6 junk => ?_
          rw [pw_pwa hr, List.append_assoc]
          simp -implicitDefEqProofs (maxSteps := 2000000) (disch := omega) only [go_sem, reduceCtorEq, Nat.reduceAdd, Nat.reduceSub, Nat.reduceMul, Nat.reduceLT, Nat.reduceLeDiff, Nat.reduceEqDiff, Nat.reduceBEq, Int.reduceToNat, Int.reduceLT, Int.reduceLE, Int.reduceEq, Int.reduceNeg, Int.reduceAdd, Int.reduceSub, Int.reduceMul, ↓reduceIte, Int.reduceBEq, Int.reduceBNe, length_pw, hget_pw0, hget_pw, hset_pw0, hset_pw, hq, hm2, idx_tg, Rng.av]
          exact hfin s6 lo hi _ q (.inl rfl) l1 l2 l3 l4
        · simp -implicitDefEqProofs (maxSteps := 2000000) (disch := omega) only [go_sem, reduceCtorEq, Nat.reduceAdd, Nat.reduceSub, Nat.reduceMul, Nat.reduceLT, Nat.reduceLeDiff, Nat.reduceEqDiff, Nat.reduceBEq, Int.reduceToNat, Int.reduceLT, Int.reduceLE, Int.reduceEq, Int.reduceNeg, Int.reduceAdd, Int.reduceSub, Int.reduceMul, ↓reduceIte, Int.reduceBEq, Int.reduceBNe, length_pw, hget_pw0, hget_pw, hset_pw0, hset_pw, hq, hm2, idx_tg, Rng.av]
          refine near_c r (q + 1) 0 25000 1 (by omega) (by omega) _ (hp.pw _).app _ fun s6 lo hi l1 l2 l3 l4 l5 l6 junk => ?_
          rw [pw_pwa hr, List.append_assoc]
          simp -implicitDefEqProofs (maxSteps := 2000000) (disch := omega) only [go_sem, reduceCtorEq, Nat.reduceAdd, Nat.reduceSub, Nat.reduceMul, Nat.reduceLT, Nat.reduceLeDiff, Nat.reduceEqDiff, Nat.reduceBEq, Int.reduceToNat, Int.reduceLT, Int.reduceLE, Int.reduceEq, Int.reduceNeg, Int.reduceAdd, Int.reduceSub, Int.reduceMul, ↓reduceIte, Int.reduceBEq, Int.reduceBNe, length_pw, hget_pw0, hget_pw, hset_pw0, hset_pw, hq, hm2, idx_tg, Rng.av]
          exact hfin s6 lo hi _ (q + 1) (.inr ⟨rfl, hm0⟩) l1 l2 l3 l4
      · skip
        refine near_c r q 0 25000 1 (by omega) (by omega) _ (hp.pw _).app _ fun s6 lo hi l1 l2 l3 l4 l5 l6 junk => ?_
        rw [pw_pwa hr, List.append_assoc]
        simp -implicitDefEqProofs (maxSteps := 2000000) (disch := omega) only [go_sem, reduceCtorEq, Nat.reduceAdd, Nat.reduceSub, Nat.reduceMul, Nat.reduceLT, Nat.reduceLeDiff, Nat.reduceEqDiff, Nat.reduceBEq, Int.reduceToNat, Int.reduceLT, Int.reduceLE, Int.reduceEq, Int.reduceNeg, Int.reduceAdd, Int.reduceSub, Int.reduceMul, ↓reduceIte, Int.reduceBEq, Int.reduceBNe, length_pw, hget_pw0, hget_pw, hset_pw0, hset_pw, hq, hm2, idx_tg, Rng.av]
        exact hfin s6 lo hi _ q (.inl rfl) l1 l2 l3 l4
  · rcases hk' with rfl | rfl | rfl
    · skip
      simp -implicitDefEqProofs (maxSteps := 2000000) (disch := omega) only [go_sem, reduceCtorEq, Nat.reduceAdd, Nat.reduceSub, Nat.reduceMul, Nat.reduceLT, Nat.reduceLeDiff, Nat.reduceEqDiff, Nat.reduceBEq, Int.reduceToNat, Int.reduceLT, Int.reduceLE, Int.reduceEq, Int.reduceNeg, Int.reduceAdd, Int.reduceSub, Int.reduceMul, ↓reduceIte, Int.reduceBEq, Int.reduceBNe, length_pw, hget_pw0, hget_pw, hset_pw0, hset_pw, hq, hm2, idx_tg, Rng.av]
      refine ⟨fun hm0 => ?_, fun hm0 => ?_⟩
      · refine odds_c r 1 2 (by omega) (by omega) _ (hp.pw _).app _ fun s5 b5 => ?_
        rw [pw_pwa hr]
        cases b5
        · simp -implicitDefEqProofs (maxSteps := 2000000) (disch := omega) only [go_sem, reduceCtorEq, Nat.reduceAdd, Nat.reduceSub, Nat.reduceMul, Nat.reduceLT, Nat.reduceLeDiff, Nat.reduceEqDiff, Nat.reduceBEq, Int.reduceToNat, Int.reduceLT, Int.reduceLE, Int.reduceEq, Int.reduceNeg, Int.reduceAdd, Int.reduceSub, Int.reduceMul, ↓reduceIte, Int.reduceBEq, Int.reduceBNe, length_pw, hget_pw0, hget_pw, hset_pw0, hset_pw, hq, hm2, idx_tg, Rng.av]
          refine near_c r q 0 25000 1 (by omega) (by omega) _ (hp.pw _).app _ fun s6 lo hi l1 l2 l3 l4 l5 l6 junk => ?_
          rw [pw_pwa hr, List.append_assoc]
          simp -implicitDefEqProofs (maxSteps := 2000000) (disch := omega) only [go_sem, reduceCtorEq, Nat.reduceAdd, Nat.reduceSub, Nat.reduceMul, Nat.reduceLT, Nat.reduceLeDiff, Nat.reduceEqDiff, Nat.reduceBEq, Int.reduceToNat, Int.reduceLT, Int.reduceLE, Int.reduceEq, Int.reduceNeg, Int.reduceAdd, Int.reduceSub, Int.reduceMul, ↓reduceIte, Int.reduceBEq, Int.reduceBNe, length_pw, hget_pw0, hget_pw, hset_pw0, hset_pw, hq, hm2, idx_tg, Rng.av]
          exact hfin s6 lo hi _ q (.inl rfl) l1 l2 l3 l4
        · simp -implicitDefEqProofs (maxSteps := 2000000) (disch := omega) only [go_sem, reduceCtorEq, Nat.reduceAdd, Nat.reduceSub, Nat.reduceMul, Nat.reduceLT, Nat.reduceLeDiff, Nat.reduceEqDiff, Nat.reduceBEq, Int.reduceToNat, Int.reduceLT, Int.reduceLE, Int.reduceEq, Int.reduceNeg, Int.reduceAdd, Int.reduceSub, Int.reduceMul, ↓reduceIte, Int.reduceBEq, Int.reduceBNe, length_pw, hget_pw0, hget_pw, hset_pw0, hset_pw, hq, hm2, idx_tg, Rng.av]
          refine near_c r (q + 1) 0 25000 1 (by omega) (by omega) _ (hp.pw _).app _ fun s6 lo hi l1 l2 l3 l4 l5 l6 junk => ?_
          rw [pw_pwa hr, List.append_assoc]
          simp -implicitDefEqProofs (maxSteps := 2000000) (disch := omega) only [go_sem, reduceCtorEq, Nat.reduceAdd, Nat.reduceSub, Nat.reduceMul, Nat.reduceLT, Nat.reduceLeDiff, Nat.reduceEqDiff, Nat.reduceBEq, Int.reduceToNat, Int.reduceLT, Int.reduceLE, Int.reduceEq, Int.reduceNeg, Int.reduceAdd, Int.reduceSub, Int.reduceMul, ↓reduceIte, Int.reduceBEq, Int.reduceBNe, length_pw, hget_pw0, hget_pw, hset_pw0, hset_pw, hq, hm2, idx_tg, Rng.av]
          exact hfin s6 lo hi _ (q + 1) (.inr ⟨rfl, hm0⟩) l1 l2 l3 l4
      · skip
        refine near_c r q 0 25000 1 (by omega) (by omega) _ (hp.pw _).app _ fun s6 lo hi l1 l2 l3 l4 l5 l6 junk => ?_
        rw [pw_pwa hr, List.append_assoc]
        simp -implicitDefEqProofs (maxSteps := 2000000) (disch := omega) only [go_sem, reduceCtorEq, Nat.reduceAdd, Nat.reduceSub, Nat.reduceMul, Nat.reduceLT, Nat.reduceLeDiff, Nat.reduceEqDiff, Nat.reduceBEq, Int.reduceToNat, Int.reduceLT, Int.reduceLE, Int.reduceEq, Int.reduceNeg, Int.reduceAdd, Int.reduceSub, Int.reduceMul, ↓reduceIte, Int.reduceBEq, Int.reduceBNe, length_pw, hget_pw0, hget_pw, hset_pw0, hset_pw, hq, hm2, idx_tg, Rng.av]
        exact hfin s6 lo hi _ q (.inl rfl) l1 l2 l3 l4
    · have hD : (if tg T a - tg T b < tg T b - tg T a then tg T b - tg T a else tg T a - tg T b) = dist (tg T a) (tg T b) := by unfold dist; split <;> omega
      have hD2 : 0 ≤ dist (tg T a) (tg T b) ∧ dist (tg T a) (tg T b) ≤ 100000 := by unfold dist; omega
      have hisR : ∀ lo hi, 100 * lo ≤ dist (tg T a) (tg T b) * sec → dist (tg T a) (tg T b) * sec ≤ 100 * hi → isR ⟨2, a, b, sec, ⟨lo, hi⟩⟩ s0 T = true := fun lo hi g1 g2 => by
        have : ¬ (2 : Int) = 1 := by decide
        simp only [isR, this, if_false, if_true, decide_eq_true_eq]
        exact ⟨g1, g2⟩
      generalize dist (tg T a) (tg T b) = D at hD hD2 hisR
      have hDn : 0 ≤ D * sec ∧ D * sec ≤ 2000000 := ⟨Int.mul_nonneg hD2.1 (by omega), by have := Int.mul_le_mul hD2.2 hsec.2 (by omega) (by omega); omega⟩
      have e1 : (D * sec).tdiv 100 = D * sec / 100 := Int.tdiv_eq_ediv_of_nonneg hDn.1
      have e2 : (D * sec + 99).tdiv 100 = (D * sec + 99) / 100 := Int.tdiv_eq_ediv_of_nonneg (by omega)
      simp -implicitDefEqProofs (maxSteps := 2000000) (disch := omega) only [go_sem, reduceCtorEq, Nat.reduceAdd, Nat.reduceSub, Nat.reduceMul, Nat.reduceLT, Nat.reduceLeDiff, Nat.reduceEqDiff, Nat.reduceBEq, Int.reduceToNat, Int.reduceLT, Int.reduceLE, Int.reduceEq, Int.reduceNeg, Int.reduceAdd, Int.reduceSub, Int.reduceMul, ↓reduceIte, Int.reduceBEq, Int.reduceBNe, length_pw, hget_pw0, hget_pw, hset_pw0, hset_pw, hD, e1, e2, idx_tg, Rng.av]
      refine of_c r [0, 0, 1] .full (by simp) _ (hp.pw _).app _ fun s5 x1 hx1 => ?_
      rw [pw_pwa hr]
      have hx1' : x1 = 0 ∨ x1 = 1 := by simpa using hx1
      obtain ⟨lo, hlo⟩ : ∃ lo, (if 0 < D * sec / 100 - x1 then D * sec / 100 - x1 else 0) = lo := ⟨_, rfl⟩
      have hlo2 : 0 ≤ lo ∧ lo ≤ 20000 ∧ 100 * lo ≤ D * sec := by rw [← hlo]; split <;> omega
      simp -implicitDefEqProofs (maxSteps := 2000000) (disch := omega) only [go_sem, reduceCtorEq, Nat.reduceAdd, Nat.reduceSub, Nat.reduceMul, Nat.reduceLT, Nat.reduceLeDiff, Nat.reduceEqDiff, Nat.reduceBEq, Int.reduceToNat, Int.reduceLT, Int.reduceLE, Int.reduceEq, Int.reduceNeg, Int.reduceAdd, Int.reduceSub, Int.reduceMul, ↓reduceIte, Int.reduceBEq, Int.reduceBNe, length_pw, hget_pw0, hget_pw, hset_pw0, hset_pw, hD, e1, e2, idx_tg, Rng.av, hlo]
      refine of_c r [0, 0, 1] .full (by simp) _ (hp.pw _).app _ fun s6 x2 hx2 => ?_
      rw [pw_pwa hr]
      have hx2' : x2 = 0 ∨ x2 = 1 := by simpa using hx2
      obtain ⟨hi, hhi⟩ : ∃ hi, (D * sec + 99) / 100 + x2 = hi := ⟨_, rfl⟩
      have hhi2 : lo ≤ hi ∧ hi ≤ 25000 ∧ D * sec ≤ 100 * hi := by omega
      simp -implicitDefEqProofs (maxSteps := 2000000) (disch := omega) only [go_sem, reduceCtorEq, Nat.reduceAdd, Nat.reduceSub, Nat.reduceMul, Nat.reduceLT, Nat.reduceLeDiff, Nat.reduceEqDiff, Nat.reduceBEq, Int.reduceToNat, Int.reduceLT, Int.reduceLE, Int.reduceEq, Int.reduceNeg, Int.reduceAdd, Int.reduceSub, Int.reduceMul, ↓reduceIte, Int.reduceBEq, Int.reduceBNe, length_pw, hget_pw0, hget_pw, hset_pw0, hset_pw, hD, e1, e2, idx_tg, Rng.av, hlo, hhi]
      refine h s6 ⟨2, a, b, sec, ⟨lo, hi⟩⟩ _ ?_ (hisR lo hi hlo2.2.2 hhi2.2.2)
      simp only [ckR]; grind
    · by_cases hle : tg T a ≤ tg T b
      · skip
        simp -implicitDefEqProofs (maxSteps := 2000000) (disch := omega) only [go_sem, reduceCtorEq, Nat.reduceAdd, Nat.reduceSub, Nat.reduceMul, Nat.reduceLT, Nat.reduceLeDiff, Nat.reduceEqDiff, Nat.reduceBEq, Int.reduceToNat, Int.reduceLT, Int.reduceLE, Int.reduceEq, Int.reduceNeg, Int.reduceAdd, Int.reduceSub, Int.reduceMul, ↓reduceIte, Int.reduceBEq, Int.reduceBNe, length_pw, hget_pw0, hget_pw, hset_pw0, hset_pw, hq, hm2, idx_tg, Rng.av]
        refine ⟨fun hm0 => ?_, fun hm0 => ?_⟩
        · refine odds_c r 1 2 (by omega) (by omega) _ (hp.pw _).app _ fun s5 b5 => ?_
          rw [pw_pwa hr]
          cases b5
          · simp -implicitDefEqProofs (maxSteps := 2000000) (disch := omega) only [go_sem, reduceCtorEq, Nat.reduceAdd, Nat.reduceSub, Nat.reduceMul, Nat.reduceLT, Nat.reduceLeDiff, Nat.reduceEqDiff, Nat.reduceBEq, Int.reduceToNat, Int.reduceLT, Int.reduceLE, Int.reduceEq, Int.reduceNeg, Int.reduceAdd, Int.reduceSub, Int.reduceMul, ↓reduceIte, Int.reduceBEq, Int.reduceBNe, length_pw, hget_pw0, hget_pw, hset_pw0, hset_pw, hq, hm2, idx_tg, Rng.av]
            refine near_c r q 0 25000 1 (by omega) (by omega) _ (hp.pw _).app _ fun s6 lo hi l1 l2 l3 l4 l5 l6 junk => ?_
            rw [pw_pwa hr, List.append_assoc]
            simp -implicitDefEqProofs (maxSteps := 2000000) (disch := omega) only [go_sem, reduceCtorEq, Nat.reduceAdd, Nat.reduceSub, Nat.reduceMul, Nat.reduceLT, Nat.reduceLeDiff, Nat.reduceEqDiff, Nat.reduceBEq, Int.reduceToNat, Int.reduceLT, Int.reduceLE, Int.reduceEq, Int.reduceNeg, Int.reduceAdd, Int.reduceSub, Int.reduceMul, ↓reduceIte, Int.reduceBEq, Int.reduceBNe, length_pw, hget_pw0, hget_pw, hset_pw0, hset_pw, hq, hm2, idx_tg, Rng.av]
            exact hfin s6 lo hi _ q (.inl rfl) l1 l2 l3 l4
          · simp -implicitDefEqProofs (maxSteps := 2000000) (disch := omega) only [go_sem, reduceCtorEq, Nat.reduceAdd, Nat.reduceSub, Nat.reduceMul, Nat.reduceLT, Nat.reduceLeDiff, Nat.reduceEqDiff, Nat.reduceBEq, Int.reduceToNat, Int.reduceLT, Int.reduceLE, Int.reduceEq, Int.reduceNeg, Int.reduceAdd, Int.reduceSub, Int.reduceMul, ↓reduceIte, Int.reduceBEq, Int.reduceBNe, length_pw, hget_pw0, hget_pw, hset_pw0, hset_pw, hq, hm2, idx_tg, Rng.av]
            refine near_c r (q + 1) 0 25000 1 (by omega) (by omega) _ (hp.pw _).app _ fun s6 lo hi l1 l2 l3 l4 l5 l6 junk => ?_
            rw [pw_pwa hr, List.append_assoc]
            simp -implicitDefEqProofs (maxSteps := 2000000) (disch := omega) only [go_sem, reduceCtorEq, Nat.reduceAdd, Nat.reduceSub, Nat.reduceMul, Nat.reduceLT, Nat.reduceLeDiff, Nat.reduceEqDiff, Nat.reduceBEq, Int.reduceToNat, Int.reduceLT, Int.reduceLE, Int.reduceEq, Int.reduceNeg, Int.reduceAdd, Int.reduceSub, Int.reduceMul, ↓reduceIte, Int.reduceBEq, Int.reduceBNe, length_pw, hget_pw0, hget_pw, hset_pw0, hset_pw, hq, hm2, idx_tg, Rng.av]
            exact hfin s6 lo hi _ (q + 1) (.inr ⟨rfl, hm0⟩) l1 l2 l3 l4
        · skip
          refine near_c r q 0 25000 1 (by omega) (by omega) _ (hp.pw _).app _ fun s6 lo hi l1 l2 l3 l4 l5 l6 junk => ?_
          rw [pw_pwa hr, List.append_assoc]
          simp -implicitDefEqProofs (maxSteps := 2000000) (disch := omega) only [go_sem, reduceCtorEq, Nat.reduceAdd, Nat.reduceSub, Nat.reduceMul, Nat.reduceLT, Nat.reduceLeDiff, Nat.reduceEqDiff, Nat.reduceBEq, Int.reduceToNat, Int.reduceLT, Int.reduceLE, Int.reduceEq, Int.reduceNeg, Int.reduceAdd, Int.reduceSub, Int.reduceMul, ↓reduceIte, Int.reduceBEq, Int.reduceBNe, length_pw, hget_pw0, hget_pw, hset_pw0, hset_pw, hq, hm2, idx_tg, Rng.av]
          exact hfin s6 lo hi _ q (.inl rfl) l1 l2 l3 l4
      · simp -implicitDefEqProofs (maxSteps := 2000000) (disch := omega) only [go_sem, reduceCtorEq, Nat.reduceAdd, Nat.reduceSub, Nat.reduceMul, Nat.reduceLT, Nat.reduceLeDiff, Nat.reduceEqDiff, Nat.reduceBEq, Int.reduceToNat, Int.reduceLT, Int.reduceLE, Int.reduceEq, Int.reduceNeg, Int.reduceAdd, Int.reduceSub, Int.reduceMul, ↓reduceIte, Int.reduceBEq, Int.reduceBNe, length_pw, hget_pw0, hget_pw, hset_pw0, hset_pw, hq, hm2, idx_tg, Rng.av]
        refine h s4 ⟨3, a, b, 0, ⟨0, 0⟩⟩ _ ?_ ?_
        · simp only [ckR]; grind
        · have n1 : ¬ (3 : Int) = 1 := by decide
          have n2 : ¬ (3 : Int) = 2 := by decide
          simp only [isR, n1, n2, if_false, decide_eq_true_eq]; omega
end Go.Proofs
set_option linter.unusedSimpArgs false
set_option linter.unusedVariables false
set_option maxRecDepth 100000
namespace Go.Proofs
open Go Go.Mu

set_option maxHeartbeats 2000000 in
theorem earOf_v (r : Nat) (m n w : Int) (hm : 1 ≤ m ∧ m ≤ 3) (hn : 0 ≤ n ∧ n ≤ 6) (hw : 0 ≤ w ∧ w ≤ 10) (σ : List AObj) (hp : PotAt σ r) (Q : AV → List AObj → Prop) (h : ∀ s' e T junk q, EarP m n w e T → σ.length ≤ q → (∀ s2, hget (pw σ r s2 ++ junk) q = some (.vec 6 (e.rds.map Rd.av))) → Q (.tup [.agg [.int .i64 e.slack, .list .no 2 (e.tones.map Rng.av), .vec q e.rds.length], .list .no 1 (T.map (.int .i64))]) (pw σ r s' ++ junk)) :
    ACalls Tryz.prog 9 [.ptr r 0, .int .i64 m, .int .i64 n, .int .i64 w] σ Q := by
  refine ACalls.wkpost ?_
  refine ACalls.of_ev (E := Tryz.E 70 Tryz.ord9 fs0) (Tryz.envOK 70 Tryz.ord9 fs0 fs0_ok) Tryz.kp9 Tryz.func9 rfl (by kernel_rfl) (by simp [Tryz.E]) (Callable.of Tryz.func9 (by kernel_rfl) (by kernel_rfl)) (by kernel_rfl) ?_
  have hr := hp.lt
  simp -implicitDefEqProofs (maxSteps := 2000000) (disch := omega) only [go_sem, reduceCtorEq, Nat.reduceAdd, Nat.reduceSub, Nat.reduceMul, Nat.reduceLT, Nat.reduceLeDiff, Nat.reduceEqDiff, Nat.reduceBEq, Int.reduceToNat, Int.reduceLT, Int.reduceLE, Int.reduceEq, Int.reduceNeg, Int.reduceAdd, Int.reduceSub, Int.reduceMul, ↓reduceIte, Int.reduceBEq, Int.reduceBNe]
  refine of_c r [0, 0, 1] .full (by simp) _ hp.app _ fun s1 sl hsl => ?_
  rw [pw_app hr]
  have hsl' : 0 ≤ sl ∧ sl ≤ 1 := by simp at hsl; omega
  simp -implicitDefEqProofs (maxSteps := 2000000) (disch := omega) only [go_sem, reduceCtorEq, Nat.reduceAdd, Nat.reduceSub, Nat.reduceMul, Nat.reduceLT, Nat.reduceLeDiff, Nat.reduceEqDiff, Nat.reduceBEq, Int.reduceToNat, Int.reduceLT, Int.reduceLE, Int.reduceEq, Int.reduceNeg, Int.reduceAdd, Int.reduceSub, Int.reduceMul, ↓reduceIte, Int.reduceBEq, Int.reduceBNe, length_pw, hget_pw0, hget_pw, hset_pw0, hset_pw]
  refine within_c r 50 300 (by omega) (by omega) _ (hp.pw _).app _ fun s2 b1 hb1 hb2 => ?_
  rw [pw_pwa hr]
  simp -implicitDefEqProofs (maxSteps := 2000000) (disch := omega) only [go_sem, reduceCtorEq, Nat.reduceAdd, Nat.reduceSub, Nat.reduceMul, Nat.reduceLT, Nat.reduceLeDiff, Nat.reduceEqDiff, Nat.reduceBEq, Int.reduceToNat, Int.reduceLT, Int.reduceLE, Int.reduceEq, Int.reduceNeg, Int.reduceAdd, Int.reduceSub, Int.reduceMul, ↓reduceIte, Int.reduceBEq, Int.reduceBNe, length_pw, hget_pw0, hget_pw, hset_pw0, hset_pw]
  refine within_c r 20000 50000 (by omega) (by omega) _ (hp.pw _).app _ fun s3 b2 hb3 hb4 => ?_
  rw [pw_pwa hr]
  simp -implicitDefEqProofs (maxSteps := 2000000) (disch := omega) only [go_sem, reduceCtorEq, Nat.reduceAdd, Nat.reduceSub, Nat.reduceMul, Nat.reduceLT, Nat.reduceLeDiff, Nat.reduceEqDiff, Nat.reduceBEq, Int.reduceToNat, Int.reduceLT, Int.reduceLE, Int.reduceEq, Int.reduceNeg, Int.reduceAdd, Int.reduceSub, Int.reduceMul, ↓reduceIte, Int.reduceBEq, Int.reduceBNe, length_pw, hget_pw0, hget_pw, hset_pw0, hset_pw]
  refine of_c r [b1, b2] .full (by simp) _ (hp.pw _).app _ fun s4 base hbase => ?_
  rw [pw_pwa hr]
  have hbase' : 50 ≤ base ∧ base ≤ 50000 := by simp at hbase; omega
  clear hb1 hb2 hb3 hb4 hbase
  simp -implicitDefEqProofs (maxSteps := 2000000) (disch := omega) only [go_sem, reduceCtorEq, Nat.reduceAdd, Nat.reduceSub, Nat.reduceMul, Nat.reduceLT, Nat.reduceLeDiff, Nat.reduceEqDiff, Nat.reduceBEq, Int.reduceToNat, Int.reduceLT, Int.reduceLE, Int.reduceEq, Int.reduceNeg, Int.reduceAdd, Int.reduceSub, Int.reduceMul, ↓reduceIte, Int.reduceBEq, Int.reduceBNe, length_pw, hget_pw0, hget_pw, hset_pw0, hset_pw]
  refine within_c r 1 m (by omega) (by omega) _ (hp.pw _).app _ fun s5 i0 hi1 hi2 => ?_
  rw [pw_pwa hr]
  simp -implicitDefEqProofs (maxSteps := 2000000) (disch := omega) only [go_sem, reduceCtorEq, Nat.reduceAdd, Nat.reduceSub, Nat.reduceMul, Nat.reduceLT, Nat.reduceLeDiff, Nat.reduceEqDiff, Nat.reduceBEq, Int.reduceToNat, Int.reduceLT, Int.reduceLE, Int.reduceEq, Int.reduceNeg, Int.reduceAdd, Int.reduceSub, Int.reduceMul, ↓reduceIte, Int.reduceBEq, Int.reduceBNe, length_pw, hget_pw0, hget_pw, hset_pw0, hset_pw]
  refine ARun.ghost 11 1 (sz0 := 0) rfl (by simp [lookA]) ?_
  simp only [ins, ↓reduceIte, List.append_assoc, List.cons_append, List.nil_append, List.length_append, List.length_cons, List.length_nil, Nat.zero_add, Nat.reduceAdd, Nat.reduceEqDiff, length_pw]
  refine ARun.ghostK (σ.length + 1) 1 2 (by rw [hget_pw]; rfl) rfl ?_
  simp only [hset_pw, List.set_cons_succ, List.set_cons_zero, List.append_assoc, List.cons_append, List.nil_append, List.length_append, List.length_cons, List.length_nil, Nat.zero_add, Nat.reduceAdd, length_pw]
  refine ARun.ghostVK (σ.length + 1) 2 6 (by rw [hget_pw]; rfl) rfl ?_
  simp only [hset_pw, List.set_cons_succ, List.set_cons_zero, List.append_assoc, List.cons_append, List.nil_append, List.length_append, List.length_cons, List.length_nil, Nat.zero_add, Nat.reduceAdd, length_pw]
  have hi0 : 1 ≤ i0 ∧ i0 ≤ m := by omega
  clear hi1 hi2
  refine ARun.loopJ (Tryz.envOK 70 Tryz.ord9 fs0 fs0_ok) (α := Nat × List Int × List Rng) (fun a => i0.toNat - a.1)
    (fun a τ => (∃ s j, τ = pw σ r s ++ (.cells [.int .i64 0, .list .full 0 [], .list .full 0 []] :: .cells [.int .i64 sl, .list (.own (σ.length + 3)) 2 (a.2.2.map Rng.av), .vec (σ.length + 4) 0] :: .tail a.2.1.length 1 :: .tail a.2.2.length 2 :: .vec 6 [] :: j)) ∧ (a.1 : Int) ≤ i0 ∧ a.2.1.length = a.1 ∧ a.2.2.length = a.1 ∧ (∀ x ∈ a.2.1, 50 ≤ x ∧ x ≤ 50030) ∧ (∀ i (h : i < a.2.1.length) (h' : i < a.2.2.length), 1 ≤ a.2.2[i].lo ∧ a.2.2[i].lo ≤ a.2.1[i] ∧ a.2.1[i] ≤ a.2.2[i].hi ∧ a.2.2[i].hi ≤ 100000 ∧ a.2.1[i] - w ≤ a.2.2[i].lo ∧ a.2.2[i].hi ≤ a.2.1[i] + w))
    (fun a => [(11, .list (.own (σ.length + 2)) 1 (a.2.1.map (.int .i64))), (13, .int .i64 (i0 - a.1))]) (0, [], []) (by kernel_rfl) (by simp [upd, ins, subF, lookA]) ⟨⟨s5, [], by simp⟩, by simp; omega, rfl, rfl, by simp, by simp⟩ ?_
  rintro ⟨k, T, ts⟩ τ ⟨⟨s6, j, rfl⟩, hk, hT, hts, hTb, hrng⟩ ih
  simp only at hk hT hts hTb hrng ih
  by_cases hlt : (k : Int) < i0
  · simp -implicitDefEqProofs (maxSteps := 2000000) (disch := omega) only [go_sem, reduceCtorEq, Nat.reduceAdd, Nat.reduceSub, Nat.reduceMul, Nat.reduceLT, Nat.reduceLeDiff, Nat.reduceEqDiff, Nat.reduceBEq, Int.reduceToNat, Int.reduceLT, Int.reduceLE, Int.reduceEq, Int.reduceNeg, Int.reduceAdd, Int.reduceSub, Int.reduceMul, ↓reduceIte, Int.reduceBEq, Int.reduceBNe, length_pw, hget_pw0, hget_pw, hset_pw0, hset_pw]
    refine upto_c r 30 (by omega) _ (hp.pw _).app _ fun s7 u hu1 hu2 => ?_
    rw [pw_pwa hr]
    have hu : 0 ≤ u ∧ u ≤ 30 := by omega
    clear hu1 hu2
    simp -implicitDefEqProofs (maxSteps := 2000000) (disch := omega) only [go_sem, reduceCtorEq, Nat.reduceAdd, Nat.reduceSub, Nat.reduceMul, Nat.reduceLT, Nat.reduceLeDiff, Nat.reduceEqDiff, Nat.reduceBEq, Int.reduceToNat, Int.reduceLT, Int.reduceLE, Int.reduceEq, Int.reduceNeg, Int.reduceAdd, Int.reduceSub, Int.reduceMul, ↓reduceIte, Int.reduceBEq, Int.reduceBNe, length_pw, hget_pw0, hget_pw, hset_pw0, hset_pw]
    refine near_c r (base + u) 1 100000 w (by omega) (by omega) _ (hp.pw _).app _ fun s8 a b c1 c2 c3 c4 c5 c6 junk => ?_
    rw [pw_pwa hr, List.append_assoc]
    simp -implicitDefEqProofs (maxSteps := 2000000) (disch := omega) only [go_sem, reduceCtorEq, Nat.reduceAdd, Nat.reduceSub, Nat.reduceMul, Nat.reduceLT, Nat.reduceLeDiff, Nat.reduceEqDiff, Nat.reduceBEq, Int.reduceToNat, Int.reduceLT, Int.reduceLE, Int.reduceEq, Int.reduceNeg, Int.reduceAdd, Int.reduceSub, Int.reduceMul, ↓reduceIte, Int.reduceBEq, Int.reduceBNe, length_pw, hget_pw0, hget_pw, hset_pw0, hset_pw, Rng.av]
    refine (ih (k + 1, T ++ [base + u], ts ++ [⟨a, b⟩]) _ (by simp only; omega) ⟨⟨s8, j ++ junk, rfl⟩, by simp only; omega, by simp [hT], by simp [hts], fun x hx => ?_, fun i h h' => ?_⟩).castS (by simp [Rng.av]) (by simp [upd, ins, subF, lookA]; omega)
    · rcases List.mem_append.1 hx with hx | hx
      · exact hTb x hx
      · simp at hx; omega
    · simp only at h h' ⊢
      rw [List.getElem_append, List.getElem_append]
      split <;> split
      · exact hrng i (by assumption) (by assumption)
      · omega
      · omega
      · simp only [List.getElem_singleton]; omega
  · have hke : (k : Int) = i0 := by omega
    have hk3 : k ≤ 3 := by omega
    have hts3 : ts.length ≤ 3 := by omega
    simp -implicitDefEqProofs (maxSteps := 2000000) (disch := omega) only [go_sem, reduceCtorEq, Nat.reduceAdd, Nat.reduceSub, Nat.reduceMul, Nat.reduceLT, Nat.reduceLeDiff, Nat.reduceEqDiff, Nat.reduceBEq, Int.reduceToNat, Int.reduceLT, Int.reduceLE, Int.reduceEq, Int.reduceNeg, Int.reduceAdd, Int.reduceSub, Int.reduceMul, ↓reduceIte, Int.reduceBEq, Int.reduceBNe, length_pw, hget_pw0, hget_pw, hset_pw0, hset_pw]
    refine upto_c r n (by omega) _ (hp.pw _).app _ fun s7 q hq1 hq2 => ?_
    rw [pw_pwa hr]
    have hq : 0 ≤ q ∧ q ≤ n := by omega
    clear hq1 hq2 ih
    simp -implicitDefEqProofs (maxSteps := 2000000) (disch := omega) only [go_sem, reduceCtorEq, Nat.reduceAdd, Nat.reduceSub, Nat.reduceMul, Nat.reduceLT, Nat.reduceLeDiff, Nat.reduceEqDiff, Nat.reduceBEq, Int.reduceToNat, Int.reduceLT, Int.reduceLE, Int.reduceEq, Int.reduceNeg, Int.reduceAdd, Int.reduceSub, Int.reduceMul, ↓reduceIte, Int.reduceBEq, Int.reduceBNe, length_pw, hget_pw0, hget_pw, hset_pw0, hset_pw]
    refine ARun.loopJ (Tryz.envOK 70 Tryz.ord9 fs0 fs0_ok) (α := Nat × List Rd) (fun a => q.toNat - a.1)
      (fun a τ => (∃ s j, τ = pw σ r s ++ (.cells [.int .i64 0, .list .full 0 [], .list .full 0 []] :: .cells [.int .i64 sl, .list (.own (σ.length + 3)) 2 (ts.map Rng.av), .vec (σ.length + 4) a.2.length] :: .tail T.length 1 :: .tail ts.length 2 :: .vec 6 (a.2.map Rd.av) :: j)) ∧ (a.1 : Int) ≤ q ∧ a.2.length = a.1 ∧ (∀ x ∈ a.2, ckR x T.length = 0 ∧ isR x sl T = true))
      (fun a => [(15, .int .i64 (q - a.1))]) (0, []) (by kernel_rfl) (by simp [upd, ins, subF, lookA]) ⟨⟨s7, j, by simp⟩, by simp; omega, rfl, by simp⟩ ?_
    rintro ⟨k2, rs⟩ τ ⟨⟨s8, j2, rfl⟩, hk2, hrs, hrd⟩ ih
    simp only at hk2 hrs hrd ih
    by_cases hlt2 : (k2 : Int) < q
    · simp -implicitDefEqProofs (maxSteps := 2000000) (disch := omega) only [go_sem, reduceCtorEq, Nat.reduceAdd, Nat.reduceSub, Nat.reduceMul, Nat.reduceLT, Nat.reduceLeDiff, Nat.reduceEqDiff, Nat.reduceBEq, Int.reduceToNat, Int.reduceLT, Int.reduceLE, Int.reduceEq, Int.reduceNeg, Int.reduceAdd, Int.reduceSub, Int.reduceMul, ↓reduceIte, Int.reduceBEq, Int.reduceBNe, length_pw, hget_pw0, hget_pw, hset_pw0, hset_pw]
      refine ACalls.weaken (l' := [.ptr r 0, .agg [.int .i64 sl, .list .no 2 (ts.map Rng.av), .vec (σ.length + 4) rs.length], .list (.own (σ.length + 2)) 1 (T.map (.int .i64))]) ⟨rfl, ⟨rfl, ⟨rfl, .inl rfl, .inl rfl⟩, rfl, trivial⟩, ⟨rfl, .inl rfl, .inr rfl⟩, trivial⟩ (readingOf_v r sl ts (σ.length + 4) rs.length T (.own (σ.length + 2)) (by omega) (by omega) (fun x hx => by have := hTb x hx; omega) _ (hp.pw _).app _ fun s9 x junk hx1 hx2 => ?_)
      rw [pw_pwa hr, List.append_assoc]
      simp -implicitDefEqProofs (maxSteps := 2000000) (disch := omega) only [go_sem, reduceCtorEq, Nat.reduceAdd, Nat.reduceSub, Nat.reduceMul, Nat.reduceLT, Nat.reduceLeDiff, Nat.reduceEqDiff, Nat.reduceBEq, Int.reduceToNat, Int.reduceLT, Int.reduceLE, Int.reduceEq, Int.reduceNeg, Int.reduceAdd, Int.reduceSub, Int.reduceMul, ↓reduceIte, Int.reduceBEq, Int.reduceBNe, length_pw, hget_pw0, hget_pw, hset_pw0, hset_pw, Rd.av]
      refine (ih (k2 + 1, rs ++ [x]) _ (by simp only; omega) ⟨⟨s9, j2 ++ junk, rfl⟩, by simp only; omega, by simp [hrs], fun y hy => ?_⟩).castS (by simp [Rd.av]) (by simp [upd, ins, subF, lookA]; omega)
      rcases List.mem_append.1 hy with hy | hy
      · exact hrd y hy
      · simp at hy; subst hy; exact ⟨hx1, hx2⟩
    · have hk2e : (k2 : Int) = q := by omega
      simp -implicitDefEqProofs (maxSteps := 2000000) (disch := omega) only [go_sem, reduceCtorEq, Nat.reduceAdd, Nat.reduceSub, Nat.reduceMul, Nat.reduceLT, Nat.reduceLeDiff, Nat.reduceEqDiff, Nat.reduceBEq, Int.reduceToNat, Int.reduceLT, Int.reduceLE, Int.reduceEq, Int.reduceNeg, Int.reduceAdd, Int.reduceSub, Int.reduceMul, ↓reduceIte, Int.reduceBEq, Int.reduceBNe, length_pw, hget_pw0, hget_pw, hset_pw0, hset_pw, Rd.av]
      refine ⟨.tup [.agg [.int .i64 sl, .list .no 2 (ts.map Rng.av), .vec (σ.length + 4) rs.length], .list .no 1 (T.map (.int .i64))], ⟨⟨rfl, ⟨rfl, .inl rfl, .inl rfl⟩, rfl, trivial⟩, ⟨rfl, .inl rfl, .inl rfl⟩, trivial⟩, h s8 ⟨sl, ts, rs⟩ T _ (σ.length + 4) ⟨?_, by simp only; omega, by omega, by omega, by simp only; omega, hsl', fun i h h' => ?_, hTb, fun x hx => (hrd x hx).2⟩ (by omega) (fun s2 => by rw [hget_pw]; rfl)⟩
      · have f1 : firstE ckT ts = 0 := firstE_zero fun i hi => by
          have := hrng i (by omega) hi
          simp only [ckT]; grind
        have f2 : firstE (fun r => ckR r ts.length) rs = 0 := firstE_zero fun i hi => by
          have := (hrd rs[i] (List.getElem_mem hi)).1
          have e : T.length = ts.length := by omega
          rw [e] at this; exact this
        simp only [ck]; grind
      · have := hrng i h h'
        exact ⟨this.1, this.2.1, this.2.2.1, this.2.2.2.2⟩
end Go.Proofs
set_option linter.unusedSimpArgs false
set_option linter.unusedVariables false
namespace Go.Proofs
open Go Go.Mu

def vTy (t : Nat) : Bool := t == 22 || t == 23 || t == 30
def Tryz.tyV (t : Nat) : TI := if vTy t = true then (Tryz.ty t).v else Tryz.ty t
theorem Tryz.tyV_kd (t : Nat) : (Tryz.tyV t).kd = (Tryz.ty t).kd := by unfold Tryz.tyV; split <;> rfl
theorem Tryz.tyV_sz (t : Nat) : (Tryz.tyV t).sz = (Tryz.ty t).sz := by unfold Tryz.tyV; split <;> rfl
theorem Tryz.tyV_bytes (t : Nat) : (Tryz.tyV t).bytes = (Tryz.ty t).bytes := by unfold Tryz.tyV; split <;> rfl
theorem Tryz.tyV_zero (t : Nat) : (Tryz.tyV t).zero = (Tryz.ty t).zero := by unfold Tryz.tyV; split <;> rfl
theorem Tryz.tyV_eqn (t : Nat) : (Tryz.tyV t).eqn = (Tryz.ty t).eqn := by unfold Tryz.tyV; split <;> rfl
theorem Tryz.tysOKV : TysOK Tryz.prog Tryz.tyV := fun t h => by
  rw [Tryz.tyV_kd] at h
  have h2 := Tryz.tysOK t h
  exact ⟨by rw [Tryz.tyV_sz, Tryz.tyV_bytes, Tryz.tyV_zero]; exact h2.info, by rw [Tryz.tyV_kd]; exact h2.kd⟩
theorem Tryz.tyV2 : Tryz.tyV 2 = { sz := 1, bytes := 8, kd := .int .i64, zero := .int .i64 0, eqn := false } := rfl
theorem Tryz.tyV3 : Tryz.tyV 3 = { sz := 1, bytes := 8, kd := .int .i64, zero := .int .i64 0, eqn := false } := rfl
theorem Tryz.tyV4 : Tryz.tyV 4 = { sz := 1, bytes := 1, kd := .bool, zero := .bool false, eqn := false } := rfl
theorem Tryz.tyV5 : Tryz.tyV 5 = { sz := 1, bytes := 1, kd := .int .u8, zero := .int .u8 0, eqn := false } := rfl
theorem Tryz.tyV6 : Tryz.tyV 6 = { sz := 1, bytes := 1, kd := .int .u8, zero := .int .u8 0, eqn := false } := rfl
theorem Tryz.tyV8 : Tryz.tyV 8 = { sz := 4, bytes := 24, kd := .strct [(0, 2), (1, 3), (2, 4), (3, 6)], zero := .agg [.int .i64 0, .int .i64 0, .bool false, .int .u8 0], eqn := false } := rfl
theorem Tryz.tyV9 : Tryz.tyV 9 = { sz := 1, bytes := 16, kd := .str, zero := .str ByteArray.empty, eqn := false } := rfl
theorem Tryz.tyV10 : Tryz.tyV 10 = { sz := 1, bytes := 16, kd := .str, zero := .str ByteArray.empty, eqn := false } := rfl
theorem Tryz.tyV11 : Tryz.tyV 11 = { sz := 1, bytes := 16, kd := .str, zero := .str ByteArray.empty, eqn := false } := rfl
theorem Tryz.tyV12 : Tryz.tyV 12 = { sz := 1, bytes := 8, kd := .int .u64, zero := .int .u64 0, eqn := false } := rfl
theorem Tryz.tyV14 : Tryz.tyV 14 = { sz := 2, bytes := 24, kd := .strct [(0, 9), (1, 12)], zero := .agg [.str ByteArray.empty, .int .u64 0], eqn := false } := rfl
theorem Tryz.tyV15 : Tryz.tyV 15 = { sz := 1, bytes := 8, kd := .ptr 172, zero := .nilptr, eqn := false } := rfl
theorem Tryz.tyV16 : Tryz.tyV 16 = { sz := 1, bytes := 8, kd := .ptr 175, zero := .nilptr, eqn := false } := rfl
theorem Tryz.tyV17 : Tryz.tyV 17 = { sz := 1, bytes := 8, kd := .ptr 184, zero := .nilptr, eqn := false } := rfl
theorem Tryz.tyV19 : Tryz.tyV 19 = { sz := 1, bytes := 8, kd := .strct [(0, 17)], zero := .agg [.nilptr], eqn := false } := rfl
theorem Tryz.tyV20 : Tryz.tyV 20 = { sz := 1, bytes := 16, kd := .iface, zero := .niliface, eqn := false } := rfl
theorem Tryz.tyV22 : Tryz.tyV 22 = { sz := 1, bytes := 24, kd := .slice 27, zero := .list .full 0 [], eqn := false, vc := true } := rfl
theorem Tryz.tyV23 : Tryz.tyV 23 = { sz := 1, bytes := 24, kd := .slice 29, zero := .list .full 0 [], eqn := false, vc := true } := rfl
theorem Tryz.tyV25 : Tryz.tyV 25 = { sz := 3, bytes := 56, kd := .strct [(0, 3), (1, 22), (2, 23)], zero := .agg [.int .i64 0, .list .full 0 [], .list .full 0 []], eqn := false } := rfl
theorem Tryz.tyV27 : Tryz.tyV 27 = { sz := 2, bytes := 16, kd := .strct [(0, 3), (1, 3)], zero := .agg [.int .i64 0, .int .i64 0], eqn := true } := rfl
theorem Tryz.tyV29 : Tryz.tyV 29 = { sz := 6, bytes := 48, kd := .strct [(0, 3), (1, 3), (2, 3), (3, 3), (4, 27)], zero := .agg [.int .i64 0, .int .i64 0, .int .i64 0, .int .i64 0, .int .i64 0, .int .i64 0], eqn := true } := rfl
theorem Tryz.tyV30 : Tryz.tyV 30 = { sz := 1, bytes := 24, kd := .slice 3, zero := .list .full 0 [], eqn := false, vc := true } := rfl
theorem Tryz.tyV33 : Tryz.tyV 33 = { sz := 1, bytes := 8, kd := .ptr 76, zero := .nilptr, eqn := false } := rfl
theorem Tryz.tyV38 : Tryz.tyV 38 = { sz := 1, bytes := 24, kd := .slice 25, zero := .list .full 0 [], eqn := false } := rfl
theorem Tryz.tyV40 : Tryz.tyV 40 = { sz := 1, bytes := 8, kd := .int .i64, zero := .int .i64 0, eqn := false } := rfl
theorem Tryz.tyV53 : Tryz.tyV 53 = { sz := 1, bytes := 24, kd := .slice 30, zero := .list .full 0 [], eqn := false } := rfl
theorem Tryz.tyV65 : Tryz.tyV 65 = { sz := 1, bytes := 8, kd := .func, zero := .nilfn, eqn := false } := rfl
theorem Tryz.tyV74 : Tryz.tyV 74 = { sz := 1, bytes := 8, kd := .int .u64, zero := .int .u64 0, eqn := false } := rfl
theorem Tryz.tyV76 : Tryz.tyV 76 = { sz := 1, bytes := 8, kd := .strct [(0, 74)], zero := .agg [.int .u64 0], eqn := false } := rfl
theorem Tryz.tyV77 : Tryz.tyV 77 = { sz := 1, bytes := 8, kd := .int .u64, zero := .int .u64 0, eqn := false } := rfl
theorem Tryz.tyV81 : Tryz.tyV 81 = { sz := 1, bytes := 8, kd := .func, zero := .nilfn, eqn := false } := rfl
theorem Tryz.tyV82 : Tryz.tyV 82 = { sz := 1, bytes := 8, kd := .func, zero := .nilfn, eqn := false } := rfl
theorem Tryz.tyV85 : Tryz.tyV 85 = { sz := 1, bytes := 24, kd := .slice 90, zero := .list .full 0 [], eqn := false } := rfl
theorem Tryz.tyV90 : Tryz.tyV 90 = { sz := 3, bytes := 24, kd := .arr 3 3, zero := .agg [.int .i64 0, .int .i64 0, .int .i64 0], eqn := false } := rfl
theorem Tryz.tyV91 : Tryz.tyV 91 = { sz := 1, bytes := 8, kd := .func, zero := .nilfn, eqn := false } := rfl
theorem Tryz.tyV95 : Tryz.tyV 95 = { sz := 1, bytes := 8, kd := .map 3 4, zero := .nilmap, eqn := false } := rfl
theorem Tryz.tyV105 : Tryz.tyV 105 = { sz := 1, bytes := 8, kd := .func, zero := .nilfn, eqn := false } := rfl
theorem Tryz.tyV107 : Tryz.tyV 107 = { sz := 1, bytes := 8, kd := .func, zero := .nilfn, eqn := false } := rfl
theorem Tryz.tyV111 : Tryz.tyV 111 = { sz := 1, bytes := 16, kd := .iface, zero := .niliface, eqn := false } := rfl
theorem Tryz.tyV113 : Tryz.tyV 113 = { sz := 1, bytes := 8, kd := .map 3 85, zero := .nilmap, eqn := false } := rfl
theorem Tryz.tyV120 : Tryz.tyV 120 = { sz := 1, bytes := 8, kd := .func, zero := .nilfn, eqn := false } := rfl
theorem Tryz.tyV121 : Tryz.tyV 121 = { sz := 1, bytes := 24, kd := .slice 111, zero := .list .full 0 [], eqn := false } := rfl
theorem Tryz.tyV123 : Tryz.tyV 123 = { sz := 4, bytes := 48, kd := .strct [(0, 3), (1, 27), (3, 121)], zero := .agg [.int .i64 0, .int .i64 0, .int .i64 0, .list .full 0 []], eqn := false } := rfl
theorem Tryz.tyV125 : Tryz.tyV 125 = { sz := 1, bytes := 8, kd := .func, zero := .nilfn, eqn := false } := rfl
theorem Tryz.tyV129 : Tryz.tyV 129 = { sz := 1, bytes := 8, kd := .func, zero := .nilfn, eqn := false } := rfl
theorem Tryz.tyV130 : Tryz.tyV 130 = { sz := 1, bytes := 8, kd := .func, zero := .nilfn, eqn := false } := rfl
theorem Tryz.tyV134 : Tryz.tyV 134 = { sz := 7, bytes := 56, kd := .strct [(0, 29), (6, 3)], zero := .agg [.int .i64 0, .int .i64 0, .int .i64 0, .int .i64 0, .int .i64 0, .int .i64 0, .int .i64 0], eqn := false } := rfl
theorem Tryz.tyV136 : Tryz.tyV 136 = { sz := 6, bytes := 48, kd := .strct [(0, 29)], zero := .agg [.int .i64 0, .int .i64 0, .int .i64 0, .int .i64 0, .int .i64 0, .int .i64 0], eqn := false } := rfl
theorem Tryz.tyV137 : Tryz.tyV 137 = { sz := 6, bytes := 48, kd := .strct [(0, 29)], zero := .agg [.int .i64 0, .int .i64 0, .int .i64 0, .int .i64 0, .int .i64 0, .int .i64 0], eqn := false } := rfl
theorem Tryz.tyV140 : Tryz.tyV 140 = { sz := 1, bytes := 8, kd := .map 3 3, zero := .nilmap, eqn := false } := rfl
theorem Tryz.tyV143 : Tryz.tyV 143 = { sz := 1, bytes := 8, kd := .func, zero := .nilfn, eqn := false } := rfl
theorem Tryz.tyV147 : Tryz.tyV 147 = { sz := 1, bytes := 8, kd := .int .i64, zero := .int .i64 0, eqn := false } := rfl
theorem Tryz.tyV155 : Tryz.tyV 155 = { sz := 1, bytes := 4, kd := .int .u32, zero := .int .u32 0, eqn := false } := rfl
theorem Tryz.tyV157 : Tryz.tyV 157 = { sz := 1, bytes := 24, kd := .slice 23, zero := .list .full 0 [], eqn := false } := rfl
theorem Tryz.tyV161 : Tryz.tyV 161 = { sz := 1, bytes := 8, kd := .int .u64, zero := .int .u64 0, eqn := false } := rfl
theorem Tryz.tyV164 : Tryz.tyV 164 = { sz := 1, bytes := 8, kd := .ptr 3, zero := .nilptr, eqn := false } := rfl
theorem Tryz.tyV167 : Tryz.tyV 167 = { sz := 1, bytes := 8, kd := .ptr 161, zero := .nilptr, eqn := false } := rfl
theorem Tryz.tyV172 : Tryz.tyV 172 = { sz := 4, bytes := 40, kd := .strct [(0, 17), (1, 17), (2, 17), (3, 9)], zero := .agg [.nilptr, .nilptr, .nilptr, .str ByteArray.empty], eqn := false } := rfl
theorem Tryz.tyV173 : Tryz.tyV 173 = { sz := 0, bytes := 0, kd := .arr 0 16, zero := .agg [], eqn := false } := rfl
theorem Tryz.tyV175 : Tryz.tyV 175 = { sz := 0, bytes := 0, kd := .strct [(0, 173)], zero := .agg [], eqn := false } := rfl
theorem Tryz.tyV177 : Tryz.tyV 177 = { sz := 1, bytes := 1, kd := .int .u8, zero := .int .u8 0, eqn := false } := rfl
theorem Tryz.tyV178 : Tryz.tyV 178 = { sz := 1, bytes := 1, kd := .int .u8, zero := .int .u8 0, eqn := false } := rfl
theorem Tryz.tyV179 : Tryz.tyV 179 = { sz := 1, bytes := 8, kd := .func, zero := .nilfn, eqn := false } := rfl
theorem Tryz.tyV180 : Tryz.tyV 180 = { sz := 1, bytes := 8, kd := .ptr 5, zero := .nilptr, eqn := false } := rfl
theorem Tryz.tyV181 : Tryz.tyV 181 = { sz := 1, bytes := 4, kd := .int .i32, zero := .int .i32 0, eqn := false } := rfl
theorem Tryz.tyV182 : Tryz.tyV 182 = { sz := 1, bytes := 4, kd := .int .i32, zero := .int .i32 0, eqn := false } := rfl
theorem Tryz.tyV184 : Tryz.tyV 184 = { sz := 11, bytes := 48, kd := .strct [(0, 12), (1, 12), (2, 155), (3, 177), (4, 5), (5, 5), (6, 178), (7, 179), (8, 180), (9, 181), (10, 182)], zero := .agg [.int .u64 0, .int .u64 0, .int .u32 0, .int .u8 0, .int .u8 0, .int .u8 0, .int .u8 0, .nilfn, .nilptr, .int .i32 0, .int .i32 0], eqn := false } := rfl
theorem Tryz.eqsOKV : EqsOK Tryz.prog Tryz.tyV := ⟨fun t h => Tryz.eqsOK.guard t (by rw [Tryz.tyV_eqn] at h; exact h), fun t h xs ys w h1 h2 => by
  rw [Tryz.tyV_eqn] at h; rw [Tryz.tyV_sz] at h1 h2; exact Tryz.eqsOK.eq t h xs ys w h1 h2⟩
noncomputable def Tryz.Ev (N : Nat) (ord : Nat → List Nat × List (Nat × List Nat)) (fs : FuncId → List AV → Option AV) : Env := { P := Tryz.prog, ty := Tryz.tyV, N := N, mt := Tryz.mt, ord := ord, fs := fs }
theorem Tryz.EvN {N : Nat} {ord : Nat → List Nat × List (Nat × List Nat)} {fs : FuncId → List AV → Option AV} : (Tryz.Ev N ord fs).N = N := rfl
theorem Tryz.Evmt {N : Nat} {ord : Nat → List Nat × List (Nat × List Nat)} {fs : FuncId → List AV → Option AV} : (Tryz.Ev N ord fs).mt = Tryz.mt := rfl
theorem Tryz.EvP {N : Nat} {ord : Nat → List Nat × List (Nat × List Nat)} {fs : FuncId → List AV → Option AV} : (Tryz.Ev N ord fs).P = Tryz.prog := rfl
theorem Tryz.Evty {N : Nat} {ord : Nat → List Nat × List (Nat × List Nat)} {fs : FuncId → List AV → Option AV} : (Tryz.Ev N ord fs).ty = Tryz.tyV := rfl
theorem Tryz.Evord {N : Nat} {ord : Nat → List Nat × List (Nat × List Nat)} {fs : FuncId → List AV → Option AV} : (Tryz.Ev N ord fs).ord = ord := rfl
theorem Tryz.Evfs {N : Nat} {ord : Nat → List Nat × List (Nat × List Nat)} {fs : FuncId → List AV → Option AV} : (Tryz.Ev N ord fs).fs = fs := rfl
theorem Tryz.envOKV (N : Nat) (ord : Nat → List Nat × List (Nat × List Nat)) (fs : FuncId → List AV → Option AV) (h : ∀ f xs v, fs f xs = some v → PureV Tryz.prog f xs v) : EnvOK (Tryz.Ev N ord fs) := ⟨Tryz.tysOKV, Tryz.eqsOKV, Tryz.mtOK, by kernel_rfl, h⟩
attribute [go_sem] Tryz.tyV2 Tryz.tyV3 Tryz.tyV4 Tryz.tyV5 Tryz.tyV6 Tryz.tyV8 Tryz.tyV9 Tryz.tyV10 Tryz.tyV11 Tryz.tyV12 Tryz.tyV14 Tryz.tyV15
attribute [go_sem] Tryz.tyV16 Tryz.tyV17 Tryz.tyV19 Tryz.tyV20 Tryz.tyV22 Tryz.tyV23 Tryz.tyV25 Tryz.tyV27 Tryz.tyV29 Tryz.tyV30 Tryz.tyV33 Tryz.tyV38
attribute [go_sem] Tryz.tyV40 Tryz.tyV53 Tryz.tyV65 Tryz.tyV74 Tryz.tyV76 Tryz.tyV77 Tryz.tyV81 Tryz.tyV82 Tryz.tyV85 Tryz.tyV90 Tryz.tyV91 Tryz.tyV95
attribute [go_sem] Tryz.tyV105 Tryz.tyV107 Tryz.tyV111 Tryz.tyV113 Tryz.tyV120 Tryz.tyV121 Tryz.tyV123 Tryz.tyV125 Tryz.tyV129 Tryz.tyV130 Tryz.tyV134 Tryz.tyV136
attribute [go_sem] Tryz.tyV137 Tryz.tyV140 Tryz.tyV143 Tryz.tyV147 Tryz.tyV155 Tryz.tyV157 Tryz.tyV161 Tryz.tyV164 Tryz.tyV167 Tryz.tyV172 Tryz.tyV173 Tryz.tyV175
attribute [go_sem] Tryz.tyV177 Tryz.tyV178 Tryz.tyV179 Tryz.tyV180 Tryz.tyV181 Tryz.tyV182 Tryz.tyV184 Tryz.EvN Tryz.Evmt Tryz.EvP Tryz.Evty Tryz.Evord
attribute [go_sem] Tryz.Evfs
end Go.Proofs
set_option linter.unusedSimpArgs false
set_option linter.unusedVariables false
set_option maxRecDepth 100000
namespace Go.Proofs
open Go Go.Mu

theorem ARun.loopA {E : Env} {ro : Option Nat} {c : Code} {k : List Item} {kp : Nat → Bool} {tm sl : List (Nat × AV)} {σ : List AObj} {Q : Post} {α : Type} (m : α → Nat) (J : α → List AObj → Prop) (lv : α → List (Nat × AV)) (x0 : α)
    (h0 : subF (upd sl (lv x0)) sl) (hJ : J x0 σ)
    (hs : ∀ x τ, J x τ → (∀ y τ', m y < m x → J y τ' → ARun E ro (.inLoop c :: k) ⟨kp, [], upd sl (lv y)⟩ τ' Q) → ARun E ro (.code c :: .inLoop c :: k) ⟨kp, [], upd sl (lv x)⟩ τ Q) : ARun E ro (.code (.loop c) :: k) ⟨kp, tm, sl⟩ σ Q := by
  have key : ∀ n x τ, m x = n → J x τ → ARun E ro (.code c :: .inLoop c :: k) ⟨kp, [], upd sl (lv x)⟩ τ Q := by
    intro n
    induction n using Nat.strongRecOn with
    | _ n ih =>
      intro x τ hm hj
      exact hs x τ hj fun y τ' hlt hy => .inLoop (ih (m y) (by omega) y τ' rfl hy)
  exact .loop (ARun.sub (key _ x0 σ rfl hJ) h0)
theorem intsV_c (l : List Int) (tk : Tok) (hl : l.length ≤ 4294967296) (σ : List AObj) (Q : AV → List AObj → Prop) (h : Q (.vec σ.length l.length) (σ ++ [.vec 1 (l.map (.int .i64))])) :
    ACalls Tryz.prog 66 [.list tk 1 (l.map (.int .i64))] σ Q := by
  refine ACalls.of_ev (E := Tryz.Ev 6 (fun _ => ([], [])) fs0) (Tryz.envOKV 6 (fun _ => ([], [])) fs0 fs0_ok) Tryz.kp66 Tryz.func66 rfl (by kernel_rfl) (by simp [Tryz.Ev]) (Callable.of Tryz.func66 (by kernel_rfl) (by kernel_rfl)) (by kernel_rfl) ?_
  simp -implicitDefEqProofs (maxSteps := 2000000) (disch := omega) only [go_sem, reduceCtorEq, Nat.reduceAdd, Nat.reduceSub, Nat.reduceMul, Nat.reduceLT, Nat.reduceLeDiff, Nat.reduceEqDiff, Nat.reduceBEq, Int.reduceToNat, Int.reduceLT, Int.reduceLE, Int.reduceEq, Int.reduceNeg, Int.reduceAdd, Int.reduceSub, Int.reduceMul, ↓reduceIte, Int.reduceBEq, Int.reduceBNe]
  exact h
theorem ck_set {e : Ear} {x : Rd} {k : Nat} (h : ck e = 0) (hx : ckR x e.tones.length = 0) : ck ⟨e.slack, e.tones, e.rds.set k x⟩ = 0 := by
  have hrd := ck_rd h
  have h2 : firstE (fun r => ckR r e.tones.length) (e.rds.set k x) = 0 := firstE_zero fun i hi => by
    rcases List.mem_or_eq_of_mem_set (List.getElem_mem hi) with hm | hm
    · exact hrd _ hm
    · rw [hm]; exact hx
  simp only [ck, List.length_set] at h ⊢
  rw [h2]
  grind
set_option maxHeartbeats 4000000 in
theorem shaken_c (r : Nat) (m n w : Int) (hm : 1 ≤ m ∧ m ≤ 3) (hn : 0 ≤ n ∧ n ≤ 6) (hw : 0 ≤ w ∧ w ≤ 10) (σ : List AObj) (hp : PotAt σ r) (Q : AV → List AObj → Prop)
    (h : ∀ s' e junk q, ck e = 0 → 1 ≤ e.tones.length → (e.tones.length : Int) ≤ m → (e.rds.length : Int) ≤ n → σ.length ≤ q → hget (pw σ r s' ++ junk) q = some (.vec 6 (e.rds.map Rd.av)) → Q (.agg [.int .i64 e.slack, .list .no 2 (e.tones.map Rng.av), .vec q e.rds.length]) (pw σ r s' ++ junk)) :
    ACalls Tryz.prog 23 [.ptr r 0, .int .i64 m, .int .i64 n, .int .i64 w] σ Q := by
  refine ACalls.of_ev (E := Tryz.E 61 Tryz.ord23 fs0) (Tryz.envOK 61 Tryz.ord23 fs0 fs0_ok) Tryz.kp23 Tryz.func23 rfl (by kernel_rfl) (by simp [Tryz.E]) (Callable.of Tryz.func23 (by kernel_rfl) (by kernel_rfl)) (by kernel_rfl) ?_
  have hr := hp.lt
  simp -implicitDefEqProofs (maxSteps := 2000000) (disch := omega) only [go_sem, reduceCtorEq, Nat.reduceAdd, Nat.reduceSub, Nat.reduceMul, Nat.reduceLT, Nat.reduceLeDiff, Nat.reduceEqDiff, Nat.reduceBEq, Int.reduceToNat, Int.reduceLT, Int.reduceLE, Int.reduceEq, Int.reduceNeg, Int.reduceAdd, Int.reduceSub, Int.reduceMul, ↓reduceIte, Int.reduceBEq, Int.reduceBNe]
  refine earOf_v r m n w hm hn hw _ hp.app _ fun s1 e T junk1 q hE hq hv => ?_
  simp only [pw_app hr, List.append_assoc, List.cons_append, List.nil_append, List.length_append, List.length_cons, List.length_nil, Nat.zero_add] at hq hv ⊢
  have hck := hE.ck
  have hlo := hE.lo
  have hhi := hE.hi
  have hlen := hE.len
  have hrs := hE.rn
  have hbd := hE.bd
  have hsl := hE.sl
  obtain ⟨sl, ts, rs⟩ := e
  simp only at hlen hrs hsl hv
  have hvq : ∀ s2 X, hget (pw σ r s2 ++ .cells [.int .i64 0, .list .full 0 [], .list .full 0 []] :: (junk1 ++ X)) q = some (.vec 6 (rs.map Rd.av)) := fun s2 X => by
    have h2 := hv s2
    have e : pw σ r s2 ++ .cells [.int .i64 0, .list .full 0 [], .list .full 0 []] :: (junk1 ++ X) = (pw σ r s2 ++ .cells [.int .i64 0, .list .full 0 [], .list .full 0 []] :: junk1) ++ X := by simp
    rw [e, hget_app (hget_lt h2)]; exact h2
  have hqr : r ≠ q := by omega
  clear hE hv
  have hset0 : ∀ s2 X o, hset (pw σ r s2 ++ X) σ.length o = pw σ r s2 ++ X.set 0 o := fun s2 X o => hset_pw0
  have hfin : ∀ s2 X sl' ts' rs', hget (pw σ r s2 ++ X) q = some (.vec 6 (List.map Rd.av rs')) → ck ⟨sl', ts', rs'⟩ = 0 → 1 ≤ ts'.length → (ts'.length : Int) ≤ m → (rs'.length : Int) ≤ n → Q (.agg [.int .i64 sl', .list .no 2 (ts'.map Rng.av), .vec q rs'.length]) (pw σ r s2 ++ X) := fun s2 X sl' ts' rs' g1 g2 g3 g4 g5 => h s2 ⟨sl', ts', rs'⟩ X q g2 g3 g4 g5 (by omega) g1
  clear h
  have hz : ∀ s2 X o, hget (pw σ r s2 ++ .cells [.int .i64 sl, .list .no 2 (ts.map Rng.av), o] :: (junk1 ++ X)) q = some (.vec 6 (rs.map Rd.av)) := fun s2 X o => by
    have h2 := hvq s2 X
    have hne : σ.length ≠ q := by omega
    have e : pw σ r s2 ++ .cells [.int .i64 sl, .list .no 2 (ts.map Rng.av), o] :: (junk1 ++ X) = hset (pw σ r s2 ++ .cells [.int .i64 0, .list .full 0 [], .list .full 0 []] :: (junk1 ++ X)) σ.length (.cells [.int .i64 sl, .list .no 2 (ts.map Rng.av), o]) := by rw [hset_pw0]; rfl
    rw [e, hget_ne hne]; exact h2
  by_cases hn0 : 0 < rs.length
  · simp -implicitDefEqProofs (maxSteps := 2000000) (disch := omega) only [go_sem, reduceCtorEq, Nat.reduceAdd, Nat.reduceSub, Nat.reduceMul, Nat.reduceLT, Nat.reduceLeDiff, Nat.reduceEqDiff, Nat.reduceBEq, Int.reduceToNat, Int.reduceLT, Int.reduceLE, Int.reduceEq, Int.reduceNeg, Int.reduceAdd, Int.reduceSub, Int.reduceMul, ↓reduceIte, Int.reduceBEq, Int.reduceBNe, length_pw, hget_pw0, hget_pw, hset_pw0, hset_pw]
    refine odds_c r 1 2 (by omega) (by omega) _ (hp.pw _).app _ fun s2 b => ?_
    rw [pw_pwa hr]
    cases b
    · simp -implicitDefEqProofs (maxSteps := 2000000) (disch := omega) only [go_sem, reduceCtorEq, Nat.reduceAdd, Nat.reduceSub, Nat.reduceMul, Nat.reduceLT, Nat.reduceLeDiff, Nat.reduceEqDiff, Nat.reduceBEq, Int.reduceToNat, Int.reduceLT, Int.reduceLE, Int.reduceEq, Int.reduceNeg, Int.reduceAdd, Int.reduceSub, Int.reduceMul, ↓reduceIte, Int.reduceBEq, Int.reduceBNe, length_pw, hget_pw0, hget_pw, hset_pw0, hset_pw]
      exact hfin _ _ sl ts rs (hz _ _ _) hck (by omega) (by omega) (by omega)
    · simp -implicitDefEqProofs (maxSteps := 2000000) (disch := omega) only [go_sem, reduceCtorEq, Nat.reduceAdd, Nat.reduceSub, Nat.reduceMul, Nat.reduceLT, Nat.reduceLeDiff, Nat.reduceEqDiff, Nat.reduceBEq, Int.reduceToNat, Int.reduceLT, Int.reduceLE, Int.reduceEq, Int.reduceNeg, Int.reduceAdd, Int.reduceSub, Int.reduceMul, ↓reduceIte, Int.reduceBEq, Int.reduceBNe, length_pw, hget_pw0, hget_pw, hset_pw0, hset_pw]
      refine intsV_c T .no (by omega) _ _ ?_
      simp -implicitDefEqProofs (maxSteps := 2000000) (disch := omega) only [go_sem, reduceCtorEq, Nat.reduceAdd, Nat.reduceSub, Nat.reduceMul, Nat.reduceLT, Nat.reduceLeDiff, Nat.reduceEqDiff, Nat.reduceBEq, Int.reduceToNat, Int.reduceLT, Int.reduceLE, Int.reduceEq, Int.reduceNeg, Int.reduceAdd, Int.reduceSub, Int.reduceMul, ↓reduceIte, Int.reduceBEq, Int.reduceBNe, length_pw, hget_pw0, hget_pw, hset_pw0, hset_pw]
      refine ARun.loopA (α := Nat × List Int) (fun a => T.length - a.1) (fun a τ => (∃ s, τ = pw σ r s ++ (.cells [.int .i64 0, .list .full 0 [], .list .full 0 []] :: (junk1 ++ [.cells [.int .i64 sl, .list .no 2 (ts.map Rng.av), .vec q rs.length], .vec 1 (a.2.map (.int .i64))]))) ∧ a.1 ≤ T.length ∧ a.2.length = T.length ∧ (∀ i (h : i < a.2.length), 50 ≤ a.2[i] ∧ a.2[i] ≤ 50036 ∧ (a.1 ≤ i → a.2[i] ≤ 50030)))
        (fun a => [(13, .int .i64 a.1)]) (0, T) (by simp [upd, ins, subF, lookA]) ⟨⟨s2, rfl⟩, by simp, rfl, fun i h => by have := hbd _ (List.getElem_mem h); exact ⟨this.1, by simp only at this ⊢; omega, fun _ => this.2⟩⟩ ?_
      rintro ⟨k, U⟩ τ ⟨⟨s3, rfl⟩, hk, hU, hUb⟩ ih
      simp only at hk hU hUb ih ⊢
      by_cases hlt : k < T.length
      · have hUk : (U.map (AV.int .i64))[k]? = some (.int .i64 U[k]) := by simp [List.getElem?_eq_getElem (show k < U.length by omega)]
        have hb := hUb k (by omega)
        refine ev_sound (Tryz.envOK 61 Tryz.ord23 fs0 fs0_ok) (n := 1000) (by kernel_rfl) ?_
        simp -implicitDefEqProofs (maxSteps := 2000000) (disch := omega) only [go_sem, reduceCtorEq, Nat.reduceAdd, Nat.reduceSub, Nat.reduceMul, Nat.reduceLT, Nat.reduceLeDiff, Nat.reduceEqDiff, Nat.reduceBEq, Int.reduceToNat, Int.reduceLT, Int.reduceLE, Int.reduceEq, Int.reduceNeg, Int.reduceAdd, Int.reduceSub, Int.reduceMul, ↓reduceIte, Int.reduceBEq, Int.reduceBNe, length_pw, hget_pw0, hget_pw, hset_pw0, hset_pw, hUk]
        refine upto_c r 6 (by omega) _ (hp.pw _).app _ fun s4 u hu1 hu2 => ?_
        rw [pw_pwa hr]
        have hu : 0 ≤ u ∧ u ≤ 6 := by omega
        clear hu1 hu2
        simp -implicitDefEqProofs (maxSteps := 2000000) (disch := omega) only [go_sem, reduceCtorEq, Nat.reduceAdd, Nat.reduceSub, Nat.reduceMul, Nat.reduceLT, Nat.reduceLeDiff, Nat.reduceEqDiff, Nat.reduceBEq, Int.reduceToNat, Int.reduceLT, Int.reduceLE, Int.reduceEq, Int.reduceNeg, Int.reduceAdd, Int.reduceSub, Int.reduceMul, ↓reduceIte, Int.reduceBEq, Int.reduceBNe, length_pw, hget_pw0, hget_pw, hset_pw0, hset_pw, hUk]
        refine (ih (k + 1, U.set k (U[k] + u)) _ (by simp only; omega) ⟨⟨s4, rfl⟩, by simp only; omega, by simp only [List.length_set]; exact hU, fun i hi => ?_⟩).castS (by simp [List.map_set]) (by simp [upd, ins, subF, lookA])
        simp only [List.length_set] at hi ⊢
        rw [List.getElem_set]
        split
        · omega
        · have := hUb i hi; omega
      · have hke : k = T.length := by omega
        subst hke
        clear ih
        refine ARun.freeze 12 (r := σ.length + (junk1.length + 1 + 1)) (n := T.length) (sz := 1) (xs := U.map (.int .i64)) rfl (by simp [upd, ins, lookA]) (by rw [hget_pw]; simp) (by simpa using hU) ?_
        have hz2 : ∀ s, hget (pw σ r s ++ .cells [.int .i64 0, .list .full 0 [], .list .full 0 []] :: (junk1 ++ [.cells [.int .i64 sl, .list .no 2 (ts.map Rng.av), .vec q rs.length], .dead])) q = some (.vec 6 (rs.map Rd.av)) := fun s => hvq s _
        have hUs : ∀ x ∈ U, 1 ≤ x ∧ x ≤ 100000 := fun x hx => by
          obtain ⟨i, hi, rfl⟩ := List.mem_iff_getElem.1 hx
          have := hUb i hi; omega
        simp only [ins, upd, hset_pw, ↓reduceIte, Nat.reduceEqDiff]
        refine ev_sound (Tryz.envOK 61 Tryz.ord23 fs0 fs0_ok) (n := 1000) (by kernel_rfl) ?_
        simp -implicitDefEqProofs (maxSteps := 2000000) (disch := omega) only [go_sem, reduceCtorEq, Nat.reduceAdd, Nat.reduceSub, Nat.reduceMul, Nat.reduceLT, Nat.reduceLeDiff, Nat.reduceEqDiff, Nat.reduceBEq, Int.reduceToNat, Int.reduceLT, Int.reduceLE, Int.reduceEq, Int.reduceNeg, Int.reduceAdd, Int.reduceSub, Int.reduceMul, ↓reduceIte, Int.reduceBEq, Int.reduceBNe, length_pw, hget_pw0, hget_pw, hset_pw0, hset_pw, hU]
        refine upto_c r _ (by omega) _ (hp.pw _).app _ fun s4 kx hk1 hk2 => ?_
        rw [pw_pwa hr]
        have hkx : 0 ≤ kx ∧ kx < rs.length := by omega
        clear hk1 hk2
        simp -implicitDefEqProofs (maxSteps := 2000000) (disch := omega) only [go_sem, reduceCtorEq, Nat.reduceAdd, Nat.reduceSub, Nat.reduceMul, Nat.reduceLT, Nat.reduceLeDiff, Nat.reduceEqDiff, Nat.reduceBEq, Int.reduceToNat, Int.reduceLT, Int.reduceLE, Int.reduceEq, Int.reduceNeg, Int.reduceAdd, Int.reduceSub, Int.reduceMul, ↓reduceIte, Int.reduceBEq, Int.reduceBNe, length_pw, hget_pw0, hget_pw, hset_pw0, hset_pw, hU]
        refine readingOf_v r sl ts q rs.length U .no (by omega) (by omega) hUs _ (hp.pw _).app _ fun s5 x junk2 hx1 hx2 => ?_
        rw [pw_pwa hr]
        simp only [List.append_assoc, List.cons_append, List.nil_append]
        have htq := hvq s5 (.cells [.int .i64 sl, .list .no 2 (ts.map Rng.av), .vec q rs.length] :: .dead :: junk2)
        have ht8 : hget (pw σ r s5 ++ .cells [.int .i64 0, .list .full 0 [], .list .full 0 []] :: (junk1 ++ .cells [.int .i64 sl, .list .no 2 (ts.map Rng.av), .vec q rs.length] :: .dead :: junk2)) σ.length = some (.cells [.int .i64 0, .list .full 0 [], .list .full 0 []]) := by rw [hget_pw0]; rfl
        have ht9 : hget (pw σ r s5 ++ .cells [.int .i64 0, .list .full 0 [], .list .full 0 []] :: (junk1 ++ .cells [.int .i64 sl, .list .no 2 (ts.map Rng.av), .vec q rs.length] :: .dead :: junk2)) (σ.length + (junk1.length + 1)) = some (.cells [.int .i64 sl, .list .no 2 (ts.map Rng.av), .vec q rs.length]) := by rw [hget_pw]; simp
        have hL : ∃ X : AObj → AObj → List AObj, ∀ o c, hset (hset (pw σ r s5 ++ .cells [.int .i64 0, .list .full 0 [], .list .full 0 []] :: (junk1 ++ .cells [.int .i64 sl, .list .no 2 (ts.map Rng.av), .vec q rs.length] :: .dead :: junk2)) q o) σ.length c = pw σ r s5 ++ X o c := by
          obtain ⟨k, rfl⟩ : ∃ k, q = σ.length + k := ⟨q - σ.length, by omega⟩
          exact ⟨_, fun o c => by rw [hset_pw, hset_pw0]⟩
        obtain ⟨X, hX⟩ := hL
        have hpt : PotAt (pw σ r s5 ++ .cells [.int .i64 0, .list .full 0 [], .list .full 0 []] :: (junk1 ++ .cells [.int .i64 sl, .list .no 2 (ts.map Rng.av), .vec q rs.length] :: .dead :: junk2)) r := (hp.pw _).app
        generalize pw σ r s5 ++ .cells [.int .i64 0, .list .full 0 [], .list .full 0 []] :: (junk1 ++ .cells [.int .i64 sl, .list .no 2 (ts.map Rng.av), .vec q rs.length] :: .dead :: junk2) = τ at htq ht8 ht9 hX hpt ⊢
        have n8 : q ≠ σ.length := by omega
        have n9 : q ≠ σ.length + (junk1.length + 1) := fun e => by rw [e, ht9] at htq; cases htq
        generalize σ.length + (junk1.length + 1) = R9 at ht9 n9 ⊢
        have k9 : ∀ o, hget (hset τ q o) R9 = some (.cells [.int .i64 sl, .list .no 2 (ts.map Rng.av), .vec q rs.length]) := fun o => by rw [hget_ne n9]; exact ht9
        have k8 : ∀ o, hget (hset τ q o) σ.length = some (.cells [.int .i64 0, .list .full 0 [], .list .full 0 []]) := fun o => by rw [hget_ne n8]; exact ht8
        have k88 : ∀ o c, hget (hset (hset τ q o) σ.length c) σ.length = some c := fun o c => hget_set (k8 o) c
        have kqq : ∀ o c, hget (hset (hset τ q o) σ.length c) q = some o := fun o c => by rw [hget_ne (fun e => n8 e.symm)]; exact hget_set htq o
        have hrk : (rs.map Rd.av)[kx.toNat]? = some rs[kx.toNat].av := by simp [List.getElem?_eq_getElem (show kx.toNat < rs.length by omega)]
        rw [hU, ← hlen] at hx1
        obtain ⟨x1, x2, x3, x4, ⟨x5, x6⟩⟩ := x
        generalize rs[kx.toNat] = y at hrk
        obtain ⟨y1, y2, y3, y4, ⟨y5, y6⟩⟩ := y
        simp only [Rd.av] at hrk
        simp only [Rd.av]
        simp -implicitDefEqProofs (maxSteps := 2000000) (disch := omega) only [go_sem, reduceCtorEq, Nat.reduceAdd, Nat.reduceSub, Nat.reduceMul, Nat.reduceLT, Nat.reduceLeDiff, Nat.reduceEqDiff, Nat.reduceBEq, Int.reduceToNat, Int.reduceLT, Int.reduceLE, Int.reduceEq, Int.reduceNeg, Int.reduceAdd, Int.reduceSub, Int.reduceMul, ↓reduceIte, Int.reduceBEq, Int.reduceBNe, length_pw, hget_pw0, hget_pw, hset_pw0, hset_pw, htq, ht9, k9, k8, k88, hrk]
        have e : (rs.map Rd.av).set kx.toNat (.agg [.int .i64 x1, .int .i64 x2, .int .i64 x3, .int .i64 x4, .int .i64 x5, .int .i64 x6]) = (rs.set kx.toNat ⟨x1, x2, x3, x4, ⟨x5, x6⟩⟩).map Rd.av := by rw [List.map_set]; rfl
        rw [e]
        have hv9 := kqq (.vec 6 ((rs.set kx.toNat ⟨x1, x2, x3, x4, ⟨x5, x6⟩⟩).map Rd.av)) (.cells [.int .i64 sl, .list .no 2 (ts.map Rng.av), .vec q rs.length])
        rw [hX] at hv9 ⊢
        have hf := hfin _ _ sl ts (rs.set kx.toNat ⟨x1, x2, x3, x4, ⟨x5, x6⟩⟩) hv9 (ck_set hck hx1) (by omega) (by omega) (by rw [List.length_set]; omega)
        rw [List.length_set] at hf
        exact hf
  · simp -implicitDefEqProofs (maxSteps := 2000000) (disch := omega) only [go_sem, reduceCtorEq, Nat.reduceAdd, Nat.reduceSub, Nat.reduceMul, Nat.reduceLT, Nat.reduceLeDiff, Nat.reduceEqDiff, Nat.reduceBEq, Int.reduceToNat, Int.reduceLT, Int.reduceLE, Int.reduceEq, Int.reduceNeg, Int.reduceAdd, Int.reduceSub, Int.reduceMul, ↓reduceIte, Int.reduceBEq, Int.reduceBNe, length_pw, hget_pw0, hget_pw, hset_pw0, hset_pw]
    exact hfin _ _ sl ts rs (hz _ _ _) hck (by omega) (by omega) (by omega)
end Go.Proofs
set_option linter.unusedSimpArgs false
set_option linter.unusedVariables false
namespace Go.Mu
open Go

/-- A variable's vector is written into no more: objects alone. -/
theorem R.freezeK {K : Kr} {σ : List AObj} {w : World} (hR : R K σ w) (q k : Nat) {r n sz : Nat} {xs cs : List AV} (hq : hget σ q = some (.cells cs)) (hk : cs[k]? = some (.vec r n)) (hg : hget σ r = some (.vec sz xs)) (hn : xs.length = n) :
    ∃ K', R K' (hset (hset σ r .dead) q (.cells (cs.set k (.list .no sz xs)))) w ∧ Step K σ w K' (hset (hset σ r .dead) q (.cells (cs.set k (.list .no sz xs)))) w ∧ ∀ c, VR K σ.length (.vec r n) c → VR K' σ.length (.list .no sz xs) c := by
  subst hn
  obtain ⟨K', r1, r2, hv⟩ := hR.freeze hg
  have hne : r ≠ q := fun e => by subst e; rw [hg] at hq; cases hq
  have hq' : hget (hset σ r .dead) q = some (.cells cs) := by rw [hget_ne hne]; exact hq
  obtain ⟨cc, T, h1, h2, h3, h4⟩ := hR.obj q _ hq
  obtain ⟨cc', T', g1, g2, g3, g4⟩ := r1.obj q _ hq'
  have hφ : K'.φ q = K.φ q := r2.ext.φ q (hget_lt hq)
  rw [hφ, h1] at g1
  simp only [Option.some.injEq, Obj.cells.injEq, and_true] at g1
  obtain ⟨rfl, rfl⟩ := g1
  obtain ⟨hkl, hke⟩ := List.getElem?_eq_some_iff.1 hk
  have h2' : VRs K' (hset σ r .dead).length (cs.set k (.list .no sz xs)) cc.toList := by
    rw [hsl_dead]
    rw [hsl_dead] at g2
    refine ⟨by rw [List.length_set]; exact h2.1, fun i h5 h6 => ?_⟩
    by_cases e : k = i
    · subst e
      rw [List.getElem_set_self]
      have := h2.2 k hkl h6
      rw [hke] at this
      exact hv _ this
    · rw [List.getElem_set_ne e]
      exact g2.2 i (by rw [List.length_set] at h5; exact h5) h6
  obtain ⟨s1, s2⟩ := r1.turn (o' := .cells (cs.set k (.list .no sz xs))) hq' (K'.φ q) rfl K' (.refl _ _) (fun _ _ => rfl) (fun _ _ => rfl) rfl (fun _ _ _ => rfl) (fun p v hv => r1.stab _ _ _ hv) (fun b hb => hb) ⟨cc, T, by rw [hφ]; exact h1, h2', h3, g4⟩ rfl rfl rfl
  exact ⟨K', s1, r2.trans s2, hv⟩
/-- At a call, a part of the argument is written into no more. -/
theorem ACalls.freezeA {P : Program} {f : FuncId} {σ : List AObj} {Q : AV → List AObj → Prop} (q k : Nat) {r n sz : Nat} {xs cs : List AV} (hq : hget σ q = some (.cells cs)) (hk : cs[k]? = some (.vec r n)) (hg : hget σ r = some (.vec sz xs)) (hn : xs.length = n)
    (h : ACalls P f [.agg (cs.set k (.list .no sz xs))] (hset (hset σ r .dead) q (.cells (cs.set k (.list .no sz xs)))) Q) : ACalls P f [.agg cs] σ Q := by
  refine ⟨h.1, fun K w cargs hR hV => ?_⟩
  obtain ⟨K', r1, r2, hv⟩ := hR.freezeK q k hq hk hg hn
  have hlen : (hset (hset σ r AObj.dead) q (AObj.cells (cs.set k (.list .no sz xs)))).length = σ.length := by simp [hset]
  obtain ⟨hkl, hke⟩ := List.getElem?_eq_some_iff.1 hk
  refine (h.2 K' w cargs r1 ?_).mono fun e w' ⟨v, c, σ', K2, h1, h2, h3, h4, h5⟩ => ⟨v, c, σ', K2, h1, h2, h3, h4, r2.trans h5⟩
  rw [hlen]
  refine ⟨hV.1, fun i h1 h2 => ?_⟩
  have h0 : i = 0 := by simpa using h1
  subst h0
  have hv0 := hV.2 0 (by simp) h2
  simp only [List.getElem_cons_zero] at hv0 ⊢
  generalize cargs.toList[0] = c0 at hv0
  cases hv0 with
  | agg _ cs' hl h1' hh =>
    refine .agg _ cs' (by rw [List.length_set]; exact hl) h1' fun i h5 h6 => ?_
    have h7 : i < cs.length := by rw [List.length_set] at h5; exact h5
    by_cases e : k = i
    · subst e
      rw [List.getElem_set_self]
      have := hh k hkl h6
      rw [hke] at this
      exact hv _ this
    · rw [List.getElem_set_ne e]
      exact (hh i h7 h6).mono r2.ext (Nat.le_refl _)
end Go.Mu
set_option linter.unusedSimpArgs false
set_option linter.unusedVariables false
namespace Go.Mu
open Go

/-- The number of a code's first region. -/
def Code.first : Code → Nat
  | .region id _ _ => id + 1
  | .seq a _ => Code.first a
  | .block _ a => Code.first a
  | .loop a => Code.first a
  | .scope a => Code.first a
  | _ => 0
/-- The body of the loop that begins with a region. -/
def Code.loopOf (n : Nat) : Code → Option Code
  | .seq a b => match Code.loopOf n a with
    | some c => some c
    | none => Code.loopOf n b
  | .cond _ a b => match Code.loopOf n a with
    | some c => some c
    | none => Code.loopOf n b
  | .block _ a => Code.loopOf n a
  | .scope a => Code.loopOf n a
  | .loop a => if Nat.beq (Code.first a) (n + 1) then some a else Code.loopOf n a
  | .rangeFunc _ _ a b => match Code.loopOf n a with
    | some c => some c
    | none => Code.loopOf n b
  | _ => none
def loopAt (f : Func) (n : Nat) : Code := match f.body with
  | some c => match Code.loopOf n c with
    | some d => d
    | none => .skip
  | none => .skip
theorem useLoop {P : Code → Prop} {c c' : Code} (h : c = c') (k : P c') : P c := h ▸ k
end Go.Mu
