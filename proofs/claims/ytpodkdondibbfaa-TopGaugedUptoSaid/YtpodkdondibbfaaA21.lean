/- Texts of a proof: lemmas. -/
import Derived.Test.YtpodkdondibbfaaA20
set_option linter.unusedSimpArgs false
set_option linter.unusedVariables false
set_option maxRecDepth 100000
namespace Go.Proofs
open Go Go.Mu

theorem length_pw {σ : List AObj} {r : Nat} {s : Int} : (pw σ r s).length = σ.length := length_hset
theorem hget_pw0 {σ l : List AObj} {r : Nat} {s : Int} : hget (pw σ r s ++ l) σ.length = l[0]? := by rw [← length_pw (σ := σ) (r := r) (s := s)]; exact hget_at0
theorem hget_pw {σ l : List AObj} {r k : Nat} {s : Int} : hget (pw σ r s ++ l) (σ.length + k) = l[k]? := by rw [← length_pw (σ := σ) (r := r) (s := s)]; exact hget_at
theorem hset_pw0 {σ l : List AObj} {r : Nat} {s : Int} {o : AObj} : hset (pw σ r s ++ l) σ.length o = pw σ r s ++ l.set 0 o := by rw [← length_pw (σ := σ) (r := r) (s := s)]; exact hset_at0
theorem hset_pw {σ l : List AObj} {r k : Nat} {s : Int} {o : AObj} : hset (pw σ r s ++ l) (σ.length + k) o = pw σ r s ++ l.set k o := by rw [← length_pw (σ := σ) (r := r) (s := s)]; exact hset_at
theorem pw_app {σ l : List AObj} {r : Nat} {s : Int} (hr : r < σ.length) : pw (σ ++ l) r s = pw σ r s ++ l := by unfold pw hset; rw [List.set_append_left _ _ hr]
theorem pw_pwa {σ l : List AObj} {r : Nat} {s t : Int} (hr : r < σ.length) : pw (pw σ r s ++ l) r t = pw σ r t ++ l := by
  rw [pw_app (by rw [length_pw]; exact hr), pw_pw]
theorem PotAt.app {σ l : List AObj} {r : Nat} (h : PotAt σ r) : PotAt (σ ++ l) r := by obtain ⟨s, hg⟩ := h; exact ⟨s, by rw [hget_app (hget_lt hg)]; exact hg⟩
theorem PotAt.lt {σ : List AObj} {r : Nat} (h : PotAt σ r) : r < σ.length := by obtain ⟨s, hg⟩ := h; exact hget_lt hg
set_option maxHeartbeats 2000000 in
theorem readingOf_c (r : Nat) (e : Ear) (T : List Int) (tk : Tok) (hsl : 0 ≤ e.slack ∧ e.slack ≤ 3) (hT : 1 ≤ T.length ∧ T.length ≤ 3) (hs : ∀ x ∈ T, 1 ≤ x ∧ x ≤ 100000) (σ : List AObj) (hp : PotAt σ r) (Q : AV → List AObj → Prop) (h : ∀ s' x junk, ckR x T.length = 0 → isR x e.slack T = true → Q x.av (pw σ r s' ++ junk)) :
    ACalls Try.prog 10 [.ptr r 0, e.av, .list tk 1 (T.map (.int .i64))] σ Q := by
  refine ACalls.of_ev (E := Try.E 125 Try.ord10 fs0) (Try.envOK 125 Try.ord10 fs0 fs0_ok) Try.kp10 Try.func10 rfl (by kernel_rfl) (by simp [Try.E]) (Callable.of Try.func10 (by kernel_rfl) (by kernel_rfl)) (by kernel_rfl) ?_
  have hr := hp.lt
  simp only [Ear.av]
  simp -implicitDefEqProofs (maxSteps := 2000000) (disch := omega) only [go_sem, reduceCtorEq, Nat.reduceAdd, Nat.reduceSub, Nat.reduceMul, Nat.reduceLT, Nat.reduceLeDiff, Nat.reduceEqDiff, Nat.reduceBEq, Int.reduceToNat, Int.reduceLT, Int.reduceLE, Int.reduceEq, Int.reduceNeg, Int.reduceAdd, Int.reduceSub, Int.reduceMul, ↓reduceIte, Int.reduceBEq, Int.reduceBNe, length_pw, hget_pw0, hget_pw, hset_pw0, hset_pw]
  refine of_c r [1, 1, 2, 2, 3] .full (by simp) _ hp.app _ fun s1 k hk => ?_
  rw [pw_app hr]
  simp -implicitDefEqProofs (maxSteps := 2000000) (disch := omega) only [go_sem, reduceCtorEq, Nat.reduceAdd, Nat.reduceSub, Nat.reduceMul, Nat.reduceLT, Nat.reduceLeDiff, Nat.reduceEqDiff, Nat.reduceBEq, Int.reduceToNat, Int.reduceLT, Int.reduceLE, Int.reduceEq, Int.reduceNeg, Int.reduceAdd, Int.reduceSub, Int.reduceMul, ↓reduceIte, Int.reduceBEq, Int.reduceBNe, length_pw, hget_pw0, hget_pw, hset_pw0, hset_pw]
  refine upto_c r _ (by omega) _ (hp.pw _).app _ fun s2 a ha1 ha2 => ?_
  rw [pw_pwa hr]
  simp -implicitDefEqProofs (maxSteps := 2000000) (disch := omega) only [go_sem, reduceCtorEq, Nat.reduceAdd, Nat.reduceSub, Nat.reduceMul, Nat.reduceLT, Nat.reduceLeDiff, Nat.reduceEqDiff, Nat.reduceBEq, Int.reduceToNat, Int.reduceLT, Int.reduceLE, Int.reduceEq, Int.reduceNeg, Int.reduceAdd, Int.reduceSub, Int.reduceMul, ↓reduceIte, Int.reduceBEq, Int.reduceBNe, length_pw, hget_pw0, hget_pw, hset_pw0, hset_pw]
  refine upto_c r _ (by omega) _ (hp.pw _).app _ fun s3 b hb1 hb2 => ?_
  rw [pw_pwa hr]
  simp -implicitDefEqProofs (maxSteps := 2000000) (disch := omega) only [go_sem, reduceCtorEq, Nat.reduceAdd, Nat.reduceSub, Nat.reduceMul, Nat.reduceLT, Nat.reduceLeDiff, Nat.reduceEqDiff, Nat.reduceBEq, Int.reduceToNat, Int.reduceLT, Int.reduceLE, Int.reduceEq, Int.reduceNeg, Int.reduceAdd, Int.reduceSub, Int.reduceMul, ↓reduceIte, Int.reduceBEq, Int.reduceBNe, length_pw, hget_pw0, hget_pw, hset_pw0, hset_pw]
  refine within_c r 1 20 (by omega) (by omega) _ (hp.pw _).app _ fun s4 sec hc1 hc2 => ?_
  rw [pw_pwa hr]
  have ha : 0 ≤ a ∧ a < T.length := by omega
  have hb : 0 ≤ b ∧ b < T.length := by omega
  have hk' : k = 1 ∨ k = 2 ∨ k = 3 := by simpa using hk
  have hsec : 1 ≤ sec ∧ sec ≤ 20 := by omega
  have hTa : 1 ≤ tg T a ∧ tg T a ≤ 100000 := by
    have hx : a.toNat < T.length := by omega
    have : tg T a = T[a.toNat] := by simp [tg, List.getD, List.getElem?_eq_getElem hx]
    rw [this]; exact hs _ (List.getElem_mem hx)
  have hTb : 1 ≤ tg T b ∧ tg T b ≤ 100000 := by
    have hx : b.toNat < T.length := by omega
    have : tg T b = T[b.toNat] := by simp [tg, List.getD, List.getElem?_eq_getElem hx]
    rw [this]; exact hs _ (List.getElem_mem hx)
  clear hk ha1 ha2 hb1 hb2 hc1 hc2
  have hn := mul_le (a := tg T a) (s := sec) (by omega) (by omega)
  obtain ⟨q, hq⟩ : ∃ q, (tg T a * sec).tdiv 100 = q := ⟨_, rfl⟩
  have hq2 : q = tg T a * sec / 100 := by rw [← hq]; exact Int.tdiv_eq_ediv_of_nonneg hn.1
  have hm2 : (tg T a * sec).tmod 100 = tg T a * sec % 100 := Int.tmod_eq_emod_of_nonneg hn.1
  have hq3 : tg T a * sec / 100 ≤ 20000 := by
    have := Int.mul_le_mul hTa.2 hsec.2 (by omega) (by omega)
    omega
  have hfin : ∀ s' lo hi junk c, (c = q ∨ c = q + 1 ∧ 0 < tg T a * sec % 100) → 0 ≤ lo → lo ≤ c → c ≤ hi → hi ≤ 25000 → Q (Rd.mk 1 a 0 sec ⟨lo, hi⟩).av (pw σ r s' ++ junk) := fun s' lo hi junk c hc l1 l2 l3 l4 => by
    refine h s' _ junk ?_ ?_
    · simp only [ckR]; grind
    · simp only [isR, if_true, decide_eq_true_eq]; omega
  by_cases hab : a = b
  · subst hab
    rcases hk' with rfl | rfl | rfl
    · skip
      simp -implicitDefEqProofs (maxSteps := 2000000) (disch := omega) only [go_sem, reduceCtorEq, Nat.reduceAdd, Nat.reduceSub, Nat.reduceMul, Nat.reduceLT, Nat.reduceLeDiff, Nat.reduceEqDiff, Nat.reduceBEq, Int.reduceToNat, Int.reduceLT, Int.reduceLE, Int.reduceEq, Int.reduceNeg, Int.reduceAdd, Int.reduceSub, Int.reduceMul, ↓reduceIte, Int.reduceBEq, Int.reduceBNe, length_pw, hget_pw0, hget_pw, hset_pw0, hset_pw, hq, hm2, idx_tg, Rng.av]
      refine ⟨fun hm0 => ?_, fun hm0 => ?_⟩
      · refine odds_c r 1 2 (by omega) (by omega) _ (hp.pw _).app _ fun s5 b5 => ?_
        rw [pw_pwa hr]
        cases b5
        · simp -implicitDefEqProofs (maxSteps := 2000000) (disch := omega) only [go_sem, reduceCtorEq, Nat.reduceAdd, Nat.reduceSub, Nat.reduceMul, Nat.reduceLT, Nat.reduceLeDiff, Nat.reduceEqDiff, Nat.reduceBEq, Int.reduceToNat, Int.reduceLT, Int.reduceLE, Int.reduceEq, Int.reduceNeg, Int.reduceAdd, Int.reduceSub, Int.reduceMul, ↓reduceIte, Int.reduceBEq, Int.reduceBNe, length_pw, hget_pw0, hget_pw, hset_pw0, hset_pw, hq, hm2, idx_tg, Rng.av]
          refine near_c r q 0 25000 1 (by omega) (by omega) _ (hp.pw _).app _ fun s6 lo hi l1 l2 l3 l4 l5 l6 junk => ?_
          rw [pw_pwa hr, List.append_assoc]
          simp -implicitDefEqProofs (maxSteps := 2000000) (disch := omega) only [go_sem, reduceCtorEq, Nat.reduceAdd, Nat.reduceSub, Nat.reduceMul, Nat.reduceLT, Nat.reduceLeDiff, Nat.reduceEqDiff, Nat.reduceBEq, Int.reduceToNat, Int.reduceLT, Int.reduceLE, Int.reduceEq, Int.reduceNeg, Int.reduceAdd, Int.reduceSub, Int.reduceMul, ↓reduceIte, Int.reduceBEq, Int.reduceBNe, length_pw, hget_pw0, hget_pw, hset_pw0, hset_pw, hq, hm2, idx_tg, Rng.av]
          exact hfin s6 lo hi _ q (.inl rfl) l1 l2 l3 l4
        · simp -implicitDefEqProofs (maxSteps := 2000000) (disch := omega) only [go_sem, reduceCtorEq, Nat.reduceAdd, Nat.reduceSub, Nat.reduceMul, Nat.reduceLT, Nat.reduceLeDiff, Nat.reduceEqDiff, Nat.reduceBEq, Int.reduceToNat, Int.reduceLT, Int.reduceLE, Int.reduceEq, Int.reduceNeg, Int.reduceAdd, Int.reduceSub, Int.reduceMul, ↓reduceIte, Int.reduceBEq, Int.reduceBNe, length_pw, hget_pw0, hget_pw, hset_pw0, hset_pw, hq, hm2, idx_tg, Rng.av]
          refine near_c r (q + 1) 0 25000 1 (by omega) (by omega) _ (hp.pw _).app _ fun s6 lo hi l1 l2 l3 l4 l5 l6 junk => ?_
          rw [pw_pwa hr, List.append_assoc]
          simp -implicitDefEqProofs (maxSteps := 2000000) (disch := omega) only [go_sem, reduceCtorEq, Nat.reduceAdd, Nat.reduceSub, Nat.reduceMul, Nat.reduceLT, Nat.reduceLeDiff, Nat.reduceEqDiff, Nat.reduceBEq, Int.reduceToNat, Int.reduceLT, Int.reduceLE, Int.reduceEq, Int.reduceNeg, Int.reduceAdd, Int.reduceSub, Int.reduceMul, ↓reduceIte, Int.reduceBEq, Int.reduceBNe, length_pw, hget_pw0, hget_pw, hset_pw0, hset_pw, hq, hm2, idx_tg, Rng.av]
          exact hfin s6 lo hi _ (q + 1) (.inr ⟨rfl, hm0⟩) l1 l2 l3 l4
      · skip
        refine near_c r q 0 25000 1 (by omega) (by omega) _ (hp.pw _).app _ fun s6 lo hi l1 l2 l3 l4 l5 l6 junk => ?_
        rw [pw_pwa hr, List.append_assoc]
        simp -implicitDefEqProofs (maxSteps := 2000000) (disch := omega) only [go_sem, reduceCtorEq, Nat.reduceAdd, Nat.reduceSub, Nat.reduceMul, Nat.reduceLT, Nat.reduceLeDiff, Nat.reduceEqDiff, Nat.reduceBEq, Int.reduceToNat, Int.reduceLT, Int.reduceLE, Int.reduceEq, Int.reduceNeg, Int.reduceAdd, Int.reduceSub, Int.reduceMul, ↓reduceIte, Int.reduceBEq, Int.reduceBNe, length_pw, hget_pw0, hget_pw, hset_pw0, hset_pw, hq, hm2, idx_tg, Rng.av]
        exact hfin s6 lo hi _ q (.inl rfl) l1 l2 l3 l4
    · skip
      simp -implicitDefEqProofs (maxSteps := 2000000) (disch := omega) only [go_sem, reduceCtorEq, Nat.reduceAdd, Nat.reduceSub, Nat.reduceMul, Nat.reduceLT, Nat.reduceLeDiff, Nat.reduceEqDiff, Nat.reduceBEq, Int.reduceToNat, Int.reduceLT, Int.reduceLE, Int.reduceEq, Int.reduceNeg, Int.reduceAdd, Int.reduceSub, Int.reduceMul, ↓reduceIte, Int.reduceBEq, Int.reduceBNe, length_pw, hget_pw0, hget_pw, hset_pw0, hset_pw, hq, hm2, idx_tg, Rng.av]
      refine ⟨fun hm0 => ?_, fun hm0 => ?_⟩
      · refine odds_c r 1 2 (by omega) (by omega) _ (hp.pw _).app _ fun s5 b5 => ?_
        rw [pw_pwa hr]
        cases b5
        · simp -implicitDefEqProofs (maxSteps := 2000000) (disch := omega) only [go_sem, reduceCtorEq, Nat.reduceAdd, Nat.reduceSub, Nat.reduceMul, Nat.reduceLT, Nat.reduceLeDiff, Nat.reduceEqDiff, Nat.reduceBEq, Int.reduceToNat, Int.reduceLT, Int.reduceLE, Int.reduceEq, Int.reduceNeg, Int.reduceAdd, Int.reduceSub, Int.reduceMul, ↓reduceIte, Int.reduceBEq, Int.reduceBNe, length_pw, hget_pw0, hget_pw, hset_pw0, hset_pw, hq, hm2, idx_tg, Rng.av]
          refine near_c r q 0 25000 1 (by omega) (by omega) _ (hp.pw _).app _ fun s6 lo hi l1 l2 l3 l4 l5 l6 junk => ?_
          rw [pw_pwa hr, List.append_assoc]
          simp -implicitDefEqProofs (maxSteps := 2000000) (disch := omega) only [go_sem, reduceCtorEq, Nat.reduceAdd, Nat.reduceSub, Nat.reduceMul, Nat.reduceLT, Nat.reduceLeDiff, Nat.reduceEqDiff, Nat.reduceBEq, Int.reduceToNat, Int.reduceLT, Int.reduceLE, Int.reduceEq, Int.reduceNeg, Int.reduceAdd, Int.reduceSub, Int.reduceMul, ↓reduceIte, Int.reduceBEq, Int.reduceBNe, length_pw, hget_pw0, hget_pw, hset_pw0, hset_pw, hq, hm2, idx_tg, Rng.av]
          exact hfin s6 lo hi _ q (.inl rfl) l1 l2 l3 l4
        · simp -implicitDefEqProofs (maxSteps := 2000000) (disch := omega) only [go_sem, reduceCtorEq, Nat.reduceAdd, Nat.reduceSub, Nat.reduceMul, Nat.reduceLT, Nat.reduceLeDiff, Nat.reduceEqDiff, Nat.reduceBEq, Int.reduceToNat, Int.reduceLT, Int.reduceLE, Int.reduceEq, Int.reduceNeg, Int.reduceAdd, Int.reduceSub, Int.reduceMul, ↓reduceIte, Int.reduceBEq, Int.reduceBNe, length_pw, hget_pw0, hget_pw, hset_pw0, hset_pw, hq, hm2, idx_tg, Rng.av]
          refine near_c r (q + 1) 0 25000 1 (by omega) (by omega) _ (hp.pw _).app _ fun s6 lo hi l1 l2 l3 l4 l5 l6 junk => ?_
          rw [pw_pwa hr, List.append_assoc]
          simp -implicitDefEqProofs (maxSteps := 2000000) (disch := omega) only [go_sem, reduceCtorEq, Nat.reduceAdd, Nat.reduceSub, Nat.reduceMul, Nat.reduceLT, Nat.reduceLeDiff, Nat.reduceEqDiff, Nat.reduceBEq, Int.reduceToNat, Int.reduceLT, Int.reduceLE, Int.reduceEq, Int.reduceNeg, Int.reduceAdd, Int.reduceSub, Int.reduceMul, ↓reduceIte, Int.reduceBEq, Int.reduceBNe, length_pw, hget_pw0, hget_pw, hset_pw0, hset_pw, hq, hm2, idx_tg, Rng.av]
          exact hfin s6 lo hi _ (q + 1) (.inr ⟨rfl, hm0⟩) l1 l2 l3 l4
      · skip
        refine near_c r q 0 25000 1 (by omega) (by omega) _ (hp.pw _).app _ fun s6 lo hi l1 l2 l3 l4 l5 l6 junk => ?_
        rw [pw_pwa hr, List.append_assoc]
        simp -implicitDefEqProofs (maxSteps := 2000000) (disch := omega) only [go_sem, reduceCtorEq, Nat.reduceAdd, Nat.reduceSub, Nat.reduceMul, Nat.reduceLT, Nat.reduceLeDiff, Nat.reduceEqDiff, Nat.reduceBEq, Int.reduceToNat, Int.reduceLT, Int.reduceLE, Int.reduceEq, Int.reduceNeg, Int.reduceAdd, Int.reduceSub, Int.reduceMul, ↓reduceIte, Int.reduceBEq, Int.reduceBNe, length_pw, hget_pw0, hget_pw, hset_pw0, hset_pw, hq, hm2, idx_tg, Rng.av]
        exact hfin s6 lo hi _ q (.inl rfl) l1 l2 l3 l4
    · skip
      simp -implicitDefEqProofs (maxSteps := 2000000) (disch := omega) only [go_sem, reduceCtorEq, Nat.reduceAdd, Nat.reduceSub, Nat.reduceMul, Nat.reduceLT, Nat.reduceLeDiff, Nat.reduceEqDiff, Nat.reduceBEq, Int.reduceToNat, Int.reduceLT, Int.reduceLE, Int.reduceEq, Int.reduceNeg, Int.reduceAdd, Int.reduceSub, Int.reduceMul, ↓reduceIte, Int.reduceBEq, Int.reduceBNe, length_pw, hget_pw0, hget_pw, hset_pw0, hset_pw, hq, hm2, idx_tg, Rng.av]
      refine ⟨fun hm0 => ?_, fun hm0 => ?_⟩
      · refine odds_c r 1 2 (by omega) (by omega) _ (hp.pw _).app _ fun s5 b5 => ?_
        rw [pw_pwa hr]
        cases b5
        · simp -implicitDefEqProofs (maxSteps := 2000000) (disch := omega) only [go_sem, reduceCtorEq, Nat.reduceAdd, Nat.reduceSub, Nat.reduceMul, Nat.reduceLT, Nat.reduceLeDiff, Nat.reduceEqDiff, Nat.reduceBEq, Int.reduceToNat, Int.reduceLT, Int.reduceLE, Int.reduceEq, Int.reduceNeg, Int.reduceAdd, Int.reduceSub, Int.reduceMul, ↓reduceIte, Int.reduceBEq, Int.reduceBNe, length_pw, hget_pw0, hget_pw, hset_pw0, hset_pw, hq, hm2, idx_tg, Rng.av]
          refine near_c r q 0 25000 1 (by omega) (by omega) _ (hp.pw _).app _ fun s6 lo hi l1 l2 l3 l4 l5 l6 junk => ?_
          rw [pw_pwa hr, List.append_assoc]
          simp -implicitDefEqProofs (maxSteps := 2000000) (disch := omega) only [go_sem, reduceCtorEq, Nat.reduceAdd, Nat.reduceSub, Nat.reduceMul, Nat.reduceLT, Nat.reduceLeDiff, Nat.reduceEqDiff, Nat.reduceBEq, Int.reduceToNat, Int.reduceLT, Int.reduceLE, Int.reduceEq, Int.reduceNeg, Int.reduceAdd, Int.reduceSub, Int.reduceMul, ↓reduceIte, Int.reduceBEq, Int.reduceBNe, length_pw, hget_pw0, hget_pw, hset_pw0, hset_pw, hq, hm2, idx_tg, Rng.av]
          exact hfin s6 lo hi _ q (.inl rfl) l1 l2 l3 l4
        · simp -implicitDefEqProofs (maxSteps := 2000000) (disch := omega) only [go_sem, reduceCtorEq, Nat.reduceAdd, Nat.reduceSub, Nat.reduceMul, Nat.reduceLT, Nat.reduceLeDiff, Nat.reduceEqDiff, Nat.reduceBEq, Int.reduceToNat, Int.reduceLT, Int.reduceLE, Int.reduceEq, Int.reduceNeg, Int.reduceAdd, Int.reduceSub, Int.reduceMul, ↓reduceIte, Int.reduceBEq, Int.reduceBNe, length_pw, hget_pw0, hget_pw, hset_pw0, hset_pw, hq, hm2, idx_tg, Rng.av]
          refine near_c r (q + 1) 0 25000 1 (by omega) (by omega) _ (hp.pw _).app _ fun s6 lo hi l1 l2 l3 l4 l5 l6 junk => ?_
          rw [pw_pwa hr, List.append_assoc]
          simp -implicitDefEqProofs (maxSteps := 2000000) (disch := omega) only [go_sem, reduceCtorEq, Nat.reduceAdd, Nat.reduceSub, Nat.reduceMul, Nat.reduceLT, Nat.reduceLeDiff, Nat.reduceEqDiff, Nat.reduceBEq, Int.reduceToNat, Int.reduceLT, Int.reduceLE, Int.reduceEq, Int.reduceNeg, Int.reduceAdd, Int.reduceSub, Int.reduceMul, ↓reduceIte, Int.reduceBEq, Int.reduceBNe, length_pw, hget_pw0, hget_pw, hset_pw0, hset_pw, hq, hm2, idx_tg, Rng.av]
          exact hfin s6 lo hi _ (q + 1) (.inr ⟨rfl, hm0⟩) l1 l2 l3 l4
      · skip
        refine near_c r q 0 25000 1 (by omega) (by omega) _ (hp.pw _).app _ fun s6 lo hi l1 l2 l3 l4 l5 l6 junk => ?_
        rw [pw_pwa hr, List.append_assoc]
        simp -implicitDefEqProofs (maxSteps := 2000000) (disch := omega) only [go_sem, reduceCtorEq, Nat.reduceAdd, Nat.reduceSub, Nat.reduceMul, Nat.reduceLT, Nat.reduceLeDiff, Nat.reduceEqDiff, Nat.reduceBEq, Int.reduceToNat, Int.reduceLT, Int.reduceLE, Int.reduceEq, Int.reduceNeg, Int.reduceAdd, Int.reduceSub, Int.reduceMul, ↓reduceIte, Int.reduceBEq, Int.reduceBNe, length_pw, hget_pw0, hget_pw, hset_pw0, hset_pw, hq, hm2, idx_tg, Rng.av]
        exact hfin s6 lo hi _ q (.inl rfl) l1 l2 l3 l4
  · rcases hk' with rfl | rfl | rfl
    · skip
      simp -implicitDefEqProofs (maxSteps := 2000000) (disch := omega) only [go_sem, reduceCtorEq, Nat.reduceAdd, Nat.reduceSub, Nat.reduceMul, Nat.reduceLT, Nat.reduceLeDiff, Nat.reduceEqDiff, Nat.reduceBEq, Int.reduceToNat, Int.reduceLT, Int.reduceLE, Int.reduceEq, Int.reduceNeg, Int.reduceAdd, Int.reduceSub, Int.reduceMul, ↓reduceIte, Int.reduceBEq, Int.reduceBNe, length_pw, hget_pw0, hget_pw, hset_pw0, hset_pw, hq, hm2, idx_tg, Rng.av]
      refine ⟨fun hm0 => ?_, fun hm0 => ?_⟩
      · refine odds_c r 1 2 (by omega) (by omega) _ (hp.pw _).app _ fun s5 b5 => ?_
        rw [pw_pwa hr]
        cases b5
        · simp -implicitDefEqProofs (maxSteps := 2000000) (disch := omega) only [go_sem, reduceCtorEq, Nat.reduceAdd, Nat.reduceSub, Nat.reduceMul, Nat.reduceLT, Nat.reduceLeDiff, Nat.reduceEqDiff, Nat.reduceBEq, Int.reduceToNat, Int.reduceLT, Int.reduceLE, Int.reduceEq, Int.reduceNeg, Int.reduceAdd, Int.reduceSub, Int.reduceMul, ↓reduceIte, Int.reduceBEq, Int.reduceBNe, length_pw, hget_pw0, hget_pw, hset_pw0, hset_pw, hq, hm2, idx_tg, Rng.av]
          refine near_c r q 0 25000 1 (by omega) (by omega) _ (hp.pw _).app _ fun s6 lo hi l1 l2 l3 l4 l5 l6 junk => ?_
          rw [pw_pwa hr, List.append_assoc]
          simp -implicitDefEqProofs (maxSteps := 2000000) (disch := omega) only [go_sem, reduceCtorEq, Nat.reduceAdd, Nat.reduceSub, Nat.reduceMul, Nat.reduceLT, Nat.reduceLeDiff, Nat.reduceEqDiff, Nat.reduceBEq, Int.reduceToNat, Int.reduceLT, Int.reduceLE, Int.reduceEq, Int.reduceNeg, Int.reduceAdd, Int.reduceSub, Int.reduceMul, ↓reduceIte, Int.reduceBEq, Int.reduceBNe, length_pw, hget_pw0, hget_pw, hset_pw0, hset_pw, hq, hm2, idx_tg, Rng.av]
          exact hfin s6 lo hi _ q (.inl rfl) l1 l2 l3 l4
        · simp -implicitDefEqProofs (maxSteps := 2000000) (disch := omega) only [go_sem, reduceCtorEq, Nat.reduceAdd, Nat.reduceSub, Nat.reduceMul, Nat.reduceLT, Nat.reduceLeDiff, Nat.reduceEqDiff, Nat.reduceBEq, Int.reduceToNat, Int.reduceLT, Int.reduceLE, Int.reduceEq, Int.reduceNeg, Int.reduceAdd, Int.reduceSub, Int.reduceMul, ↓reduceIte, Int.reduceBEq, Int.reduceBNe, length_pw, hget_pw0, hget_pw, hset_pw0, hset_pw, hq, hm2, idx_tg, Rng.av]
          refine near_c r (q + 1) 0 25000 1 (by omega) (by omega) _ (hp.pw _).app _ fun s6 lo hi l1 l2 l3 l4 l5 l6 junk => ?_
          rw [pw_pwa hr, List.append_assoc]
          simp -implicitDefEqProofs (maxSteps := 2000000) (disch := omega) only [go_sem, reduceCtorEq, Nat.reduceAdd, Nat.reduceSub, Nat.reduceMul, Nat.reduceLT, Nat.reduceLeDiff, Nat.reduceEqDiff, Nat.reduceBEq, Int.reduceToNat, Int.reduceLT, Int.reduceLE, Int.reduceEq, Int.reduceNeg, Int.reduceAdd, Int.reduceSub, Int.reduceMul, ↓reduceIte, Int.reduceBEq, Int.reduceBNe, length_pw, hget_pw0, hget_pw, hset_pw0, hset_pw, hq, hm2, idx_tg, Rng.av]
          exact hfin s6 lo hi _ (q + 1) (.inr ⟨rfl, hm0⟩) l1 l2 l3 l4
      · skip
        refine near_c r q 0 25000 1 (by omega) (by omega) _ (hp.pw _).app _ fun s6 lo hi l1 l2 l3 l4 l5 l6 junk => ?_
        rw [pw_pwa hr, List.append_assoc]
        simp -implicitDefEqProofs (maxSteps := 2000000) (disch := omega) only [go_sem, reduceCtorEq, Nat.reduceAdd, Nat.reduceSub, Nat.reduceMul, Nat.reduceLT, Nat.reduceLeDiff, Nat.reduceEqDiff, Nat.reduceBEq, Int.reduceToNat, Int.reduceLT, Int.reduceLE, Int.reduceEq, Int.reduceNeg, Int.reduceAdd, Int.reduceSub, Int.reduceMul, ↓reduceIte, Int.reduceBEq, Int.reduceBNe, length_pw, hget_pw0, hget_pw, hset_pw0, hset_pw, hq, hm2, idx_tg, Rng.av]
        exact hfin s6 lo hi _ q (.inl rfl) l1 l2 l3 l4
    · have hD : (if tg T a - tg T b < tg T b - tg T a then tg T b - tg T a else tg T a - tg T b) = dist (tg T a) (tg T b) := by unfold dist; split <;> omega
      have hD2 : 0 ≤ dist (tg T a) (tg T b) ∧ dist (tg T a) (tg T b) ≤ 100000 := by unfold dist; omega
      have hisR : ∀ lo hi, 100 * lo ≤ dist (tg T a) (tg T b) * sec → dist (tg T a) (tg T b) * sec ≤ 100 * hi → isR ⟨2, a, b, sec, ⟨lo, hi⟩⟩ e.slack T = true := fun lo hi g1 g2 => by
        have : ¬ (2 : Int) = 1 := by decide
        simp only [isR, this, if_false, if_true, decide_eq_true_eq]
        exact ⟨g1, g2⟩
      generalize dist (tg T a) (tg T b) = D at hD hD2 hisR
      have hDn : 0 ≤ D * sec ∧ D * sec ≤ 2000000 := ⟨Int.mul_nonneg hD2.1 (by omega), by have := Int.mul_le_mul hD2.2 hsec.2 (by omega) (by omega); omega⟩
      have e1 : (D * sec).tdiv 100 = D * sec / 100 := Int.tdiv_eq_ediv_of_nonneg hDn.1
      have e2 : (D * sec + 99).tdiv 100 = (D * sec + 99) / 100 := Int.tdiv_eq_ediv_of_nonneg (by omega)
      simp -implicitDefEqProofs (maxSteps := 2000000) (disch := omega) only [go_sem, reduceCtorEq, Nat.reduceAdd, Nat.reduceSub, Nat.reduceMul, Nat.reduceLT, Nat.reduceLeDiff, Nat.reduceEqDiff, Nat.reduceBEq, Int.reduceToNat, Int.reduceLT, Int.reduceLE, Int.reduceEq, Int.reduceNeg, Int.reduceAdd, Int.reduceSub, Int.reduceMul, ↓reduceIte, Int.reduceBEq, Int.reduceBNe, length_pw, hget_pw0, hget_pw, hset_pw0, hset_pw, hD, e1, e2, idx_tg, Rng.av]
      refine of_c r [0, 0, 1] .full (by simp) _ (hp.pw _).app _ fun s5 x1 hx1 => ?_
      rw [pw_pwa hr]
      have hx1' : x1 = 0 ∨ x1 = 1 := by simpa using hx1
      obtain ⟨lo, hlo⟩ : ∃ lo, (if 0 < D * sec / 100 - x1 then D * sec / 100 - x1 else 0) = lo := ⟨_, rfl⟩
      have hlo2 : 0 ≤ lo ∧ lo ≤ 20000 ∧ 100 * lo ≤ D * sec := by rw [← hlo]; split <;> omega
      simp -implicitDefEqProofs (maxSteps := 2000000) (disch := omega) only [go_sem, reduceCtorEq, Nat.reduceAdd, Nat.reduceSub, Nat.reduceMul, Nat.reduceLT, Nat.reduceLeDiff, Nat.reduceEqDiff, Nat.reduceBEq, Int.reduceToNat, Int.reduceLT, Int.reduceLE, Int.reduceEq, Int.reduceNeg, Int.reduceAdd, Int.reduceSub, Int.reduceMul, ↓reduceIte, Int.reduceBEq, Int.reduceBNe, length_pw, hget_pw0, hget_pw, hset_pw0, hset_pw, hD, e1, e2, idx_tg, Rng.av, hlo]
      refine of_c r [0, 0, 1] .full (by simp) _ (hp.pw _).app _ fun s6 x2 hx2 => ?_
      rw [pw_pwa hr]
      have hx2' : x2 = 0 ∨ x2 = 1 := by simpa using hx2
      obtain ⟨hi, hhi⟩ : ∃ hi, (D * sec + 99) / 100 + x2 = hi := ⟨_, rfl⟩
      have hhi2 : lo ≤ hi ∧ hi ≤ 25000 ∧ D * sec ≤ 100 * hi := by omega
      simp -implicitDefEqProofs (maxSteps := 2000000) (disch := omega) only [go_sem, reduceCtorEq, Nat.reduceAdd, Nat.reduceSub, Nat.reduceMul, Nat.reduceLT, Nat.reduceLeDiff, Nat.reduceEqDiff, Nat.reduceBEq, Int.reduceToNat, Int.reduceLT, Int.reduceLE, Int.reduceEq, Int.reduceNeg, Int.reduceAdd, Int.reduceSub, Int.reduceMul, ↓reduceIte, Int.reduceBEq, Int.reduceBNe, length_pw, hget_pw0, hget_pw, hset_pw0, hset_pw, hD, e1, e2, idx_tg, Rng.av, hlo, hhi]
      refine h s6 ⟨2, a, b, sec, ⟨lo, hi⟩⟩ _ ?_ (hisR lo hi hlo2.2.2 hhi2.2.2)
      simp only [ckR]; grind
    · by_cases hle : tg T a ≤ tg T b
      · skip
        simp -implicitDefEqProofs (maxSteps := 2000000) (disch := omega) only [go_sem, reduceCtorEq, Nat.reduceAdd, Nat.reduceSub, Nat.reduceMul, Nat.reduceLT, Nat.reduceLeDiff, Nat.reduceEqDiff, Nat.reduceBEq, Int.reduceToNat, Int.reduceLT, Int.reduceLE, Int.reduceEq, Int.reduceNeg, Int.reduceAdd, Int.reduceSub, Int.reduceMul, ↓reduceIte, Int.reduceBEq, Int.reduceBNe, length_pw, hget_pw0, hget_pw, hset_pw0, hset_pw, hq, hm2, idx_tg, Rng.av]
        refine ⟨fun hm0 => ?_, fun hm0 => ?_⟩
        · refine odds_c r 1 2 (by omega) (by omega) _ (hp.pw _).app _ fun s5 b5 => ?_
          rw [pw_pwa hr]
          cases b5
          · simp -implicitDefEqProofs (maxSteps := 2000000) (disch := omega) only [go_sem, reduceCtorEq, Nat.reduceAdd, Nat.reduceSub, Nat.reduceMul, Nat.reduceLT, Nat.reduceLeDiff, Nat.reduceEqDiff, Nat.reduceBEq, Int.reduceToNat, Int.reduceLT, Int.reduceLE, Int.reduceEq, Int.reduceNeg, Int.reduceAdd, Int.reduceSub, Int.reduceMul, ↓reduceIte, Int.reduceBEq, Int.reduceBNe, length_pw, hget_pw0, hget_pw, hset_pw0, hset_pw, hq, hm2, idx_tg, Rng.av]
            refine near_c r q 0 25000 1 (by omega) (by omega) _ (hp.pw _).app _ fun s6 lo hi l1 l2 l3 l4 l5 l6 junk => ?_
            rw [pw_pwa hr, List.append_assoc]
            simp -implicitDefEqProofs (maxSteps := 2000000) (disch := omega) only [go_sem, reduceCtorEq, Nat.reduceAdd, Nat.reduceSub, Nat.reduceMul, Nat.reduceLT, Nat.reduceLeDiff, Nat.reduceEqDiff, Nat.reduceBEq, Int.reduceToNat, Int.reduceLT, Int.reduceLE, Int.reduceEq, Int.reduceNeg, Int.reduceAdd, Int.reduceSub, Int.reduceMul, ↓reduceIte, Int.reduceBEq, Int.reduceBNe, length_pw, hget_pw0, hget_pw, hset_pw0, hset_pw, hq, hm2, idx_tg, Rng.av]
            exact hfin s6 lo hi _ q (.inl rfl) l1 l2 l3 l4
          · simp -implicitDefEqProofs (maxSteps := 2000000) (disch := omega) only [go_sem, reduceCtorEq, Nat.reduceAdd, Nat.reduceSub, Nat.reduceMul, Nat.reduceLT, Nat.reduceLeDiff, Nat.reduceEqDiff, Nat.reduceBEq, Int.reduceToNat, Int.reduceLT, Int.reduceLE, Int.reduceEq, Int.reduceNeg, Int.reduceAdd, Int.reduceSub, Int.reduceMul, ↓reduceIte, Int.reduceBEq, Int.reduceBNe, length_pw, hget_pw0, hget_pw, hset_pw0, hset_pw, hq, hm2, idx_tg, Rng.av]
            refine near_c r (q + 1) 0 25000 1 (by omega) (by omega) _ (hp.pw _).app _ fun s6 lo hi l1 l2 l3 l4 l5 l6 junk => ?_
            rw [pw_pwa hr, List.append_assoc]
            simp -implicitDefEqProofs (maxSteps := 2000000) (disch := omega) only [go_sem, reduceCtorEq, Nat.reduceAdd, Nat.reduceSub, Nat.reduceMul, Nat.reduceLT, Nat.reduceLeDiff, Nat.reduceEqDiff, Nat.reduceBEq, Int.reduceToNat, Int.reduceLT, Int.reduceLE, Int.reduceEq, Int.reduceNeg, Int.reduceAdd, Int.reduceSub, Int.reduceMul, ↓reduceIte, Int.reduceBEq, Int.reduceBNe, length_pw, hget_pw0, hget_pw, hset_pw0, hset_pw, hq, hm2, idx_tg, Rng.av]
            exact hfin s6 lo hi _ (q + 1) (.inr ⟨rfl, hm0⟩) l1 l2 l3 l4
        · skip
          refine near_c r q 0 25000 1 (by omega) (by omega) _ (hp.pw _).app _ fun s6 lo hi l1 l2 l3 l4 l5 l6 junk => ?_
          rw [pw_pwa hr, List.append_assoc]
          simp -implicitDefEqProofs (maxSteps := 2000000) (disch := omega) only [go_sem, reduceCtorEq, Nat.reduceAdd, Nat.reduceSub, Nat.reduceMul, Nat.reduceLT, Nat.reduceLeDiff, Nat.reduceEqDiff, Nat.reduceBEq, Int.reduceToNat, Int.reduceLT, Int.reduceLE, Int.reduceEq, Int.reduceNeg, Int.reduceAdd, Int.reduceSub, Int.reduceMul, ↓reduceIte, Int.reduceBEq, Int.reduceBNe, length_pw, hget_pw0, hget_pw, hset_pw0, hset_pw, hq, hm2, idx_tg, Rng.av]
          exact hfin s6 lo hi _ q (.inl rfl) l1 l2 l3 l4
      · simp -implicitDefEqProofs (maxSteps := 2000000) (disch := omega) only [go_sem, reduceCtorEq, Nat.reduceAdd, Nat.reduceSub, Nat.reduceMul, Nat.reduceLT, Nat.reduceLeDiff, Nat.reduceEqDiff, Nat.reduceBEq, Int.reduceToNat, Int.reduceLT, Int.reduceLE, Int.reduceEq, Int.reduceNeg, Int.reduceAdd, Int.reduceSub, Int.reduceMul, ↓reduceIte, Int.reduceBEq, Int.reduceBNe, length_pw, hget_pw0, hget_pw, hset_pw0, hset_pw, hq, hm2, idx_tg, Rng.av]
        refine h s4 ⟨3, a, b, 0, ⟨0, 0⟩⟩ _ ?_ ?_
        · simp only [ckR]; grind
        · have n1 : ¬ (3 : Int) = 1 := by decide
          have n2 : ¬ (3 : Int) = 2 := by decide
          simp only [isR, n1, n2, if_false, decide_eq_true_eq]; omega
end Go.Proofs
