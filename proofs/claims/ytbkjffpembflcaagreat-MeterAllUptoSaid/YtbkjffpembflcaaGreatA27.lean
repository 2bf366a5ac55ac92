/- Texts of a proof: lemmas. -/
import Derived.Test.YtbkjffpembflcaaGreatA26
import Derived.Test.YtbkjffpembflcaaGreatA21
set_option linter.unusedSimpArgs false
set_option linter.unusedVariables false
set_option maxRecDepth 100000
namespace Go.Proofs
open Go Go.Mu

/-- What is known of an ear that is made of numbers, and of the tones that are true. -/
structure EarP (m n w : Int) (e : Ear) (T : List Int) : Prop where
  ck : ck e = 0
  len : e.tones.length = T.length
  lo : 1 ≤ T.length
  hi : (T.length : Int) ≤ m
  rn : (e.rds.length : Int) ≤ n
  sl : 0 ≤ e.slack ∧ e.slack ≤ 1
  rng : ∀ i (h : i < T.length) (h' : i < e.tones.length), 1 ≤ e.tones[i].lo ∧ e.tones[i].lo ≤ T[i] ∧ T[i] ≤ e.tones[i].hi ∧ T[i] - w ≤ e.tones[i].lo ∧ e.tones[i].hi ≤ T[i] + w
  bd : ∀ x ∈ T, 50 ≤ x ∧ x ≤ 50030
  rd : ∀ r ∈ e.rds, isR r e.slack T = true
set_option maxHeartbeats 2000000 in
theorem earOf_c (r : Nat) (m n w : Int) (hm : 1 ≤ m ∧ m ≤ 3) (hn : 0 ≤ n ∧ n ≤ 6) (hw : 0 ≤ w ∧ w ≤ 10) (σ : List AObj) (hp : PotAt σ r) (Q : AV → List AObj → Prop) (h : ∀ s' e T junk, EarP m n w e T → Q (.tup [e.av, .list .no 1 (T.map (.int .i64))]) (pw σ r s' ++ junk)) :
    ACalls Tryz.prog 9 [.ptr r 0, .int .i64 m, .int .i64 n, .int .i64 w] σ Q := by
  refine ACalls.wkpost ?_
  refine ACalls.of_ev (E := Tryz.E 70 Tryz.ord9 fs0) (Tryz.envOK 70 Tryz.ord9 fs0 fs0_ok) Tryz.kp9 Tryz.func9 rfl (by kernel_rfl) (by simp [Tryz.E]) (Callable.of Tryz.func9 (by kernel_rfl) (by kernel_rfl)) (by kernel_rfl) ?_
  have hr := hp.lt
  simp -implicitDefEqProofs (maxSteps := 2000000) (disch := omega) only [go_sem, reduceCtorEq, Nat.reduceAdd, Nat.reduceSub, Nat.reduceMul, Nat.reduceLT, Nat.reduceLeDiff, Nat.reduceEqDiff, Nat.reduceBEq, Int.reduceToNat, Int.reduceLT, Int.reduceLE, Int.reduceEq, Int.reduceNeg, Int.reduceAdd, Int.reduceSub, Int.reduceMul, ↓reduceIte, Int.reduceBEq, Int.reduceBNe]
  refine of_c r [0, 0, 1] .full (by simp) _ hp.app _ fun s1 sl hsl => ?_
  rw [pw_app hr]
  have hsl' : 0 ≤ sl ∧ sl ≤ 1 := by simp at hsl; omega
  simp -implicitDefEqProofs (maxSteps := 2000000) (disch := omega) only [go_sem, reduceCtorEq, Nat.reduceAdd, Nat.reduceSub, Nat.reduceMul, Nat.reduceLT, Nat.reduceLeDiff, Nat.reduceEqDiff, Nat.reduceBEq, Int.reduceToNat, Int.reduceLT, Int.reduceLE, Int.reduceEq, Int.reduceNeg, Int.reduceAdd, Int.reduceSub, Int.reduceMul, ↓reduceIte, Int.reduceBEq, Int.reduceBNe, length_pw, hget_pw0, hget_pw, hset_pw0, hset_pw]
  refine within_c r 50 300 (by omega) (by omega) _ (hp.pw _).app _ fun s2 b1 hb1 hb2 => ?_
  rw [pw_pwa hr]
  simp -implicitDefEqProofs (maxSteps := 2000000) (disch := omega) only [go_sem, reduceCtorEq, Nat.reduceAdd, Nat.reduceSub, Nat.reduceMul, Nat.reduceLT, Nat.reduceLeDiff, Nat.reduceEqDiff, Nat.reduceBEq, Int.reduceToNat, Int.reduceLT, Int.reduceLE, Int.reduceEq, Int.reduceNeg, Int.reduceAdd, Int.reduceSub, Int.reduceMul, ↓reduceIte, Int.reduceBEq, Int.reduceBNe, length_pw, hget_pw0, hget_pw, hset_pw0, hset_pw]
  refine within_c r 20000 50000 (by omega) (by omega) _ (hp.pw _).app _ fun s3 b2 hb3 hb4 => ?_
  rw [pw_pwa hr]
  simp -implicitDefEqProofs (maxSteps := 2000000) (disch := omega) only [go_sem, reduceCtorEq, Nat.reduceAdd, Nat.reduceSub, Nat.reduceMul, Nat.reduceLT, Nat.reduceLeDiff, Nat.reduceEqDiff, Nat.reduceBEq, Int.reduceToNat, Int.reduceLT, Int.reduceLE, Int.reduceEq, Int.reduceNeg, Int.reduceAdd, Int.reduceSub, Int.reduceMul, ↓reduceIte, Int.reduceBEq, Int.reduceBNe, length_pw, hget_pw0, hget_pw, hset_pw0, hset_pw]
  refine of_c r [b1, b2] .full (by simp) _ (hp.pw _).app _ fun s4 base hbase => ?_
  rw [pw_pwa hr]
  have hbase' : 50 ≤ base ∧ base ≤ 50000 := by simp at hbase; omega
  clear hb1 hb2 hb3 hb4 hbase
  simp -implicitDefEqProofs (maxSteps := 2000000) (disch := omega) only [go_sem, reduceCtorEq, Nat.reduceAdd, Nat.reduceSub, Nat.reduceMul, Nat.reduceLT, Nat.reduceLeDiff, Nat.reduceEqDiff, Nat.reduceBEq, Int.reduceToNat, Int.reduceLT, Int.reduceLE, Int.reduceEq, Int.reduceNeg, Int.reduceAdd, Int.reduceSub, Int.reduceMul, ↓reduceIte, Int.reduceBEq, Int.reduceBNe, length_pw, hget_pw0, hget_pw, hset_pw0, hset_pw]
  refine within_c r 1 m (by omega) (by omega) _ (hp.pw _).app _ fun s5 i0 hi1 hi2 => ?_
  rw [pw_pwa hr]
  simp -implicitDefEqProofs (maxSteps := 2000000) (disch := omega) only [go_sem, reduceCtorEq, Nat.reduceAdd, Nat.reduceSub, Nat.reduceMul, Nat.reduceLT, Nat.reduceLeDiff, Nat.reduceEqDiff, Nat.reduceBEq, Int.reduceToNat, Int.reduceLT, Int.reduceLE, Int.reduceEq, Int.reduceNeg, Int.reduceAdd, Int.reduceSub, Int.reduceMul, ↓reduceIte, Int.reduceBEq, Int.reduceBNe, length_pw, hget_pw0, hget_pw, hset_pw0, hset_pw]
  refine ARun.ghost 11 1 (sz0 := 0) rfl (by simp [lookA]) ?_
  simp only [ins, ↓reduceIte, List.append_assoc, List.cons_append, List.nil_append, List.length_append, List.length_cons, List.length_nil, Nat.zero_add, Nat.reduceAdd, Nat.reduceEqDiff, length_pw]
  refine ARun.ghostK (σ.length + 1) 1 2 (by rw [hget_pw]; rfl) rfl ?_
  simp only [hset_pw, List.set_cons_succ, List.set_cons_zero, List.append_assoc, List.cons_append, List.nil_append, List.length_append, List.length_cons, List.length_nil, Nat.zero_add, Nat.reduceAdd, length_pw]
  refine ARun.ghostK (σ.length + 1) 2 6 (by rw [hget_pw]; rfl) rfl ?_
  simp only [hset_pw, List.set_cons_succ, List.set_cons_zero, List.append_assoc, List.cons_append, List.nil_append, List.length_append, List.length_cons, List.length_nil, Nat.zero_add, Nat.reduceAdd, length_pw]
  have hi0 : 1 ≤ i0 ∧ i0 ≤ m := by omega
  clear hi1 hi2
  refine ARun.loopJ (Tryz.envOK 70 Tryz.ord9 fs0 fs0_ok) (α := Nat × List Int × List Rng) (fun a => i0.toNat - a.1)
    (fun a τ => (∃ s j, τ = pw σ r s ++ (.cells [.int .i64 0, .list .full 0 [], .list .full 0 []] :: .cells [.int .i64 sl, .list (.own (σ.length + 3)) 2 (a.2.2.map Rng.av), .list (.own (σ.length + 4)) 6 []] :: .tail a.2.1.length 1 :: .tail a.2.2.length 2 :: .tail 0 6 :: j)) ∧ (a.1 : Int) ≤ i0 ∧ a.2.1.length = a.1 ∧ a.2.2.length = a.1 ∧ (∀ x ∈ a.2.1, 50 ≤ x ∧ x ≤ 50030) ∧ (∀ i (h : i < a.2.1.length) (h' : i < a.2.2.length), 1 ≤ a.2.2[i].lo ∧ a.2.2[i].lo ≤ a.2.1[i] ∧ a.2.1[i] ≤ a.2.2[i].hi ∧ a.2.2[i].hi ≤ 100000 ∧ a.2.1[i] - w ≤ a.2.2[i].lo ∧ a.2.2[i].hi ≤ a.2.1[i] + w))
    (fun a => [(11, .list (.own (σ.length + 2)) 1 (a.2.1.map (.int .i64))), (13, .int .i64 (i0 - a.1))]) (0, [], []) (by kernel_rfl) (by simp [upd, ins, subF, lookA]) ⟨⟨s5, [], by simp⟩, by simp; omega, rfl, rfl, by simp, by simp⟩ ?_
  rintro ⟨k, T, ts⟩ τ ⟨⟨s6, j, rfl⟩, hk, hT, hts, hTb, hrng⟩ ih
  simp only at hk hT hts hTb hrng ih
  by_cases hlt : (k : Int) < i0
  · simp -implicitDefEqProofs (maxSteps := 2000000) (disch := omega) only [go_sem, reduceCtorEq, Nat.reduceAdd, Nat.reduceSub, Nat.reduceMul, Nat.reduceLT, Nat.reduceLeDiff, Nat.reduceEqDiff, Nat.reduceBEq, Int.reduceToNat, Int.reduceLT, Int.reduceLE, Int.reduceEq, Int.reduceNeg, Int.reduceAdd, Int.reduceSub, Int.reduceMul, ↓reduceIte, Int.reduceBEq, Int.reduceBNe, length_pw, hget_pw0, hget_pw, hset_pw0, hset_pw]
    refine upto_c r 30 (by omega) _ (hp.pw _).app _ fun s7 u hu1 hu2 => ?_
    rw [pw_pwa hr]
    have hu : 0 ≤ u ∧ u ≤ 30 := by omega
    clear hu1 hu2
    simp -implicitDefEqProofs (maxSteps := 2000000) (disch := omega) only [go_sem, reduceCtorEq, Nat.reduceAdd, Nat.reduceSub, Nat.reduceMul, Nat.reduceLT, Nat.reduceLeDiff, Nat.reduceEqDiff, Nat.reduceBEq, Int.reduceToNat, Int.reduceLT, Int.reduceLE, Int.reduceEq, Int.reduceNeg, Int.reduceAdd, Int.reduceSub, Int.reduceMul, ↓reduceIte, Int.reduceBEq, Int.reduceBNe, length_pw, hget_pw0, hget_pw, hset_pw0, hset_pw]
    refine near_c r (base + u) 1 100000 w (by omega) (by omega) _ (hp.pw _).app _ fun s8 a b c1 c2 c3 c4 c5 c6 junk => ?_
    rw [pw_pwa hr, List.append_assoc]
    simp -implicitDefEqProofs (maxSteps := 2000000) (disch := omega) only [go_sem, reduceCtorEq, Nat.reduceAdd, Nat.reduceSub, Nat.reduceMul, Nat.reduceLT, Nat.reduceLeDiff, Nat.reduceEqDiff, Nat.reduceBEq, Int.reduceToNat, Int.reduceLT, Int.reduceLE, Int.reduceEq, Int.reduceNeg, Int.reduceAdd, Int.reduceSub, Int.reduceMul, ↓reduceIte, Int.reduceBEq, Int.reduceBNe, length_pw, hget_pw0, hget_pw, hset_pw0, hset_pw, Rng.av]
    refine (ih (k + 1, T ++ [base + u], ts ++ [⟨a, b⟩]) _ (by simp only; omega) ⟨⟨s8, j ++ junk, rfl⟩, by simp only; omega, by simp [hT], by simp [hts], fun x hx => ?_, fun i h h' => ?_⟩).castS (by simp [Rng.av]) (by simp [upd, ins, subF, lookA]; omega)
    · rcases List.mem_append.1 hx with hx | hx
      · exact hTb x hx
      · simp at hx; omega
    · simp only at h h' ⊢
      rw [List.getElem_append, List.getElem_append]
      split <;> split
      · exact hrng i (by assumption) (by assumption)
      · omega
      · omega
      · simp only [List.getElem_singleton]; omega
  · have hke : (k : Int) = i0 := by omega
    have hk3 : k ≤ 3 := by omega
    have hts3 : ts.length ≤ 3 := by omega
    simp -implicitDefEqProofs (maxSteps := 2000000) (disch := omega) only [go_sem, reduceCtorEq, Nat.reduceAdd, Nat.reduceSub, Nat.reduceMul, Nat.reduceLT, Nat.reduceLeDiff, Nat.reduceEqDiff, Nat.reduceBEq, Int.reduceToNat, Int.reduceLT, Int.reduceLE, Int.reduceEq, Int.reduceNeg, Int.reduceAdd, Int.reduceSub, Int.reduceMul, ↓reduceIte, Int.reduceBEq, Int.reduceBNe, length_pw, hget_pw0, hget_pw, hset_pw0, hset_pw]
    refine upto_c r n (by omega) _ (hp.pw _).app _ fun s7 q hq1 hq2 => ?_
    rw [pw_pwa hr]
    have hq : 0 ≤ q ∧ q ≤ n := by omega
    clear hq1 hq2 ih
    simp -implicitDefEqProofs (maxSteps := 2000000) (disch := omega) only [go_sem, reduceCtorEq, Nat.reduceAdd, Nat.reduceSub, Nat.reduceMul, Nat.reduceLT, Nat.reduceLeDiff, Nat.reduceEqDiff, Nat.reduceBEq, Int.reduceToNat, Int.reduceLT, Int.reduceLE, Int.reduceEq, Int.reduceNeg, Int.reduceAdd, Int.reduceSub, Int.reduceMul, ↓reduceIte, Int.reduceBEq, Int.reduceBNe, length_pw, hget_pw0, hget_pw, hset_pw0, hset_pw]
    refine ARun.loopJ (Tryz.envOK 70 Tryz.ord9 fs0 fs0_ok) (α := Nat × List Rd) (fun a => q.toNat - a.1)
      (fun a τ => (∃ s j, τ = pw σ r s ++ (.cells [.int .i64 0, .list .full 0 [], .list .full 0 []] :: .cells [.int .i64 sl, .list (.own (σ.length + 3)) 2 (ts.map Rng.av), .list (.own (σ.length + 4)) 6 (a.2.map Rd.av)] :: .tail T.length 1 :: .tail ts.length 2 :: .tail a.2.length 6 :: j)) ∧ (a.1 : Int) ≤ q ∧ a.2.length = a.1 ∧ (∀ x ∈ a.2, ckR x T.length = 0 ∧ isR x sl T = true))
      (fun a => [(15, .int .i64 (q - a.1))]) (0, []) (by kernel_rfl) (by simp [upd, ins, subF, lookA]) ⟨⟨s7, j, by simp⟩, by simp; omega, rfl, by simp⟩ ?_
    rintro ⟨k2, rs⟩ τ ⟨⟨s8, j2, rfl⟩, hk2, hrs, hrd⟩ ih
    simp only at hk2 hrs hrd ih
    by_cases hlt2 : (k2 : Int) < q
    · simp -implicitDefEqProofs (maxSteps := 2000000) (disch := omega) only [go_sem, reduceCtorEq, Nat.reduceAdd, Nat.reduceSub, Nat.reduceMul, Nat.reduceLT, Nat.reduceLeDiff, Nat.reduceEqDiff, Nat.reduceBEq, Int.reduceToNat, Int.reduceLT, Int.reduceLE, Int.reduceEq, Int.reduceNeg, Int.reduceAdd, Int.reduceSub, Int.reduceMul, ↓reduceIte, Int.reduceBEq, Int.reduceBNe, length_pw, hget_pw0, hget_pw, hset_pw0, hset_pw]
      refine ACalls.weaken (l' := [.ptr r 0, (⟨sl, ts, rs⟩ : Ear).av, .list (.own (σ.length + 2)) 1 (T.map (.int .i64))]) ⟨rfl, ⟨rfl, ⟨rfl, .inl rfl, .inl rfl⟩, ⟨rfl, .inl rfl, .inl rfl⟩, trivial⟩, ⟨rfl, .inl rfl, .inr rfl⟩, trivial⟩ (readingOf_c r ⟨sl, ts, rs⟩ T (.own (σ.length + 2)) (by simp only; omega) (by omega) (fun x hx => by have := hTb x hx; omega) _ (hp.pw _).app _ fun s9 x junk hx1 hx2 => ?_)
      rw [pw_pwa hr, List.append_assoc]
      simp -implicitDefEqProofs (maxSteps := 2000000) (disch := omega) only [go_sem, reduceCtorEq, Nat.reduceAdd, Nat.reduceSub, Nat.reduceMul, Nat.reduceLT, Nat.reduceLeDiff, Nat.reduceEqDiff, Nat.reduceBEq, Int.reduceToNat, Int.reduceLT, Int.reduceLE, Int.reduceEq, Int.reduceNeg, Int.reduceAdd, Int.reduceSub, Int.reduceMul, ↓reduceIte, Int.reduceBEq, Int.reduceBNe, length_pw, hget_pw0, hget_pw, hset_pw0, hset_pw, Rd.av]
      refine (ih (k2 + 1, rs ++ [x]) _ (by simp only; omega) ⟨⟨s9, j2 ++ junk, rfl⟩, by simp only; omega, by simp [hrs], fun y hy => ?_⟩).castS (by simp [Rd.av]) (by simp [upd, ins, subF, lookA]; omega)
      rcases List.mem_append.1 hy with hy | hy
      · exact hrd y hy
      · simp at hy; subst hy; exact ⟨hx1, hx2⟩
    · have hk2e : (k2 : Int) = q := by omega
      simp -implicitDefEqProofs (maxSteps := 2000000) (disch := omega) only [go_sem, reduceCtorEq, Nat.reduceAdd, Nat.reduceSub, Nat.reduceMul, Nat.reduceLT, Nat.reduceLeDiff, Nat.reduceEqDiff, Nat.reduceBEq, Int.reduceToNat, Int.reduceLT, Int.reduceLE, Int.reduceEq, Int.reduceNeg, Int.reduceAdd, Int.reduceSub, Int.reduceMul, ↓reduceIte, Int.reduceBEq, Int.reduceBNe, length_pw, hget_pw0, hget_pw, hset_pw0, hset_pw, Rd.av]
      refine ⟨.tup [(⟨sl, ts, rs⟩ : Ear).av, .list .no 1 (T.map (.int .i64))], ⟨⟨rfl, ⟨rfl, .inl rfl, .inl rfl⟩, ⟨rfl, .inl rfl, .inl rfl⟩, trivial⟩, ⟨rfl, .inl rfl, .inl rfl⟩, trivial⟩, h s8 ⟨sl, ts, rs⟩ T _ ⟨?_, by simp only; omega, by omega, by omega, by simp only; omega, hsl', fun i h h' => ?_, hTb, fun x hx => (hrd x hx).2⟩⟩
      · have f1 : firstE ckT ts = 0 := firstE_zero fun i hi => by
          have := hrng i (by omega) hi
          simp only [ckT]; grind
        have f2 : firstE (fun r => ckR r ts.length) rs = 0 := firstE_zero fun i hi => by
          have := (hrd rs[i] (List.getElem_mem hi)).1
          have e : T.length = ts.length := by omega
          rw [e] at this; exact this
        simp only [ck]; grind
      · have := hrng i h h'
        exact ⟨this.1, this.2.1, this.2.2.1, this.2.2.2.2⟩
end Go.Proofs
