/- Texts of a proof: lemmas. -/
import Derived.Test.YtpodkdondibbfaaRW
import Derived.Test.YtpodkdondibbfaaRK1
set_option linter.unusedSimpArgs false
set_option linter.unusedVariables false
set_option maxRecDepth 100000
namespace Go.Proofs
open Go Go.Mu

theorem nearZ_c (r : Nat) (n least most wide : Int) (h1 : -1000000 ≤ least ∧ least ≤ n ∧ n ≤ most ∧ most ≤ 1000000000) (h2 : 0 ≤ wide ∧ wide ≤ 1000000) (σ : List AObj) (hp : PotAt σ r) (Q : AV → List AObj → Prop) (h : ∀ s' a b, least ≤ a → a ≤ n → n ≤ b → b ≤ most → n - wide ≤ a → b ≤ n + wide → ∀ junk, Q (Rng.mk a b).av (pw σ r s' ++ junk)) : ACalls Try.prog 9 [.ptr r 0, .int .i64 n, .int .i64 least, .int .i64 most, .int .i64 wide] σ Q := by
  refine ACalls.of_ev (E := Try.E 32 (fun _ => ([], [])) fs0) (Try.envOK 32 (fun _ => ([], [])) fs0 fs0_ok) Try.kp9 Try.func9 rfl (by kernel_rfl) (by simp [Try.E]) (Callable.of Try.func9 (by kernel_rfl) (by kernel_rfl)) (by kernel_rfl) ?_
  have hr : r < σ.length := by obtain ⟨s, hg⟩ := hp; exact hget_lt hg
  have pwa : ∀ l s, pw (σ ++ l) r s = pw σ r s ++ l := fun l s => by unfold pw hset; rw [List.set_append_left _ _ hr]
  have pota : ∀ l s, PotAt (pw σ r s ++ l) r := fun l s => by
    obtain ⟨u, hg⟩ := hp.pw s
    exact ⟨u, by rw [hget_app (hget_lt hg)]; exact hg⟩
  have pwa2 : ∀ l s t, pw (pw σ r s ++ l) r t = pw σ r t ++ l := fun l s t => by
    have : r < (pw σ r s).length := by unfold pw; rw [length_hset]; exact hr
    show hset (pw σ r s ++ l) r _ = _
    unfold hset; rw [List.set_append_left _ _ this]
    show pw (pw σ r s) r t ++ l = _
    rw [pw_pw]
  have p0 : PotAt (σ ++ [.cells [.int .i64 0, .int .i64 0]]) r := by obtain ⟨u, hg⟩ := hp; exact ⟨u, by rw [hget_app hr]; exact hg⟩
  have hof : ∀ (x : Int) (σ : List AObj) (hp : PotAt σ r) (Q : AV → List AObj → Prop), (∀ s' y, (y = 0 ∨ y = x) → Q (.int .i64 y) (pw σ r s')) → ACalls Try.prog 17 [.ptr r 0, .list .full 1 [.int .i64 0, .int .i64 0, .int .i64 x]] σ Q := fun x σ hp Q hq =>
    of_c r [0, 0, x] .full (by simp) σ hp Q fun s' y hy => hq s' y (by simpa using hy)
  simp -implicitDefEqProofs (maxSteps := 2000000) (disch := omega) only [go_sem, reduceCtorEq, Nat.reduceAdd, Nat.reduceSub, Nat.reduceMul, Nat.reduceLT, Nat.reduceLeDiff, Nat.reduceEqDiff, Nat.reduceBEq, Int.reduceToNat, Int.reduceLT, Int.reduceLE, Int.reduceEq, Int.reduceNeg, Int.reduceAdd, Int.reduceSub, Int.reduceMul, ↓reduceIte, Int.reduceBEq, Int.reduceBNe]
  refine upto_c r wide (by omega) _ p0 _ fun s1 x1 a1 a2 => ?_
  rw [pwa]
  simp -implicitDefEqProofs (maxSteps := 2000000) (disch := omega) only [go_sem, reduceCtorEq, Nat.reduceAdd, Nat.reduceSub, Nat.reduceMul, Nat.reduceLT, Nat.reduceLeDiff, Nat.reduceEqDiff, Nat.reduceBEq, Int.reduceToNat, Int.reduceLT, Int.reduceLE, Int.reduceEq, Int.reduceNeg, Int.reduceAdd, Int.reduceSub, Int.reduceMul, ↓reduceIte, Int.reduceBEq, Int.reduceBNe]
  refine hof x1 _ (pota _ _) _ fun s2 y1 a3 => ?_
  rw [pwa2]
  have b1 : 0 ≤ y1 ∧ y1 ≤ wide := by omega
  simp -implicitDefEqProofs (maxSteps := 2000000) (disch := omega) only [go_sem, reduceCtorEq, Nat.reduceAdd, Nat.reduceSub, Nat.reduceMul, Nat.reduceLT, Nat.reduceLeDiff, Nat.reduceEqDiff, Nat.reduceBEq, Int.reduceToNat, Int.reduceLT, Int.reduceLE, Int.reduceEq, Int.reduceNeg, Int.reduceAdd, Int.reduceSub, Int.reduceMul, ↓reduceIte, Int.reduceBEq, Int.reduceBNe]
  refine upto_c r wide (by omega) _ (pota _ _) _ fun s3 x2 a5 a6 => ?_
  rw [pwa2]
  simp -implicitDefEqProofs (maxSteps := 2000000) (disch := omega) only [go_sem, reduceCtorEq, Nat.reduceAdd, Nat.reduceSub, Nat.reduceMul, Nat.reduceLT, Nat.reduceLeDiff, Nat.reduceEqDiff, Nat.reduceBEq, Int.reduceToNat, Int.reduceLT, Int.reduceLE, Int.reduceEq, Int.reduceNeg, Int.reduceAdd, Int.reduceSub, Int.reduceMul, ↓reduceIte, Int.reduceBEq, Int.reduceBNe]
  refine hof x2 _ (pota _ _) _ fun s4 y2 a7 => ?_
  rw [pwa2]
  have b2 : 0 ≤ y2 ∧ y2 ≤ wide := by omega
  have hlp : (pw σ r s4).length = σ.length := by unfold pw; exact length_hset
  have g1 : hget (pw σ r s4 ++ [.cells [.int .i64 0, .int .i64 0]]) σ.length = some (.cells [.int .i64 0, .int .i64 0]) := by rw [← hlp]; exact hget_at0
  have g2 : ∀ o, hset (pw σ r s4 ++ [.cells [.int .i64 0, .int .i64 0]]) σ.length o = pw σ r s4 ++ [o] := fun o => by rw [← hlp]; exact hset_at0
  have g3 : ∀ o, hget (pw σ r s4 ++ [o]) σ.length = some o := fun o => by rw [← hlp]; exact hget_at0
  simp -implicitDefEqProofs (maxSteps := 2000000) (disch := omega) only [go_sem, reduceCtorEq, Nat.reduceAdd, Nat.reduceSub, Nat.reduceMul, Nat.reduceLT, Nat.reduceLeDiff, Nat.reduceEqDiff, Nat.reduceBEq, Int.reduceToNat, Int.reduceLT, Int.reduceLE, Int.reduceEq, Int.reduceNeg, Int.reduceAdd, Int.reduceSub, Int.reduceMul, ↓reduceIte, Int.reduceBEq, Int.reduceBNe, g1, g2, g3]
  refine h s4 (if least < n - y1 then n - y1 else least) (if n + y2 < most then n + y2 else most) ?_ ?_ ?_ ?_ ?_ ?_ _ <;> (split <;> omega)
/-- A job that is made of numbers. -/
structure JobP (wide : Int) (j : Jb) : Prop where
  ok : OkJ j
  pit : -16 - wide ≤ j.pitch.lo ∧ j.pitch.hi ≤ 16 + wide ∧ j.pitch.hi ≤ j.pitch.lo + 2 * wide
  up : j.up.hi ≤ 7 ∧ j.up.hi ≤ j.up.lo + 2
  down : j.down.hi ≤ 7 ∧ j.down.hi ≤ j.down.lo + 2
  wt : j.wt.hi ≤ 5
  wr : j.wr.hi ≤ 5
set_option maxHeartbeats 400000000 in
theorem jobOf_c (r : Nat) (wide : Int) (hw : 0 ≤ wide ∧ wide ≤ 5) (σ : List AObj) (hp : PotAt σ r) (Q : AV → List AObj → Prop) (h : ∀ s' j junk, JobP wide j → Q j.av (pw σ r s' ++ junk)) :
    ACalls Try.prog 6 [.ptr r 0, .int .i64 wide, .int .i64 1] σ Q := by
  refine ACalls.wkpost ?_
  refine ACalls.of_evN 4 (E := Try.E 84 Try.ord6 fs0) (Try.envOK 84 Try.ord6 fs0 fs0_ok) Try.kp6 Try.func6 rfl (by kernel_rfl) (by simp [Try.E]) (Callable.of Try.func6 (by kernel_rfl) (by kernel_rfl)) (by kernel_rfl) ?_
  have hr := hp.lt
  simp -implicitDefEqProofs (maxSteps := 2000000) (disch := omega) only [go_sem, reduceCtorEq, Nat.reduceAdd, Nat.reduceSub, Nat.reduceMul, Nat.reduceLT, Nat.reduceLeDiff, Nat.reduceEqDiff, Nat.reduceBEq, Int.reduceToNat, Int.reduceLT, Int.reduceLE, Int.reduceEq, Int.reduceNeg, Int.reduceAdd, Int.reduceSub, Int.reduceMul, ↓reduceIte, Int.reduceBEq, Int.reduceBNe, length_pw, hget_pw0, hget_pw, hset_pw0, hset_pw]
  refine within_c r 1 6 (by omega) (by omega) _ hp.app _ fun s1 wi h1 h2 => ?_
  rw [pw_app hr]
  have hwi : 1 ≤ wi ∧ wi ≤ 6 := by omega
  clear h1 h2
  simp -implicitDefEqProofs (maxSteps := 2000000) (disch := omega) only [go_sem, reduceCtorEq, Nat.reduceAdd, Nat.reduceSub, Nat.reduceMul, Nat.reduceLT, Nat.reduceLeDiff, Nat.reduceEqDiff, Nat.reduceBEq, Int.reduceToNat, Int.reduceLT, Int.reduceLE, Int.reduceEq, Int.reduceNeg, Int.reduceAdd, Int.reduceSub, Int.reduceMul, ↓reduceIte, Int.reduceBEq, Int.reduceBNe, length_pw, hget_pw0, hget_pw, hset_pw0, hset_pw]
  refine upto_c r 3 (by omega) _ (hp.pw _).app _ fun s2 m0 h1 h2 => ?_
  rw [pw_pwa hr]
  have hm0 : 0 ≤ m0 ∧ m0 ≤ 3 := by omega
  clear h1 h2
  simp -implicitDefEqProofs (maxSteps := 2000000) (disch := omega) only [go_sem, reduceCtorEq, Nat.reduceAdd, Nat.reduceSub, Nat.reduceMul, Nat.reduceLT, Nat.reduceLeDiff, Nat.reduceEqDiff, Nat.reduceBEq, Int.reduceToNat, Int.reduceLT, Int.reduceLE, Int.reduceEq, Int.reduceNeg, Int.reduceAdd, Int.reduceSub, Int.reduceMul, ↓reduceIte, Int.reduceBEq, Int.reduceBNe, length_pw, hget_pw0, hget_pw, hset_pw0, hset_pw]
  refine of_c r [0, 1, m0] .full (by simp) _ (hp.pw _).app _ fun s3 me hme => ?_
  rw [pw_pwa hr]
  have hme2 : 0 ≤ me ∧ me ≤ 3 := by simp at hme; omega
  clear hme hm0
  simp -implicitDefEqProofs (maxSteps := 2000000) (disch := omega) only [go_sem, reduceCtorEq, Nat.reduceAdd, Nat.reduceSub, Nat.reduceMul, Nat.reduceLT, Nat.reduceLeDiff, Nat.reduceEqDiff, Nat.reduceBEq, Int.reduceToNat, Int.reduceLT, Int.reduceLE, Int.reduceEq, Int.reduceNeg, Int.reduceAdd, Int.reduceSub, Int.reduceMul, ↓reduceIte, Int.reduceBEq, Int.reduceBNe, length_pw, hget_pw0, hget_pw, hset_pw0, hset_pw]
  change ARun _ _ _ _ _ _
  refine ARun.ghostK (σ.length + 1) 15 2 (by rw [hget_pw]; rfl) rfl ?_
  simp only [hset_pw, List.set_cons_succ, List.set_cons_zero, List.append_assoc, List.cons_append, List.nil_append, List.length_append, List.length_cons, List.length_nil, Nat.zero_add, Nat.reduceAdd, length_pw]
  refine ev_sound (Try.envOK 84 Try.ord6 fs0 fs0_ok) (n := 1000) (by kernel_rfl) ?_
  simp -implicitDefEqProofs (maxSteps := 2000000) (disch := omega) only [go_sem, reduceCtorEq, Nat.reduceAdd, Nat.reduceSub, Nat.reduceMul, Nat.reduceLT, Nat.reduceLeDiff, Nat.reduceEqDiff, Nat.reduceBEq, Int.reduceToNat, Int.reduceLT, Int.reduceLE, Int.reduceEq, Int.reduceNeg, Int.reduceAdd, Int.reduceSub, Int.reduceMul, ↓reduceIte, Int.reduceBEq, Int.reduceBNe, length_pw, hget_pw0, hget_pw, hset_pw0, hset_pw]
  refine within_c r (-16) 16 (by omega) (by omega) _ (hp.pw _).app _ fun s pn h1 h2 => ?_
  rw [pw_pwa hr]
  have hpn : -16 ≤ pn ∧ pn ≤ 16 := by omega
  clear h1 h2
  simp -implicitDefEqProofs (maxSteps := 2000000) (disch := omega) only [go_sem, reduceCtorEq, Nat.reduceAdd, Nat.reduceSub, Nat.reduceMul, Nat.reduceLT, Nat.reduceLeDiff, Nat.reduceEqDiff, Nat.reduceBEq, Int.reduceToNat, Int.reduceLT, Int.reduceLE, Int.reduceEq, Int.reduceNeg, Int.reduceAdd, Int.reduceSub, Int.reduceMul, ↓reduceIte, Int.reduceBEq, Int.reduceBNe, length_pw, hget_pw0, hget_pw, hset_pw0, hset_pw, Rng.av]
  refine nearZ_c r pn (-60) 60 wide (by omega) (by omega) _ (hp.pw _).app _ fun s p1 p2 c1 c2 c3 c4 c5 c6 Jp => ?_
  rw [pw_pwa hr, List.append_assoc]
  have bp : okB (-60) 60 ⟨p1, p2⟩ ∧ pn - wide ≤ p1 ∧ p2 ≤ pn + wide := ⟨⟨c1, by show p1 ≤ p2; omega, c4⟩, c5, c6⟩
  clear c1 c2 c3 c4 c5 c6
  simp -implicitDefEqProofs (maxSteps := 2000000) (disch := omega) only [go_sem, reduceCtorEq, Nat.reduceAdd, Nat.reduceSub, Nat.reduceMul, Nat.reduceLT, Nat.reduceLeDiff, Nat.reduceEqDiff, Nat.reduceBEq, Int.reduceToNat, Int.reduceLT, Int.reduceLE, Int.reduceEq, Int.reduceNeg, Int.reduceAdd, Int.reduceSub, Int.reduceMul, ↓reduceIte, Int.reduceBEq, Int.reduceBNe, length_pw, hget_pw0, hget_pw, hset_pw0, hset_pw, Rng.av]
  refine within_c r 20 40 (by omega) (by omega) _ (hp.pw _).app _ fun s tn h1 h2 => ?_
  rw [pw_pwa hr]
  have htn : 20 ≤ tn ∧ tn ≤ 40 := by omega
  clear h1 h2
  simp -implicitDefEqProofs (maxSteps := 2000000) (disch := omega) only [go_sem, reduceCtorEq, Nat.reduceAdd, Nat.reduceSub, Nat.reduceMul, Nat.reduceLT, Nat.reduceLeDiff, Nat.reduceEqDiff, Nat.reduceBEq, Int.reduceToNat, Int.reduceLT, Int.reduceLE, Int.reduceEq, Int.reduceNeg, Int.reduceAdd, Int.reduceSub, Int.reduceMul, ↓reduceIte, Int.reduceBEq, Int.reduceBNe, length_pw, hget_pw0, hget_pw, hset_pw0, hset_pw, Rng.av]
  refine nearZ_c r tn (0) 100 2 (by omega) (by omega) _ (hp.pw _).app _ fun s t1 t2 c1 c2 c3 c4 c5 c6 Jt => ?_
  rw [pw_pwa hr, List.append_assoc]
  have bt : okB (0) 100 ⟨t1, t2⟩ ∧ tn - 2 ≤ t1 ∧ t2 ≤ tn + 2 := ⟨⟨c1, by show t1 ≤ t2; omega, c4⟩, c5, c6⟩
  clear c1 c2 c3 c4 c5 c6
  simp -implicitDefEqProofs (maxSteps := 2000000) (disch := omega) only [go_sem, reduceCtorEq, Nat.reduceAdd, Nat.reduceSub, Nat.reduceMul, Nat.reduceLT, Nat.reduceLeDiff, Nat.reduceEqDiff, Nat.reduceBEq, Int.reduceToNat, Int.reduceLT, Int.reduceLE, Int.reduceEq, Int.reduceNeg, Int.reduceAdd, Int.reduceSub, Int.reduceMul, ↓reduceIte, Int.reduceBEq, Int.reduceBNe, length_pw, hget_pw0, hget_pw, hset_pw0, hset_pw, Rng.av]
  refine within_c r 20 40 (by omega) (by omega) _ (hp.pw _).app _ fun s rn h1 h2 => ?_
  rw [pw_pwa hr]
  have hrn : 20 ≤ rn ∧ rn ≤ 40 := by omega
  clear h1 h2
  simp -implicitDefEqProofs (maxSteps := 2000000) (disch := omega) only [go_sem, reduceCtorEq, Nat.reduceAdd, Nat.reduceSub, Nat.reduceMul, Nat.reduceLT, Nat.reduceLeDiff, Nat.reduceEqDiff, Nat.reduceBEq, Int.reduceToNat, Int.reduceLT, Int.reduceLE, Int.reduceEq, Int.reduceNeg, Int.reduceAdd, Int.reduceSub, Int.reduceMul, ↓reduceIte, Int.reduceBEq, Int.reduceBNe, length_pw, hget_pw0, hget_pw, hset_pw0, hset_pw, Rng.av]
  refine nearZ_c r rn (0) 100 2 (by omega) (by omega) _ (hp.pw _).app _ fun s q1 q2 c1 c2 c3 c4 c5 c6 Jq => ?_
  rw [pw_pwa hr, List.append_assoc]
  have bq : okB (0) 100 ⟨q1, q2⟩ ∧ rn - 2 ≤ q1 ∧ q2 ≤ rn + 2 := ⟨⟨c1, by show q1 ≤ q2; omega, c4⟩, c5, c6⟩
  clear c1 c2 c3 c4 c5 c6
  simp -implicitDefEqProofs (maxSteps := 2000000) (disch := omega) only [go_sem, reduceCtorEq, Nat.reduceAdd, Nat.reduceSub, Nat.reduceMul, Nat.reduceLT, Nat.reduceLeDiff, Nat.reduceEqDiff, Nat.reduceBEq, Int.reduceToNat, Int.reduceLT, Int.reduceLE, Int.reduceEq, Int.reduceNeg, Int.reduceAdd, Int.reduceSub, Int.reduceMul, ↓reduceIte, Int.reduceBEq, Int.reduceBNe, length_pw, hget_pw0, hget_pw, hset_pw0, hset_pw, Rng.av]
  refine within_c r 1 6 (by omega) (by omega) _ (hp.pw _).app _ fun s un h1 h2 => ?_
  rw [pw_pwa hr]
  have hun : 1 ≤ un ∧ un ≤ 6 := by omega
  clear h1 h2
  simp -implicitDefEqProofs (maxSteps := 2000000) (disch := omega) only [go_sem, reduceCtorEq, Nat.reduceAdd, Nat.reduceSub, Nat.reduceMul, Nat.reduceLT, Nat.reduceLeDiff, Nat.reduceEqDiff, Nat.reduceBEq, Int.reduceToNat, Int.reduceLT, Int.reduceLE, Int.reduceEq, Int.reduceNeg, Int.reduceAdd, Int.reduceSub, Int.reduceMul, ↓reduceIte, Int.reduceBEq, Int.reduceBNe, length_pw, hget_pw0, hget_pw, hset_pw0, hset_pw, Rng.av]
  refine nearZ_c r un (0) 12 1 (by omega) (by omega) _ (hp.pw _).app _ fun s u1 u2 c1 c2 c3 c4 c5 c6 Ju => ?_
  rw [pw_pwa hr, List.append_assoc]
  have bu : okB (0) 12 ⟨u1, u2⟩ ∧ un - 1 ≤ u1 ∧ u2 ≤ un + 1 := ⟨⟨c1, by show u1 ≤ u2; omega, c4⟩, c5, c6⟩
  clear c1 c2 c3 c4 c5 c6
  simp -implicitDefEqProofs (maxSteps := 2000000) (disch := omega) only [go_sem, reduceCtorEq, Nat.reduceAdd, Nat.reduceSub, Nat.reduceMul, Nat.reduceLT, Nat.reduceLeDiff, Nat.reduceEqDiff, Nat.reduceBEq, Int.reduceToNat, Int.reduceLT, Int.reduceLE, Int.reduceEq, Int.reduceNeg, Int.reduceAdd, Int.reduceSub, Int.reduceMul, ↓reduceIte, Int.reduceBEq, Int.reduceBNe, length_pw, hget_pw0, hget_pw, hset_pw0, hset_pw, Rng.av]
  refine within_c r 1 6 (by omega) (by omega) _ (hp.pw _).app _ fun s dn h1 h2 => ?_
  rw [pw_pwa hr]
  have hdn : 1 ≤ dn ∧ dn ≤ 6 := by omega
  clear h1 h2
  simp -implicitDefEqProofs (maxSteps := 2000000) (disch := omega) only [go_sem, reduceCtorEq, Nat.reduceAdd, Nat.reduceSub, Nat.reduceMul, Nat.reduceLT, Nat.reduceLeDiff, Nat.reduceEqDiff, Nat.reduceBEq, Int.reduceToNat, Int.reduceLT, Int.reduceLE, Int.reduceEq, Int.reduceNeg, Int.reduceAdd, Int.reduceSub, Int.reduceMul, ↓reduceIte, Int.reduceBEq, Int.reduceBNe, length_pw, hget_pw0, hget_pw, hset_pw0, hset_pw, Rng.av]
  refine nearZ_c r dn (0) 12 1 (by omega) (by omega) _ (hp.pw _).app _ fun s d1 d2 c1 c2 c3 c4 c5 c6 Jd => ?_
  rw [pw_pwa hr, List.append_assoc]
  have bd : okB (0) 12 ⟨d1, d2⟩ ∧ dn - 1 ≤ d1 ∧ d2 ≤ dn + 1 := ⟨⟨c1, by show d1 ≤ d2; omega, c4⟩, c5, c6⟩
  clear c1 c2 c3 c4 c5 c6
  simp -implicitDefEqProofs (maxSteps := 2000000) (disch := omega) only [go_sem, reduceCtorEq, Nat.reduceAdd, Nat.reduceSub, Nat.reduceMul, Nat.reduceLT, Nat.reduceLeDiff, Nat.reduceEqDiff, Nat.reduceBEq, Int.reduceToNat, Int.reduceLT, Int.reduceLE, Int.reduceEq, Int.reduceNeg, Int.reduceAdd, Int.reduceSub, Int.reduceMul, ↓reduceIte, Int.reduceBEq, Int.reduceBNe, length_pw, hget_pw0, hget_pw, hset_pw0, hset_pw, Rng.av]
  refine upto_c r 4 (by omega) _ (hp.pw _).app _ fun s wn h1 h2 => ?_
  rw [pw_pwa hr]
  have hwn : 0 ≤ wn ∧ wn ≤ 4 := by omega
  clear h1 h2
  simp -implicitDefEqProofs (maxSteps := 2000000) (disch := omega) only [go_sem, reduceCtorEq, Nat.reduceAdd, Nat.reduceSub, Nat.reduceMul, Nat.reduceLT, Nat.reduceLeDiff, Nat.reduceEqDiff, Nat.reduceBEq, Int.reduceToNat, Int.reduceLT, Int.reduceLE, Int.reduceEq, Int.reduceNeg, Int.reduceAdd, Int.reduceSub, Int.reduceMul, ↓reduceIte, Int.reduceBEq, Int.reduceBNe, length_pw, hget_pw0, hget_pw, hset_pw0, hset_pw, Rng.av]
  refine nearZ_c r wn (0) 12 1 (by omega) (by omega) _ (hp.pw _).app _ fun s w1 w2 c1 c2 c3 c4 c5 c6 Jw => ?_
  rw [pw_pwa hr, List.append_assoc]
  have bw : okB (0) 12 ⟨w1, w2⟩ ∧ wn - 1 ≤ w1 ∧ w2 ≤ wn + 1 := ⟨⟨c1, by show w1 ≤ w2; omega, c4⟩, c5, c6⟩
  clear c1 c2 c3 c4 c5 c6
  simp -implicitDefEqProofs (maxSteps := 2000000) (disch := omega) only [go_sem, reduceCtorEq, Nat.reduceAdd, Nat.reduceSub, Nat.reduceMul, Nat.reduceLT, Nat.reduceLeDiff, Nat.reduceEqDiff, Nat.reduceBEq, Int.reduceToNat, Int.reduceLT, Int.reduceLE, Int.reduceEq, Int.reduceNeg, Int.reduceAdd, Int.reduceSub, Int.reduceMul, ↓reduceIte, Int.reduceBEq, Int.reduceBNe, length_pw, hget_pw0, hget_pw, hset_pw0, hset_pw, Rng.av]
  refine upto_c r 4 (by omega) _ (hp.pw _).app _ fun s vn h1 h2 => ?_
  rw [pw_pwa hr]
  have hvn : 0 ≤ vn ∧ vn ≤ 4 := by omega
  clear h1 h2
  simp -implicitDefEqProofs (maxSteps := 2000000) (disch := omega) only [go_sem, reduceCtorEq, Nat.reduceAdd, Nat.reduceSub, Nat.reduceMul, Nat.reduceLT, Nat.reduceLeDiff, Nat.reduceEqDiff, Nat.reduceBEq, Int.reduceToNat, Int.reduceLT, Int.reduceLE, Int.reduceEq, Int.reduceNeg, Int.reduceAdd, Int.reduceSub, Int.reduceMul, ↓reduceIte, Int.reduceBEq, Int.reduceBNe, length_pw, hget_pw0, hget_pw, hset_pw0, hset_pw, Rng.av]
  refine nearZ_c r vn (0) 12 1 (by omega) (by omega) _ (hp.pw _).app _ fun s v1 v2 c1 c2 c3 c4 c5 c6 Jv => ?_
  rw [pw_pwa hr, List.append_assoc]
  have bv : okB (0) 12 ⟨v1, v2⟩ ∧ vn - 1 ≤ v1 ∧ v2 ≤ vn + 1 := ⟨⟨c1, by show v1 ≤ v2; omega, c4⟩, c5, c6⟩
  clear c1 c2 c3 c4 c5 c6
  simp -implicitDefEqProofs (maxSteps := 2000000) (disch := omega) only [go_sem, reduceCtorEq, Nat.reduceAdd, Nat.reduceSub, Nat.reduceMul, Nat.reduceLT, Nat.reduceLeDiff, Nat.reduceEqDiff, Nat.reduceBEq, Int.reduceToNat, Int.reduceLT, Int.reduceLE, Int.reduceEq, Int.reduceNeg, Int.reduceAdd, Int.reduceSub, Int.reduceMul, ↓reduceIte, Int.reduceBEq, Int.reduceBNe, length_pw, hget_pw0, hget_pw, hset_pw0, hset_pw, Rng.av]
  refine within_c r 10 30 (by omega) (by omega) _ (hp.pw _).app _ fun s le h1 h2 => ?_
  rw [pw_pwa hr]
  have hle : 10 ≤ le ∧ le ≤ 30 := by omega
  clear h1 h2
  simp -implicitDefEqProofs (maxSteps := 2000000) (disch := omega) only [go_sem, reduceCtorEq, Nat.reduceAdd, Nat.reduceSub, Nat.reduceMul, Nat.reduceLT, Nat.reduceLeDiff, Nat.reduceEqDiff, Nat.reduceBEq, Int.reduceToNat, Int.reduceLT, Int.reduceLE, Int.reduceEq, Int.reduceNeg, Int.reduceAdd, Int.reduceSub, Int.reduceMul, ↓reduceIte, Int.reduceBEq, Int.reduceBNe, length_pw, hget_pw0, hget_pw, hset_pw0, hset_pw, Rng.av]
  refine upto_c r 3 (by omega) _ (hp.pw _).app _ fun s sn h1 h2 => ?_
  rw [pw_pwa hr]
  have hsn : 0 ≤ sn ∧ sn ≤ 3 := by omega
  clear h1 h2
  simp -implicitDefEqProofs (maxSteps := 2000000) (disch := omega) only [go_sem, reduceCtorEq, Nat.reduceAdd, Nat.reduceSub, Nat.reduceMul, Nat.reduceLT, Nat.reduceLeDiff, Nat.reduceEqDiff, Nat.reduceBEq, Int.reduceToNat, Int.reduceLT, Int.reduceLE, Int.reduceEq, Int.reduceNeg, Int.reduceAdd, Int.reduceSub, Int.reduceMul, ↓reduceIte, Int.reduceBEq, Int.reduceBNe, length_pw, hget_pw0, hget_pw, hset_pw0, hset_pw, Rng.av]
  obtain ⟨j0, hj0⟩ : ∃ j0, Jp ++ (Jt ++ (Jq ++ (Ju ++ (Jd ++ (Jw ++ Jv))))) = j0 := ⟨_, rfl⟩
  rw [hj0]
  clear hj0
  have fin : ∀ (L : List Rng) s J, L.length ≤ 4 → (∀ x ∈ L, okB (-60) 60 x) → Q (Jb.av ⟨⟨p1, p2⟩, ⟨t1, t2⟩, ⟨q1, q2⟩, ⟨u1, u2⟩, ⟨d1, d2⟩, ⟨w1, w2⟩, ⟨v1, v2⟩, le, L, wi, me⟩) (pw σ r s ++ J) := fun L s J hL hb => by
    obtain ⟨⟨e1, e2, e3⟩, e4, e5⟩ := bp
    obtain ⟨⟨f1, f2, f3⟩, f4, f5⟩ := bu
    obtain ⟨⟨g1, g2, g3⟩, g4, g5⟩ := bd
    obtain ⟨⟨k1, k2, k3⟩, k4, k5⟩ := bw
    obtain ⟨⟨l1, l2, l3⟩, l4, l5⟩ := bv
    simp only at e1 e2 e3 f1 f2 f3 g1 g2 g3 k1 k2 k3 l1 l2 l3
    refine h s _ J ⟨⟨⟨e1, e2, e3⟩, bt.1, bq.1, ⟨f1, f2, f3⟩, ⟨g1, g2, g3⟩, ⟨k1, k2, k3⟩, ⟨l1, l2, l3⟩, by simp only; omega, hL, hb, by simp only; omega, by simp only; omega⟩, ⟨by simp only; omega, by simp only; omega, by simp only; omega⟩, ⟨by simp only; omega, by simp only; omega⟩, ⟨by simp only; omega, by simp only; omega⟩, by simp only; omega, by simp only; omega⟩
  clear h bp bt bq bu bd bw bv hpn htn hrn hun hdn hwn hvn hle hwi hme2
  refine ARun.loopJ (Try.envOK 84 Try.ord6 fs0 fs0_ok) (α := Nat × List Rng) (fun a => sn.toNat - a.1)
    (fun a τ => (∃ s j, τ = pw σ r s ++ (.cells [.int .i64 0, .int .i64 0, .int .i64 0, .int .i64 0, .int .i64 0, .int .i64 0, .int .i64 0, .int .i64 0, .int .i64 0, .int .i64 0, .int .i64 0, .int .i64 0, .int .i64 0, .int .i64 0, .int .i64 0, .list .full 0 [], .int .i64 0, .int .i64 0] :: .cells [.int .i64 p1, .int .i64 p2, .int .i64 t1, .int .i64 t2, .int .i64 q1, .int .i64 q2, .int .i64 u1, .int .i64 u2, .int .i64 d1, .int .i64 d2, .int .i64 w1, .int .i64 w2, .int .i64 v1, .int .i64 v2, .int .i64 le, .list (.own (σ.length + 2)) 2 (a.2.map Rng.av), .int .i64 wi, .int .i64 me] :: .tail a.2.length 2 :: j)) ∧ (a.1 : Int) ≤ sn ∧ a.2.length = a.1 ∧ ∀ x ∈ a.2, okB (-60) 60 x)
    (fun a => [(9, .int .i64 (sn - a.1))]) (0, []) (by kernel_rfl) (by simp [upd, ins, subF, lookA]) ⟨⟨s, j0, by simp⟩, by simp; omega, rfl, by simp⟩ ?_
  rintro ⟨k, L⟩ τ ⟨⟨s', J, rfl⟩, hk, hL, hb⟩ ih
  simp only at hk hL hb ih
  by_cases hlt : (k : Int) < sn
  · have hL4 : L.length ≤ 3 := by omega
    simp -implicitDefEqProofs (maxSteps := 2000000) (disch := omega) only [go_sem, reduceCtorEq, Nat.reduceAdd, Nat.reduceSub, Nat.reduceMul, Nat.reduceLT, Nat.reduceLeDiff, Nat.reduceEqDiff, Nat.reduceBEq, Int.reduceToNat, Int.reduceLT, Int.reduceLE, Int.reduceEq, Int.reduceNeg, Int.reduceAdd, Int.reduceSub, Int.reduceMul, ↓reduceIte, Int.reduceBEq, Int.reduceBNe, length_pw, hget_pw0, hget_pw, hset_pw0, hset_pw, Rng.av]
    refine within_c r (-3) 3 (by omega) (by omega) _ (hp.pw _).app _ fun s2 x h1 h2 => ?_
    rw [pw_pwa hr]
    have hx : -3 ≤ x ∧ x ≤ 3 := by omega
    clear h1 h2
    simp -implicitDefEqProofs (maxSteps := 2000000) (disch := omega) only [go_sem, reduceCtorEq, Nat.reduceAdd, Nat.reduceSub, Nat.reduceMul, Nat.reduceLT, Nat.reduceLeDiff, Nat.reduceEqDiff, Nat.reduceBEq, Int.reduceToNat, Int.reduceLT, Int.reduceLE, Int.reduceEq, Int.reduceNeg, Int.reduceAdd, Int.reduceSub, Int.reduceMul, ↓reduceIte, Int.reduceBEq, Int.reduceBNe, length_pw, hget_pw0, hget_pw, hset_pw0, hset_pw, Rng.av]
    refine nearZ_c r x (-60) 60 2 (by omega) (by omega) _ (hp.pw _).app _ fun s3 a b c1 c2 c3 c4 c5 c6 J2 => ?_
    rw [pw_pwa hr, List.append_assoc]
    have hab : okB (-60) 60 ⟨a, b⟩ := ⟨c1, by show a ≤ b; omega, c4⟩
    clear c1 c2 c3 c4 c5 c6
    simp -implicitDefEqProofs (maxSteps := 2000000) (disch := omega) only [go_sem, reduceCtorEq, Nat.reduceAdd, Nat.reduceSub, Nat.reduceMul, Nat.reduceLT, Nat.reduceLeDiff, Nat.reduceEqDiff, Nat.reduceBEq, Int.reduceToNat, Int.reduceLT, Int.reduceLE, Int.reduceEq, Int.reduceNeg, Int.reduceAdd, Int.reduceSub, Int.reduceMul, ↓reduceIte, Int.reduceBEq, Int.reduceBNe, length_pw, hget_pw0, hget_pw, hset_pw0, hset_pw, Rng.av]
    refine (ih (k + 1, L ++ [⟨a, b⟩]) _ (by simp only; omega) ⟨⟨s3, J ++ J2, rfl⟩, by simp only; omega, by simp [hL], fun y hy => ?_⟩).castS (by simp [Rng.av]) (by simp [upd, ins, subF, lookA]; omega)
    rcases List.mem_append.1 hy with hy | hy
    · exact hb y hy
    · simp at hy; subst hy; exact hab
  · have hke : (k : Int) = sn := by omega
    simp -implicitDefEqProofs (maxSteps := 2000000) (disch := omega) only [go_sem, reduceCtorEq, Nat.reduceAdd, Nat.reduceSub, Nat.reduceMul, Nat.reduceLT, Nat.reduceLeDiff, Nat.reduceEqDiff, Nat.reduceBEq, Int.reduceToNat, Int.reduceLT, Int.reduceLE, Int.reduceEq, Int.reduceNeg, Int.reduceAdd, Int.reduceSub, Int.reduceMul, ↓reduceIte, Int.reduceBEq, Int.reduceBNe, length_pw, hget_pw0, hget_pw, hset_pw0, hset_pw, Rng.av]
    refine ⟨_, ?_, fin L s' _ (by omega) hb⟩
    exact ⟨rfl, rfl, rfl, rfl, rfl, rfl, rfl, rfl, rfl, rfl, rfl, rfl, rfl, rfl, rfl, ⟨rfl, .inl rfl, .inl rfl⟩, rfl, rfl, trivial⟩
end Go.Proofs
