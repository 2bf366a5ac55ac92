/- Texts of a proof: lemmas. -/
import Derived.Test.YtpodkdondibbfaaRB4
set_option linter.unusedSimpArgs false
set_option linter.unusedVariables false
set_option maxRecDepth 100000
namespace Go.Proofs
open Go Go.Mu

/-! The file's strokes. -/
theorem cks_p (j : Jb) (k : Int) (h : OkJ j) (hk : k = 1 ∨ k = 2) (tk : Tok) : PureV Try.prog 52 [j.av, .list tk 1 [.int .i64 k]] (.int .i64 0) := by
  refine PureV.of_ev (E := Try.E 29 (fun _ => ([], [])) fs207) (Try.envOK 29 (fun _ => ([], [])) fs207 fs207_ok) (.int) Try.kp52 Try.func52 rfl (by kernel_rfl) (by simp [Try.E]) (Callable.of Try.func52 (by kernel_rfl) (by kernel_rfl)) (by kernel_rfl) ?_
  intro σ
  simp only [Jb.av, Jb.cells]
  simp -implicitDefEqProofs (maxSteps := 2000000) (disch := omega) only [go_sem, reduceCtorEq, Nat.reduceAdd, Nat.reduceSub, Nat.reduceMul, Nat.reduceLT, Nat.reduceLeDiff, Nat.reduceEqDiff, Nat.reduceBEq, Int.reduceToNat, Int.reduceLT, Int.reduceLE, Int.reduceEq, Int.reduceNeg, Int.reduceAdd, Int.reduceSub, Int.reduceMul, ↓reduceIte, Int.reduceBEq, Int.reduceBNe, h, Rng_eta]
  refine ARun.forJ (Try.envOK 29 (fun _ => ([], [])) fs207 fs207_ok) 1 (fun i τ => τ = σ ++ [.cells j.cells]) (fun i => [(18, .int .i64 i)]) (by kernel_rfl) (by simp [upd, ins, subF, lookA]) rfl ?_ ?_
  · rintro i τ hi rfl ih
    obtain rfl : i = 0 := by omega
    have e0 : idx [AV.int .i64 k] ((0 : Nat) : Int) = some (.int .i64 k) := rfl
    rcases hk with rfl | rfl
    · simp -implicitDefEqProofs (maxSteps := 2000000) (disch := omega) only [go_sem, reduceCtorEq, Nat.reduceAdd, Nat.reduceSub, Nat.reduceMul, Nat.reduceLT, Nat.reduceLeDiff, Nat.reduceEqDiff, Nat.reduceBEq, Int.reduceToNat, Int.reduceLT, Int.reduceLE, Int.reduceEq, Int.reduceNeg, Int.reduceAdd, Int.reduceSub, Int.reduceMul, ↓reduceIte, Int.reduceBEq, Int.reduceBNe, e0]
      exact (ih _ rfl).castS rfl (by simp [upd, ins, subF, lookA])
    · simp -implicitDefEqProofs (maxSteps := 2000000) (disch := omega) only [go_sem, reduceCtorEq, Nat.reduceAdd, Nat.reduceSub, Nat.reduceMul, Nat.reduceLT, Nat.reduceLeDiff, Nat.reduceEqDiff, Nat.reduceBEq, Int.reduceToNat, Int.reduceLT, Int.reduceLE, Int.reduceEq, Int.reduceNeg, Int.reduceAdd, Int.reduceSub, Int.reduceMul, ↓reduceIte, Int.reduceBEq, Int.reduceBNe, e0]
      exact (ih _ rfl).castS rfl (by simp [upd, ins, subF, lookA])
  · rintro τ rfl
    simp -implicitDefEqProofs (maxSteps := 2000000) (disch := omega) only [go_sem, reduceCtorEq, Nat.reduceAdd, Nat.reduceSub, Nat.reduceMul, Nat.reduceLT, Nat.reduceLeDiff, Nat.reduceEqDiff, Nat.reduceBEq, Int.reduceToNat, Int.reduceLT, Int.reduceLE, Int.reduceEq, Int.reduceNeg, Int.reduceAdd, Int.reduceSub, Int.reduceMul, ↓reduceIte, Int.reduceBEq, Int.reduceBNe]
/-- The tongue after a stroke. -/
def strP (j : Jb) (k : Int) : Jb := { j with pitch := if k = 1 then plusR j.pitch j.up else lessR j.pitch j.down, tip := if k = 1 then lessR j.tip j.wt else j.tip, root := if k = 1 then j.root else lessR j.root j.wr }
set_option maxHeartbeats 400000000 in
theorem rafter_p (j : Jb) (k : Int) (h : OkJ j) (hk : k = 1 ∨ k = 2) (tk : Tok) : PureV Try.prog 53 [j.av, .list tk 1 [.int .i64 k]] (stlv (strP j k).pitch (strP j k).tip (strP j k).root j) := by
  refine PureV.of_ev (E := Try.E 27 (fun _ => ([], [])) fs207) (Try.envOK 27 (fun _ => ([], [])) fs207 fs207_ok) (stlv_plain _ _ _ _) Try.kp53 Try.func53 rfl (by kernel_rfl) (by simp [Try.E]) (Callable.of Try.func53 (by kernel_rfl) (by kernel_rfl)) (by kernel_rfl) ?_
  intro σ
  simp only [Jb.av, Jb.cells]
  have b1 : bigR j.pitch := by obtain ⟨a, b, c⟩ := h.pitch; exact ⟨by omega, by omega⟩
  have b2 := okB_bigS h.tip
  have b3 := okB_bigS h.root
  have hfl : OkF ⟨⟨0, 0⟩, ⟨0, 0⟩, ⟨0, 0⟩, j.up, j.down, j.wt, j.wr, j.least, [], 0, 0⟩ := ⟨h.up, h.down, h.wt, h.wr, h.least⟩
  have e0 : idx [AV.int .i64 k] ((0 : Nat) : Int) = some (.int .i64 k) := rfl
  simp -implicitDefEqProofs (maxSteps := 2000000) (disch := omega) only [go_sem, reduceCtorEq, Nat.reduceAdd, Nat.reduceSub, Nat.reduceMul, Nat.reduceLT, Nat.reduceLeDiff, Nat.reduceEqDiff, Nat.reduceBEq, Int.reduceToNat, Int.reduceLT, Int.reduceLE, Int.reduceEq, Int.reduceNeg, Int.reduceAdd, Int.reduceSub, Int.reduceMul, ↓reduceIte, Int.reduceBEq, Int.reduceBNe]
  obtain ⟨P, hP⟩ : ∃ P : Nat → Rng, P = fun i => if i = 0 then j.pitch else (strP j k).pitch := ⟨_, rfl⟩
  obtain ⟨T, hT⟩ : ∃ T : Nat → Rng, T = fun i => if i = 0 then j.tip else (strP j k).tip := ⟨_, rfl⟩
  obtain ⟨R, hR⟩ : ∃ R : Nat → Rng, R = fun i => if i = 0 then j.root else (strP j k).root := ⟨_, rfl⟩
  have p0 : P 0 = j.pitch := by rw [hP]; rfl
  have t0 : T 0 = j.tip := by rw [hT]; rfl
  have r0 : R 0 = j.root := by rw [hR]; rfl
  have p1 : P (0 + 1) = (strP j k).pitch := by rw [hP]; rfl
  have t1 : T (0 + 1) = (strP j k).tip := by rw [hT]; rfl
  have r1 : R (0 + 1) = (strP j k).root := by rw [hR]; rfl
  clear hP hT hR h
  refine ARun.forJ (Try.envOK 27 (fun _ => ([], [])) fs207 fs207_ok) 1 (fun i τ => τ = σ ++ [.cells j.cells, .cells [.int .i64 0, .int .i64 0, .int .i64 0, .int .i64 0, .int .i64 0, .int .i64 0, .int .i64 0, .int .i64 0, .int .i64 0, .int .i64 0, .int .i64 0, .int .i64 0, .int .i64 0, .int .i64 0, .int .i64 0], .cells [.int .i64 (P i).lo, .int .i64 (P i).hi, .int .i64 (T i).lo, .int .i64 (T i).hi, .int .i64 (R i).lo, .int .i64 (R i).hi, .int .i64 j.up.lo, .int .i64 j.up.hi, .int .i64 j.down.lo, .int .i64 j.down.hi, .int .i64 j.wt.lo, .int .i64 j.wt.hi, .int .i64 j.wr.lo, .int .i64 j.wr.hi, .int .i64 j.least]]) (fun i => [(16, .int .i64 i)]) (by kernel_rfl) (by simp [upd, ins, subF, lookA]) (by rw [p0, t0, r0]; rfl) ?_ ?_
  · rintro i τ hi rfl ih
    obtain rfl : i = 0 := by omega
    rw [p1, t1, r1] at ih
    rw [p0, t0, r0]
    clear p0 t0 r0 p1 t1 r1
    rcases hk with rfl | rfl
    · simp -implicitDefEqProofs (maxSteps := 2000000) (disch := omega) only [go_sem, reduceCtorEq, Nat.reduceAdd, Nat.reduceSub, Nat.reduceMul, Nat.reduceLT, Nat.reduceLeDiff, Nat.reduceEqDiff, Nat.reduceBEq, Int.reduceToNat, Int.reduceLT, Int.reduceLE, Int.reduceEq, Int.reduceNeg, Int.reduceAdd, Int.reduceSub, Int.reduceMul, ↓reduceIte, Int.reduceBEq, Int.reduceBNe, e0, Rng_eta, okStl, hfl, b1, b2, b3, stlv, Jb.file]
      exact (ih _ rfl).castS rfl (by simp [upd, ins, subF, lookA])
    · simp -implicitDefEqProofs (maxSteps := 2000000) (disch := omega) only [go_sem, reduceCtorEq, Nat.reduceAdd, Nat.reduceSub, Nat.reduceMul, Nat.reduceLT, Nat.reduceLeDiff, Nat.reduceEqDiff, Nat.reduceBEq, Int.reduceToNat, Int.reduceLT, Int.reduceLE, Int.reduceEq, Int.reduceNeg, Int.reduceAdd, Int.reduceSub, Int.reduceMul, ↓reduceIte, Int.reduceBEq, Int.reduceBNe, e0, Rng_eta, okStl, hfl, b1, b2, b3, stlv, Jb.file]
      exact (ih _ rfl).castS rfl (by simp [upd, ins, subF, lookA])
  · rintro τ rfl
    have p2 : P 1 = (strP j k).pitch := p1
    have t2 : T 1 = (strP j k).tip := t1
    have r2 : R 1 = (strP j k).root := r1
    rw [p2, t2, r2]
    clear p0 t0 r0 p1 t1 r1 p2 t2 r2
    simp -implicitDefEqProofs (maxSteps := 2000000) (disch := omega) only [go_sem, reduceCtorEq, Nat.reduceAdd, Nat.reduceSub, Nat.reduceMul, Nat.reduceLT, Nat.reduceLeDiff, Nat.reduceEqDiff, Nat.reduceBEq, Int.reduceToNat, Int.reduceLT, Int.reduceLE, Int.reduceEq, Int.reduceNeg, Int.reduceAdd, Int.reduceSub, Int.reduceMul, ↓reduceIte, Int.reduceBEq, Int.reduceBNe, stlv, Jb.file]
theorem inner_c (r : Nat) (x : Rng) (hx : (-1000000 ≤ x.lo ∧ x.lo ≤ x.hi) ∧ x.hi ≤ 1000000) (σ : List AObj) (hp : PotAt σ r) (Q : AV → List AObj → Prop) (h : ∀ s' y junk, x.lo ≤ y → y ≤ x.hi → Q (.int .i64 y) (pw σ r s' ++ junk)) :
    ACalls Try.prog 41 [.ptr r 0, x.av] σ Q := by
  refine ACalls.of_ev (E := Try.E 18 Try.ord41 fs0) (Try.envOK 18 Try.ord41 fs0 fs0_ok) Try.kp41 Try.func41 rfl (by kernel_rfl) (by simp [Try.E]) (Callable.of Try.func41 (by kernel_rfl) (by kernel_rfl)) (by kernel_rfl) ?_
  have hr := hp.lt
  simp only [Rng.av]
  simp -implicitDefEqProofs (maxSteps := 2000000) (disch := omega) only [go_sem, reduceCtorEq, Nat.reduceAdd, Nat.reduceSub, Nat.reduceMul, Nat.reduceLT, Nat.reduceLeDiff, Nat.reduceEqDiff, Nat.reduceBEq, Int.reduceToNat, Int.reduceLT, Int.reduceLE, Int.reduceEq, Int.reduceNeg, Int.reduceAdd, Int.reduceSub, Int.reduceMul, ↓reduceIte, Int.reduceBEq, Int.reduceBNe, length_pw, hget_pw0, hget_pw, hset_pw0, hset_pw]
  refine within_c r x.lo x.hi (by omega) (by omega) _ hp.app _ fun s1 a h1 h2 => ?_
  rw [pw_app hr]
  simp -implicitDefEqProofs (maxSteps := 2000000) (disch := omega) only [go_sem, reduceCtorEq, Nat.reduceAdd, Nat.reduceSub, Nat.reduceMul, Nat.reduceLT, Nat.reduceLeDiff, Nat.reduceEqDiff, Nat.reduceBEq, Int.reduceToNat, Int.reduceLT, Int.reduceLE, Int.reduceEq, Int.reduceNeg, Int.reduceAdd, Int.reduceSub, Int.reduceMul, ↓reduceIte, Int.reduceBEq, Int.reduceBNe, length_pw, hget_pw0, hget_pw, hset_pw0, hset_pw]
  refine of_c r [x.lo, x.hi, a] .full (by simp) _ (hp.pw _).app _ fun s2 b hb => ?_
  rw [pw_pwa hr]
  have hb2 : x.lo ≤ b ∧ b ≤ x.hi := by simp at hb; omega
  simp -implicitDefEqProofs (maxSteps := 2000000) (disch := omega) only [go_sem, reduceCtorEq, Nat.reduceAdd, Nat.reduceSub, Nat.reduceMul, Nat.reduceLT, Nat.reduceLeDiff, Nat.reduceEqDiff, Nat.reduceBEq, Int.reduceToNat, Int.reduceLT, Int.reduceLE, Int.reduceEq, Int.reduceNeg, Int.reduceAdd, Int.reduceSub, Int.reduceMul, ↓reduceIte, Int.reduceBEq, Int.reduceBNe, length_pw, hget_pw0, hget_pw, hset_pw0, hset_pw]
  exact h _ _ _ hb2.1 hb2.2
end Go.Proofs
