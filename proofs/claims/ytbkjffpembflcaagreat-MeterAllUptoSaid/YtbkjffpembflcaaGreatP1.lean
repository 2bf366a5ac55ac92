/- Texts of a proof: lemmas. -/
import Derived.Test.YtbkjffpembflcaaGreatFA
set_option linter.unusedSimpArgs false
set_option linter.unusedVariables false
set_option maxRecDepth 100000
namespace Go.Proofs
open Go Go.Mu

theorem inR_p (w : Rng) (n : Int) : PureV Tryz.prog 30 [w.av, .int .i64 n] (.bool (decide (w.lo ≤ n ∧ n ≤ w.hi))) := by
  refine PureV.of_ev (E := Tryz.E 15 (fun _ => ([], [])) fs0) (Tryz.envOK 15 (fun _ => ([], [])) fs0 fs0_ok) (.bool) Tryz.kp30 Tryz.func30 rfl (by kernel_rfl) (by simp [Tryz.E]) (Callable.of Tryz.func30 (by kernel_rfl) (by kernel_rfl)) (by kernel_rfl) ?_
  intro σ
  obtain ⟨lo, hi⟩ := w
  simp only [Rng.av]
  simp -implicitDefEqProofs (maxSteps := 2000000) (disch := omega) only [go_sem, reduceCtorEq, Nat.reduceAdd, Nat.reduceSub, Nat.reduceMul, Nat.reduceLT, Nat.reduceLeDiff, Nat.reduceEqDiff, Nat.reduceBEq, Int.reduceToNat, Int.reduceLT, Int.reduceLE, Int.reduceEq, Int.reduceNeg, Int.reduceAdd, Int.reduceSub, Int.reduceMul, ↓reduceIte, Int.reduceBEq, Int.reduceBNe]
  refine ⟨fun h => ⟨fun h2 => ?_, fun h2 => ?_⟩, fun h => ?_⟩ <;> simp [h, *] <;> omega
def inR_s := spec2 tRng tI fun w n => some (.bool (decide (w.lo ≤ n ∧ n ≤ w.hi)))
theorem inR_ok : ∀ xs v, inR_s xs = some v → PureV Tryz.prog 30 xs v :=
  spec2_ok fun w n v h => by simp only [Option.some.injEq] at h; rw [← h]; exact inR_p w n
theorem lvd_p (so n : Int) : PureV Tryz.prog 31 [.int .i64 so, .int .i64 n] (.int .i64 (if so = n then 1 else if so = 0 then 2 else 3)) := by
  refine PureV.of_ev (E := Tryz.E 11 (fun _ => ([], [])) fs0) (Tryz.envOK 11 (fun _ => ([], [])) fs0 fs0_ok) (.int) Tryz.kp31 Tryz.func31 rfl (by kernel_rfl) (by simp [Tryz.E]) (Callable.of Tryz.func31 (by kernel_rfl) (by kernel_rfl)) (by kernel_rfl) ?_
  intro σ
  simp -implicitDefEqProofs (maxSteps := 2000000) (disch := omega) only [go_sem, reduceCtorEq, Nat.reduceAdd, Nat.reduceSub, Nat.reduceMul, Nat.reduceLT, Nat.reduceLeDiff, Nat.reduceEqDiff, Nat.reduceBEq, Int.reduceToNat, Int.reduceLT, Int.reduceLE, Int.reduceEq, Int.reduceNeg, Int.reduceAdd, Int.reduceSub, Int.reduceMul, ↓reduceIte, Int.reduceBEq, Int.reduceBNe]
  grind
def lvd_s := spec2 tI tI fun so n => some (.int .i64 (if so = n then 1 else if so = 0 then 2 else 3))
theorem lvd_ok : ∀ xs v, lvd_s xs = some v → PureV Tryz.prog 31 xs v :=
  spec2_ok fun so n v h => by simp only [Option.some.injEq] at h; rw [← h]; exact lvd_p so n
theorem lap_p (a b : Int) (ha : 0 ≤ a ∧ a ≤ 1000000) (hb : 0 ≤ b ∧ b ≤ 1000000) : PureV Tryz.prog 33 [.int .i64 a, .int .i64 b] (.int .i64 (dist a b)) := by
  refine PureV.of_ev (E := Tryz.E 12 (fun _ => ([], [])) fs0) (Tryz.envOK 12 (fun _ => ([], [])) fs0 fs0_ok) (.int) Tryz.kp33 Tryz.func33 rfl (by kernel_rfl) (by simp [Tryz.E]) (Callable.of Tryz.func33 (by kernel_rfl) (by kernel_rfl)) (by kernel_rfl) ?_
  intro σ
  simp -implicitDefEqProofs (maxSteps := 2000000) (disch := omega) only [go_sem, reduceCtorEq, Nat.reduceAdd, Nat.reduceSub, Nat.reduceMul, Nat.reduceLT, Nat.reduceLeDiff, Nat.reduceEqDiff, Nat.reduceBEq, Int.reduceToNat, Int.reduceLT, Int.reduceLE, Int.reduceEq, Int.reduceNeg, Int.reduceAdd, Int.reduceSub, Int.reduceMul, ↓reduceIte, Int.reduceBEq, Int.reduceBNe]
  simp only [dist]; grind
def lap_s := spec2 tI tI fun a b => if (0 ≤ a ∧ a ≤ 1000000) ∧ (0 ≤ b ∧ b ≤ 1000000) then some (.int .i64 (dist a b)) else none
theorem lap_ok : ∀ xs v, lap_s xs = some v → PureV Tryz.prog 33 xs v :=
  spec2_ok fun a b v h => by have h := someIf h; rw [← h.2]; exact lap_p a b h.1.1 h.1.2
/-- Whether a verdict is right. -/
def rightL (v : Int) (b : Bool) : Bool := decide (v = 3) || (decide (v = 1) && b) || (decide (v = 2) && !b)
theorem lright_p (v : Int) (b : Bool) : PureV Tryz.prog 39 [.int .i64 v, .bool b] (.bool (rightL v b)) := by
  refine PureV.of_ev (E := Tryz.E 22 (fun _ => ([], [])) fs0) (Tryz.envOK 22 (fun _ => ([], [])) fs0 fs0_ok) (.bool) Tryz.kp39 Tryz.func39 rfl (by kernel_rfl) (by simp [Tryz.E]) (Callable.of Tryz.func39 (by kernel_rfl) (by kernel_rfl)) (by kernel_rfl) ?_
  intro σ
  by_cases h3 : v = 3
  · subst h3
    cases b <;>
    · simp -implicitDefEqProofs (maxSteps := 2000000) (disch := omega) only [go_sem, reduceCtorEq, Nat.reduceAdd, Nat.reduceSub, Nat.reduceMul, Nat.reduceLT, Nat.reduceLeDiff, Nat.reduceEqDiff, Nat.reduceBEq, Int.reduceToNat, Int.reduceLT, Int.reduceLE, Int.reduceEq, Int.reduceNeg, Int.reduceAdd, Int.reduceSub, Int.reduceMul, ↓reduceIte, Int.reduceBEq, Int.reduceBNe, rightL]
  · by_cases h1 : v = 1
    · subst h1
      cases b <;>
      · simp -implicitDefEqProofs (maxSteps := 2000000) (disch := omega) only [go_sem, reduceCtorEq, Nat.reduceAdd, Nat.reduceSub, Nat.reduceMul, Nat.reduceLT, Nat.reduceLeDiff, Nat.reduceEqDiff, Nat.reduceBEq, Int.reduceToNat, Int.reduceLT, Int.reduceLE, Int.reduceEq, Int.reduceNeg, Int.reduceAdd, Int.reduceSub, Int.reduceMul, ↓reduceIte, Int.reduceBEq, Int.reduceBNe, rightL]
    · by_cases h2 : v = 2
      · subst h2
        cases b <;>
        · simp -implicitDefEqProofs (maxSteps := 2000000) (disch := omega) only [go_sem, reduceCtorEq, Nat.reduceAdd, Nat.reduceSub, Nat.reduceMul, Nat.reduceLT, Nat.reduceLeDiff, Nat.reduceEqDiff, Nat.reduceBEq, Int.reduceToNat, Int.reduceLT, Int.reduceLE, Int.reduceEq, Int.reduceNeg, Int.reduceAdd, Int.reduceSub, Int.reduceMul, ↓reduceIte, Int.reduceBEq, Int.reduceBNe, rightL]
      · cases b <;>
        · simp -implicitDefEqProofs (maxSteps := 2000000) (disch := omega) only [go_sem, reduceCtorEq, Nat.reduceAdd, Nat.reduceSub, Nat.reduceMul, Nat.reduceLT, Nat.reduceLeDiff, Nat.reduceEqDiff, Nat.reduceBEq, Int.reduceToNat, Int.reduceLT, Int.reduceLE, Int.reduceEq, Int.reduceNeg, Int.reduceAdd, Int.reduceSub, Int.reduceMul, ↓reduceIte, Int.reduceBEq, Int.reduceBNe, rightL, h1, h2, h3]
def lright_s : List AV → Option AV
  | [.int .i64 v, .bool b] => some (.bool (rightL v b))
  | _ => none
theorem lright_ok : ∀ xs v, lright_s xs = some v → PureV Tryz.prog 39 xs v := by
  intro xs v h
  unfold lright_s at h
  split at h
  · simp only [Option.some.injEq] at h; rw [← h]; exact lright_p _ _
  · cases h
theorem lplace_p (l : List Int) (x : Int) (hl : l.length ≤ 4294967296) : PureV Tryz.prog 29 [.list .no 1 (l.map (.int .i64)), .int .i64 x] (.int .i64 (placeL l x)) := by
  refine PureV.of_ev (E := Tryz.E 19 (fun _ => ([], [])) fs0) (Tryz.envOK 19 (fun _ => ([], [])) fs0 fs0_ok) (.int) Tryz.kp29 Tryz.func29 rfl (by kernel_rfl) (by simp [Tryz.E]) (Callable.of Tryz.func29 (by kernel_rfl) (by kernel_rfl)) (by kernel_rfl) ?_
  intro σ
  simp -implicitDefEqProofs (maxSteps := 2000000) (disch := omega) only [go_sem, reduceCtorEq, Nat.reduceAdd, Nat.reduceSub, Nat.reduceMul, Nat.reduceLT, Nat.reduceLeDiff, Nat.reduceEqDiff, Nat.reduceBEq, Int.reduceToNat, Int.reduceLT, Int.reduceLE, Int.reduceEq, Int.reduceNeg, Int.reduceAdd, Int.reduceSub, Int.reduceMul, ↓reduceIte, Int.reduceBEq, Int.reduceBNe]
  refine ARun.forS (Tryz.envOK 19 (fun _ => ([], [])) fs0 fs0_ok) l.length (fun i => x ∉ l.take i) (fun i => [(5, .int .i64 i)]) (fun _ _ => σ) [] (by kernel_rfl) rfl (by simp [upd, ins, subF, lookA]) (by simp) ?_ ?_
  · intro i j hi hp ih
    have hli : idx (l.map (AV.int .i64)) (i : Int) = some (.int .i64 l[i]) := by rw [idx_nat hi]
    have hat := place_at (x := x) hi hp
    have hns := notin_succ (x := x) hi hp
    generalize l[i] = y at hli hat hns
    clear hp
    by_cases hy : x = y
    · rw [hat hy.symm]
      simp -implicitDefEqProofs (maxSteps := 2000000) (disch := omega) only [go_sem, reduceCtorEq, Nat.reduceAdd, Nat.reduceSub, Nat.reduceMul, Nat.reduceLT, Nat.reduceLeDiff, Nat.reduceEqDiff, Nat.reduceBEq, Int.reduceToNat, Int.reduceLT, Int.reduceLE, Int.reduceEq, Int.reduceNeg, Int.reduceAdd, Int.reduceSub, Int.reduceMul, ↓reduceIte, Int.reduceBEq, Int.reduceBNe, hli]
    · simp -implicitDefEqProofs (maxSteps := 2000000) (disch := omega) only [go_sem, reduceCtorEq, Nat.reduceAdd, Nat.reduceSub, Nat.reduceMul, Nat.reduceLT, Nat.reduceLeDiff, Nat.reduceEqDiff, Nat.reduceBEq, Int.reduceToNat, Int.reduceLT, Int.reduceLE, Int.reduceEq, Int.reduceNeg, Int.reduceAdd, Int.reduceSub, Int.reduceMul, ↓reduceIte, Int.reduceBEq, Int.reduceBNe, hli]
      exact (ih (hns fun e => hy e.symm) []).castS rfl (by simp [upd, ins, subF, lookA])
  · intro j hp
    rw [List.take_length] at hp
    have : placeL l x = -1 := by unfold placeL; rw [if_neg hp]
    rw [this]
    simp -implicitDefEqProofs (maxSteps := 2000000) (disch := omega) only [go_sem, reduceCtorEq, Nat.reduceAdd, Nat.reduceSub, Nat.reduceMul, Nat.reduceLT, Nat.reduceLeDiff, Nat.reduceEqDiff, Nat.reduceBEq, Int.reduceToNat, Int.reduceLT, Int.reduceLE, Int.reduceEq, Int.reduceNeg, Int.reduceAdd, Int.reduceSub, Int.reduceMul, ↓reduceIte, Int.reduceBEq, Int.reduceBNe]
def lplace_s := spec2 tIs tI fun l x => if l.length ≤ 4294967296 then some (.int .i64 (placeL l x)) else none
theorem lplace_ok : ∀ xs v, lplace_s xs = some v → PureV Tryz.prog 29 xs v :=
  spec2_ok fun l x v h => by have h := someIf h; rw [← h.2]; exact lplace_p l x h.1
end Go.Proofs
