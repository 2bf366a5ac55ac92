/- Texts of a proof: lemmas. -/
import Derived.Test.YtbkjffpembflcaaGreatRl
set_option linter.unusedSimpArgs false
set_option linter.unusedVariables false
set_option maxRecDepth 100000
namespace Go.Proofs
open Go Go.Mu

def in_s := spec3 tI tI tI fun n lo hi => some (.bool (decide (lo ≤ n ∧ n ≤ hi)))
theorem in_ok : ∀ xs v, in_s xs = some v → PureV Tryz.prog 60 xs v := by
  refine spec3_ok fun n lo hi v h => ?_
  simp only [Option.some.injEq] at h; subst h
  refine PureV.of_ev (E := Tryz.E 15 (fun _ => ([], [])) fs0) (Tryz.envOK 15 (fun _ => ([], [])) fs0 fs0_ok) (.bool) Tryz.kp60 Tryz.func60 rfl (by kernel_rfl) (by simp [Tryz.E]) (Callable.of Tryz.func60 (by kernel_rfl) (by kernel_rfl)) (by kernel_rfl) ?_
  intro σ
  simp only [tI]
  simp -implicitDefEqProofs (maxSteps := 2000000) (disch := omega) only [go_sem, reduceCtorEq, Nat.reduceAdd, Nat.reduceSub, Nat.reduceMul, Nat.reduceLT, Nat.reduceLeDiff, Nat.reduceEqDiff, Nat.reduceBEq, Int.reduceToNat, Int.reduceLT, Int.reduceLE, Int.reduceEq, Int.reduceNeg, Int.reduceAdd, Int.reduceSub, Int.reduceMul, ↓reduceIte, Int.reduceBEq, Int.reduceBNe]
  refine ⟨fun h1 => ⟨fun h2 => ?_, fun h2 => ?_⟩, fun h1 => ?_⟩ <;> simp [h1, *]

def fs1 (f : FuncId) (xs : List AV) : Option AV := if f = 60 then in_s xs else fs0 f xs
theorem fs1_ok : ∀ f xs v, fs1 f xs = some v → PureV Tryz.prog f xs v := by
  intro f xs v h
  unfold fs1 at h
  split at h
  · rename_i e; subst e; exact in_ok _ _ h
  exact fs0_ok _ _ _ h
attribute [go_sem] fs1 in_s
set_option maxHeartbeats 1000000 in
theorem ckR_p (r : Rd) (m : Int) (hm : 0 ≤ m) (hm' : m ≤ 4294967296) : PureV Tryz.prog 61 [r.av, .int .i64 m] (.int .i64 (ckR r m)) := by
  refine PureV.of_ev (E := Tryz.E 82 (fun _ => ([], [])) fs1) (Tryz.envOK 82 (fun _ => ([], [])) fs1 fs1_ok) (.int) Tryz.kp61 Tryz.func61 rfl (by kernel_rfl) (by simp [Tryz.E]) (Callable.of Tryz.func61 (by kernel_rfl) (by kernel_rfl)) (by kernel_rfl) ?_
  intro σ
  obtain ⟨k, a, b, s, x, y⟩ := r
  simp only [Rd.av]
  rcases (by omega : k = 1 ∨ k = 2 ∨ k = 3 ∨ (k < 1 ∨ 3 < k)) with rfl | rfl | rfl | hk
  · simp -implicitDefEqProofs (maxSteps := 2000000) (disch := omega) only [go_sem, reduceCtorEq, Nat.reduceAdd, Nat.reduceSub, Nat.reduceMul, Nat.reduceLT, Nat.reduceLeDiff, Nat.reduceEqDiff, Nat.reduceBEq, Int.reduceToNat, Int.reduceLT, Int.reduceLE, Int.reduceEq, Int.reduceNeg, Int.reduceAdd, Int.reduceSub, Int.reduceMul, ↓reduceIte, Int.reduceBEq, Int.reduceBNe]
    simp only [ckR]; grind
  · simp -implicitDefEqProofs (maxSteps := 2000000) (disch := omega) only [go_sem, reduceCtorEq, Nat.reduceAdd, Nat.reduceSub, Nat.reduceMul, Nat.reduceLT, Nat.reduceLeDiff, Nat.reduceEqDiff, Nat.reduceBEq, Int.reduceToNat, Int.reduceLT, Int.reduceLE, Int.reduceEq, Int.reduceNeg, Int.reduceAdd, Int.reduceSub, Int.reduceMul, ↓reduceIte, Int.reduceBEq, Int.reduceBNe]
    simp only [ckR]; grind
  · simp -implicitDefEqProofs (maxSteps := 2000000) (disch := omega) only [go_sem, reduceCtorEq, Nat.reduceAdd, Nat.reduceSub, Nat.reduceMul, Nat.reduceLT, Nat.reduceLeDiff, Nat.reduceEqDiff, Nat.reduceBEq, Int.reduceToNat, Int.reduceLT, Int.reduceLE, Int.reduceEq, Int.reduceNeg, Int.reduceAdd, Int.reduceSub, Int.reduceMul, ↓reduceIte, Int.reduceBEq, Int.reduceBNe]
    simp only [ckR]; grind
  · simp -implicitDefEqProofs (maxSteps := 2000000) (disch := omega) only [go_sem, reduceCtorEq, Nat.reduceAdd, Nat.reduceSub, Nat.reduceMul, Nat.reduceLT, Nat.reduceLeDiff, Nat.reduceEqDiff, Nat.reduceBEq, Int.reduceToNat, Int.reduceLT, Int.reduceLE, Int.reduceEq, Int.reduceNeg, Int.reduceAdd, Int.reduceSub, Int.reduceMul, ↓reduceIte, Int.reduceBEq, Int.reduceBNe]
    simp only [ckR]; grind
def ckR_s := spec2 tRd tI fun r m => if 0 ≤ m ∧ m ≤ 4294967296 then some (.int .i64 (ckR r m)) else none
theorem ckR_ok : ∀ xs v, ckR_s xs = some v → PureV Tryz.prog 61 xs v :=
  spec2_ok fun r m v h => by have h := someIf h; rw [← h.2]; exact ckR_p r m h.1.1 h.1.2

theorem apart_p (t : List Int) (a b : Int) (ht : t.length = 3) (hs : small t) (ha : 0 ≤ a ∧ a ≤ 2) (hb : 0 ≤ b ∧ b ≤ 2) : PureV Tryz.prog 74 [tav t, .int .i64 a, .int .i64 b] (.int .i64 (dist (tg t a) (tg t b))) := by
  refine PureV.of_ev (E := Tryz.E 22 Tryz.ord74 fs1) (Tryz.envOK 22 Tryz.ord74 fs1 fs1_ok) (.int) Tryz.kp74 Tryz.func74 rfl (by kernel_rfl) (by simp [Tryz.E]) (Callable.of Tryz.func74 (by kernel_rfl) (by kernel_rfl)) (by kernel_rfl) ?_
  intro σ
  simp only [tav]
  have h1 := small_tg hs a
  have h2 := small_tg hs b
  simp -implicitDefEqProofs (maxSteps := 2000000) (disch := omega) only [go_sem, reduceCtorEq, Nat.reduceAdd, Nat.reduceSub, Nat.reduceMul, Nat.reduceLT, Nat.reduceLeDiff, Nat.reduceEqDiff, Nat.reduceBEq, Int.reduceToNat, Int.reduceLT, Int.reduceLE, Int.reduceEq, Int.reduceNeg, Int.reduceAdd, Int.reduceSub, Int.reduceMul, ↓reduceIte, Int.reduceBEq, Int.reduceBNe]

  simp only [dist]; grind
theorem count_p (r : Rd) (sl : Int) (t : List Int) (ht : t.length = 3) (hs : small t) (ha : 0 ≤ r.a ∧ r.a ≤ 2) (hk : r.kind = 1) (h1 : 0 ≤ r.sec ∧ r.sec ≤ 20) (h2 : 0 ≤ r.shown.lo ∧ r.shown.lo ≤ 100000) (h3 : 0 ≤ r.shown.hi ∧ r.shown.hi ≤ 100000) (h4 : 0 ≤ sl ∧ sl ≤ 3) :
    PureV Tryz.prog 122 [.agg [.int .i64 r.kind, .int .i64 r.a, .int .i64 r.b, .int .i64 r.sec, .int .i64 r.shown.lo, .int .i64 r.shown.hi, .int .i64 sl], tav t] (.bool (isR r sl t)) := by
  refine PureV.of_ev (E := Tryz.E 39 Tryz.ord122 fs1) (Tryz.envOK 39 Tryz.ord122 fs1 fs1_ok) (.bool) Tryz.kp122 Tryz.func122 rfl (by kernel_rfl) (by simp [Tryz.E]) (Callable.of Tryz.func122 (by kernel_rfl) (by kernel_rfl)) (by kernel_rfl) ?_
  intro σ
  simp only [tav]
  have h5 := small_tg hs r.a
  have h6 : 0 ≤ tg t r.a * r.sec ∧ tg t r.a * r.sec ≤ 20000000 := ⟨Int.mul_nonneg h5.1 h1.1, by have := Int.mul_le_mul h5.2 h1.2 h1.1 (by omega); omega⟩
  simp -implicitDefEqProofs (maxSteps := 2000000) (disch := omega) only [go_sem, reduceCtorEq, Nat.reduceAdd, Nat.reduceSub, Nat.reduceMul, Nat.reduceLT, Nat.reduceLeDiff, Nat.reduceEqDiff, Nat.reduceBEq, Int.reduceToNat, Int.reduceLT, Int.reduceLE, Int.reduceEq, Int.reduceNeg, Int.reduceAdd, Int.reduceSub, Int.reduceMul, ↓reduceIte, Int.reduceBEq, Int.reduceBNe]

  simp only [isR, hk]; grind
end Go.Proofs
