/- Texts of a proof: lemmas. -/
import Derived.Test.YtbkjffpembflcaaGreatA2
import Derived.Test.YtbkjffpembflcaaGreatA6
set_option linter.unusedSimpArgs false
set_option linter.unusedVariables false
set_option maxRecDepth 100000
namespace Go.Proofs
open Go Go.Mu

theorem ramong_p (n lo hi : Int) : PureV Tryz.prog 62 [.int .i64 n, .int .i64 lo, .int .i64 hi] (.bool (decide (lo ≤ n ∧ n ≤ hi))) := by
  refine PureV.of_ev (E := Tryz.E 15 (fun _ => ([], [])) fs0) (Tryz.envOK 15 (fun _ => ([], [])) fs0 fs0_ok) (.bool) Tryz.kp62 Tryz.func62 rfl (by kernel_rfl) (by simp [Tryz.E]) (Callable.of Tryz.func62 (by kernel_rfl) (by kernel_rfl)) (by kernel_rfl) ?_
  intro σ
  simp -implicitDefEqProofs (maxSteps := 2000000) (disch := omega) only [go_sem, reduceCtorEq, Nat.reduceAdd, Nat.reduceSub, Nat.reduceMul, Nat.reduceLT, Nat.reduceLeDiff, Nat.reduceEqDiff, Nat.reduceBEq, Int.reduceToNat, Int.reduceLT, Int.reduceLE, Int.reduceEq, Int.reduceNeg, Int.reduceAdd, Int.reduceSub, Int.reduceMul, ↓reduceIte, Int.reduceBEq, Int.reduceBNe]
  exact ⟨fun h1 => ⟨fun h2 => by simp [*], fun h2 => by simp [*]⟩, fun h1 => by simp [*]⟩
def ramong_s := spec3 tI tI tI fun n lo hi => some (.bool (decide (lo ≤ n ∧ n ≤ hi)))
theorem ramong_ok : ∀ xs v, ramong_s xs = some v → PureV Tryz.prog 62 xs v :=
  spec3_ok fun n lo hi v h => by simp only [Option.some.injEq] at h; rw [← h]; exact ramong_p n lo hi
def fs101 (f : FuncId) (xs : List AV) : Option AV := if f = 62 then ramong_s xs else fs1 f xs
theorem fs101_ok : ∀ f xs v, fs101 f xs = some v → PureV Tryz.prog f xs v := by
  intro f xs v h
  unfold fs101 at h
  split at h
  · rename_i e; subst e; exact ramong_ok _ _ h
  exact fs1_ok _ _ _ h
attribute [go_sem] fs101 ramong_s
def ckRng (x : Rng) (lo hi : Int) : Int := if ¬ (lo ≤ x.lo ∧ x.lo ≤ hi) ∨ ¬ (lo ≤ x.hi ∧ x.hi ≤ hi) then 1 else if x.hi < x.lo then 5 else 0
theorem rrange_p (x : Rng) (lo hi : Int) : PureV Tryz.prog 63 [x.av, .int .i64 lo, .int .i64 hi] (.int .i64 (ckRng x lo hi)) := by
  refine PureV.of_ev (E := Tryz.E 26 (fun _ => ([], [])) fs101) (Tryz.envOK 26 (fun _ => ([], [])) fs101 fs101_ok) (.int) Tryz.kp63 Tryz.func63 rfl (by kernel_rfl) (by simp [Tryz.E]) (Callable.of Tryz.func63 (by kernel_rfl) (by kernel_rfl)) (by kernel_rfl) ?_
  intro σ
  simp only [Rng.av]
  unfold ckRng
  by_cases h1 : lo ≤ x.lo ∧ x.lo ≤ hi
  · have d1 : decide (lo ≤ x.lo ∧ x.lo ≤ hi) = true := decide_eq_true h1
    by_cases h2 : lo ≤ x.hi ∧ x.hi ≤ hi
    · have d2 : decide (lo ≤ x.hi ∧ x.hi ≤ hi) = true := decide_eq_true h2
      rw [if_neg (by rintro (h | h); exact h h1; exact h h2)]
      simp -implicitDefEqProofs (maxSteps := 2000000) (disch := omega) only [go_sem, reduceCtorEq, Nat.reduceAdd, Nat.reduceSub, Nat.reduceMul, Nat.reduceLT, Nat.reduceLeDiff, Nat.reduceEqDiff, Nat.reduceBEq, Int.reduceToNat, Int.reduceLT, Int.reduceLE, Int.reduceEq, Int.reduceNeg, Int.reduceAdd, Int.reduceSub, Int.reduceMul, ↓reduceIte, Int.reduceBEq, Int.reduceBNe, d1, d2]
      exact ⟨fun h => by rw [if_pos (by omega)], fun h => by rw [if_neg (by omega)]⟩
    · have d2 : decide (lo ≤ x.hi ∧ x.hi ≤ hi) = false := decide_eq_false h2
      rw [if_pos (.inr h2)]
      simp -implicitDefEqProofs (maxSteps := 2000000) (disch := omega) only [go_sem, reduceCtorEq, Nat.reduceAdd, Nat.reduceSub, Nat.reduceMul, Nat.reduceLT, Nat.reduceLeDiff, Nat.reduceEqDiff, Nat.reduceBEq, Int.reduceToNat, Int.reduceLT, Int.reduceLE, Int.reduceEq, Int.reduceNeg, Int.reduceAdd, Int.reduceSub, Int.reduceMul, ↓reduceIte, Int.reduceBEq, Int.reduceBNe, d1, d2]
  · have d1 : decide (lo ≤ x.lo ∧ x.lo ≤ hi) = false := decide_eq_false h1
    rw [if_pos (.inl h1)]
    simp -implicitDefEqProofs (maxSteps := 2000000) (disch := omega) only [go_sem, reduceCtorEq, Nat.reduceAdd, Nat.reduceSub, Nat.reduceMul, Nat.reduceLT, Nat.reduceLeDiff, Nat.reduceEqDiff, Nat.reduceBEq, Int.reduceToNat, Int.reduceLT, Int.reduceLE, Int.reduceEq, Int.reduceNeg, Int.reduceAdd, Int.reduceSub, Int.reduceMul, ↓reduceIte, Int.reduceBEq, Int.reduceBNe, d1]
def rrange_s := spec3 tRng tI tI fun x lo hi => some (.int .i64 (ckRng x lo hi))
theorem rrange_ok : ∀ xs v, rrange_s xs = some v → PureV Tryz.prog 63 xs v :=
  spec3_ok fun x lo hi v h => by simp only [Option.some.injEq] at h; rw [← h]; exact rrange_p x lo hi
def fs102 (f : FuncId) (xs : List AV) : Option AV := if f = 63 then rrange_s xs else fs101 f xs
theorem fs102_ok : ∀ f xs v, fs102 f xs = some v → PureV Tryz.prog f xs v := by
  intro f xs v h
  unfold fs102 at h
  split at h
  · rename_i e; subst e; exact rrange_ok _ _ h
  exact fs101_ok _ _ _ h
attribute [go_sem] fs102 rrange_s
end Go.Proofs
set_option linter.unusedSimpArgs false
set_option linter.unusedVariables false
set_option maxRecDepth 100000
namespace Go.Proofs
open Go Go.Mu

set_option maxHeartbeats 4000000 in
theorem rreading_p (r : Rd) (m : Int) (h1 : 0 ≤ m) (h2 : m ≤ 4294967296) : PureV Tryz.prog 64 [r.av, .int .i64 m] (.int .i64 (ckR r m)) := by
  refine PureV.of_ev (E := Tryz.E 69 (fun _ => ([], [])) fs102) (Tryz.envOK 69 (fun _ => ([], [])) fs102 fs102_ok) (.int) Tryz.kp64 Tryz.func64 rfl (by kernel_rfl) (by simp [Tryz.E]) (Callable.of Tryz.func64 (by kernel_rfl) (by kernel_rfl)) (by kernel_rfl) ?_
  intro σ
  obtain ⟨k, a, b, s, x⟩ := r
  simp only [Rd.av]
  by_cases c1 : 1 ≤ k ∧ k ≤ 3
  · have d1 : decide (1 ≤ k ∧ k ≤ 3) = true := decide_eq_true c1
    by_cases c2 : 0 ≤ a ∧ a ≤ m - 1
    · have d2 : decide (0 ≤ a ∧ a ≤ m - 1) = true := decide_eq_true c2
      by_cases c3 : 0 ≤ b ∧ b ≤ m - 1
      · have d3 : decide (0 ≤ b ∧ b ≤ m - 1) = true := decide_eq_true c3
        by_cases k3 : k = 3
        · subst k3
          by_cases c4 : 0 ≤ s ∧ s ≤ 0
          · have d4 : decide (0 ≤ s ∧ s ≤ 0) = true := decide_eq_true c4
            simp -implicitDefEqProofs (maxSteps := 2000000) (disch := omega) only [go_sem, reduceCtorEq, Nat.reduceAdd, Nat.reduceSub, Nat.reduceMul, Nat.reduceLT, Nat.reduceLeDiff, Nat.reduceEqDiff, Nat.reduceBEq, Int.reduceToNat, Int.reduceLT, Int.reduceLE, Int.reduceEq, Int.reduceNeg, Int.reduceAdd, Int.reduceSub, Int.reduceMul, ↓reduceIte, Int.reduceBEq, Int.reduceBNe, d1, d2, d3, d4]
            simp only [ckR, ckRng]; grind
          · have d4 : decide (0 ≤ s ∧ s ≤ 0) = false := decide_eq_false c4
            simp -implicitDefEqProofs (maxSteps := 2000000) (disch := omega) only [go_sem, reduceCtorEq, Nat.reduceAdd, Nat.reduceSub, Nat.reduceMul, Nat.reduceLT, Nat.reduceLeDiff, Nat.reduceEqDiff, Nat.reduceBEq, Int.reduceToNat, Int.reduceLT, Int.reduceLE, Int.reduceEq, Int.reduceNeg, Int.reduceAdd, Int.reduceSub, Int.reduceMul, ↓reduceIte, Int.reduceBEq, Int.reduceBNe, d1, d2, d3, d4]
            simp only [ckR, ckRng]; grind
        · by_cases c4 : 1 ≤ s ∧ s ≤ 20
          · have d4 : decide (1 ≤ s ∧ s ≤ 20) = true := decide_eq_true c4
            simp -implicitDefEqProofs (maxSteps := 2000000) (disch := omega) only [go_sem, reduceCtorEq, Nat.reduceAdd, Nat.reduceSub, Nat.reduceMul, Nat.reduceLT, Nat.reduceLeDiff, Nat.reduceEqDiff, Nat.reduceBEq, Int.reduceToNat, Int.reduceLT, Int.reduceLE, Int.reduceEq, Int.reduceNeg, Int.reduceAdd, Int.reduceSub, Int.reduceMul, ↓reduceIte, Int.reduceBEq, Int.reduceBNe, d1, d2, d3, d4]
            simp only [ckR, ckRng]; grind
          · have d4 : decide (1 ≤ s ∧ s ≤ 20) = false := decide_eq_false c4
            simp -implicitDefEqProofs (maxSteps := 2000000) (disch := omega) only [go_sem, reduceCtorEq, Nat.reduceAdd, Nat.reduceSub, Nat.reduceMul, Nat.reduceLT, Nat.reduceLeDiff, Nat.reduceEqDiff, Nat.reduceBEq, Int.reduceToNat, Int.reduceLT, Int.reduceLE, Int.reduceEq, Int.reduceNeg, Int.reduceAdd, Int.reduceSub, Int.reduceMul, ↓reduceIte, Int.reduceBEq, Int.reduceBNe, d1, d2, d3, d4]
            simp only [ckR, ckRng]; grind
      · have d3 : decide (0 ≤ b ∧ b ≤ m - 1) = false := decide_eq_false c3
        simp -implicitDefEqProofs (maxSteps := 2000000) (disch := omega) only [go_sem, reduceCtorEq, Nat.reduceAdd, Nat.reduceSub, Nat.reduceMul, Nat.reduceLT, Nat.reduceLeDiff, Nat.reduceEqDiff, Nat.reduceBEq, Int.reduceToNat, Int.reduceLT, Int.reduceLE, Int.reduceEq, Int.reduceNeg, Int.reduceAdd, Int.reduceSub, Int.reduceMul, ↓reduceIte, Int.reduceBEq, Int.reduceBNe, d1, d2, d3]
        simp only [ckR, ckRng]; grind
    · have d2 : decide (0 ≤ a ∧ a ≤ m - 1) = false := decide_eq_false c2
      simp -implicitDefEqProofs (maxSteps := 2000000) (disch := omega) only [go_sem, reduceCtorEq, Nat.reduceAdd, Nat.reduceSub, Nat.reduceMul, Nat.reduceLT, Nat.reduceLeDiff, Nat.reduceEqDiff, Nat.reduceBEq, Int.reduceToNat, Int.reduceLT, Int.reduceLE, Int.reduceEq, Int.reduceNeg, Int.reduceAdd, Int.reduceSub, Int.reduceMul, ↓reduceIte, Int.reduceBEq, Int.reduceBNe, d1, d2]
      simp only [ckR]; grind
  · have d1 : decide (1 ≤ k ∧ k ≤ 3) = false := decide_eq_false c1
    simp -implicitDefEqProofs (maxSteps := 2000000) (disch := omega) only [go_sem, reduceCtorEq, Nat.reduceAdd, Nat.reduceSub, Nat.reduceMul, Nat.reduceLT, Nat.reduceLeDiff, Nat.reduceEqDiff, Nat.reduceBEq, Int.reduceToNat, Int.reduceLT, Int.reduceLE, Int.reduceEq, Int.reduceNeg, Int.reduceAdd, Int.reduceSub, Int.reduceMul, ↓reduceIte, Int.reduceBEq, Int.reduceBNe, d1]
    simp only [ckR]; grind

def rreading_s := spec2 tRd tI fun r m => if 0 ≤ m ∧ m ≤ 4294967296 then some (.int .i64 (ckR r m)) else none
theorem rreading_ok : ∀ xs v, rreading_s xs = some v → PureV Tryz.prog 64 xs v :=
  spec2_ok fun r m v h => by have h := someIf h; rw [← h.2]; exact rreading_p r m h.1.1 h.1.2
def fs103 (f : FuncId) (xs : List AV) : Option AV := if f = 64 then rreading_s xs else fs102 f xs
theorem fs103_ok : ∀ f xs v, fs103 f xs = some v → PureV Tryz.prog f xs v := by
  intro f xs v h
  unfold fs103 at h
  split at h
  · rename_i e; subst e; exact rreading_ok _ _ h
  exact fs102_ok _ _ _ h
attribute [go_sem] fs103 rreading_s
end Go.Proofs
set_option linter.unusedSimpArgs false
set_option linter.unusedVariables false
set_option maxRecDepth 100000
namespace Go.Proofs
open Go Go.Mu

theorem ckT_eq (x : Rng) : ckT x = if ckRng x 1 100000 ≠ 0 then ckRng x 1 100000 else if x.hi - x.lo > 20 then 1 else 0 := by simp only [ckT, ckRng]; grind
theorem ckRng_ok {x : Rng} {lo hi : Int} (h : ckRng x lo hi = 0) : lo ≤ x.lo ∧ x.lo ≤ x.hi ∧ x.hi ≤ hi := by simp only [ckRng] at h; grind
set_option maxHeartbeats 4000000 in
theorem rcheck_p (e : Ear) (h1 : e.tones.length ≤ 4294967296) (h2 : e.rds.length ≤ 4294967296) : PureV Tryz.prog 19 [e.av] (.int .i64 (ck e)) := by
  refine PureV.of_ev (E := Tryz.E 72 Tryz.ord19 fs103) (Tryz.envOK 72 Tryz.ord19 fs103 fs103_ok) (.int) Tryz.kp19 Tryz.func19 rfl (by kernel_rfl) (by simp [Tryz.E]) (Callable.of Tryz.func19 (by kernel_rfl) (by kernel_rfl)) (by kernel_rfl) ?_
  intro σ
  obtain ⟨s, ts, rs⟩ := e
  simp only [Ear.av] at *
  by_cases g0 : 0 ≤ s ∧ s ≤ 3
  · have d0 : decide (0 ≤ s ∧ s ≤ 3) = true := decide_eq_true g0
    simp -implicitDefEqProofs (maxSteps := 2000000) (disch := omega) only [go_sem, reduceCtorEq, Nat.reduceAdd, Nat.reduceSub, Nat.reduceMul, Nat.reduceLT, Nat.reduceLeDiff, Nat.reduceEqDiff, Nat.reduceBEq, Int.reduceToNat, Int.reduceLT, Int.reduceLE, Int.reduceEq, Int.reduceNeg, Int.reduceAdd, Int.reduceSub, Int.reduceMul, ↓reduceIte, Int.reduceBEq, Int.reduceBNe, d0]
    refine ⟨fun g3 => ?_, fun g3 => ⟨fun g4 => ?_, fun g4 => ?_⟩⟩
    · simp only [ck]; grind
    · simp only [ck]; grind
    · refine ARun.forS (Tryz.envOK 72 Tryz.ord19 fs103 fs103_ok) ts.length (fun i => firstE ckT (ts.drop i) = firstE ckT ts) (fun i => [(3, .int .i64 i)]) (fun _ j => σ ++ (.cells [.int .i64 s, .list .no 2 (ts.map Rng.av), .list .no 6 (rs.map Rd.av)] :: j)) [] (by kernel_rfl) rfl (by simp [upd, ins, subF, lookA]) rfl ?_ ?_
      · intro i j hi hp ih
        rw [firstE_drop hi] at hp
        by_cases q0 : ckRng ts[i] 1 100000 = 0
        · obtain ⟨q1, q2, q3⟩ := ckRng_ok q0
          simp -implicitDefEqProofs (maxSteps := 2000000) (disch := omega) only [go_sem, reduceCtorEq, Nat.reduceAdd, Nat.reduceSub, Nat.reduceMul, Nat.reduceLT, Nat.reduceLeDiff, Nat.reduceEqDiff, Nat.reduceBEq, Int.reduceToNat, Int.reduceLT, Int.reduceLE, Int.reduceEq, Int.reduceNeg, Int.reduceAdd, Int.reduceSub, Int.reduceMul, ↓reduceIte, Int.reduceBEq, Int.reduceBNe, Rng.av, q0]
          refine ⟨fun q => ?_, fun q => ?_⟩
          · have hz : ckT ts[i] = 1 := by rw [ckT_eq, if_neg (by simp [q0]), if_pos q]
            simp only [ck]; grind
          · have hz : ckT ts[i] = 0 := by rw [ckT_eq, if_neg (by simp [q0]), if_neg q]
            rw [if_pos hz] at hp
            first
              | exact (ih hp j).castS rfl (by simp [upd, ins, subF, lookA])
              | exact (ih hp (j ++ [_])).castS rfl (by simp [upd, ins, subF, lookA])
        · have hz : ckT ts[i] = ckRng ts[i] 1 100000 := by rw [ckT_eq, if_pos q0]
          simp -implicitDefEqProofs (maxSteps := 2000000) (disch := omega) only [go_sem, reduceCtorEq, Nat.reduceAdd, Nat.reduceSub, Nat.reduceMul, Nat.reduceLT, Nat.reduceLeDiff, Nat.reduceEqDiff, Nat.reduceBEq, Int.reduceToNat, Int.reduceLT, Int.reduceLE, Int.reduceEq, Int.reduceNeg, Int.reduceAdd, Int.reduceSub, Int.reduceMul, ↓reduceIte, Int.reduceBEq, Int.reduceBNe, Rng.av, q0]
          rw [← hz] at q0 ⊢
          simp only [ck]; grind
      · intro j hp
        rw [firstE_end] at hp
        simp -implicitDefEqProofs (maxSteps := 2000000) (disch := omega) only [go_sem, reduceCtorEq, Nat.reduceAdd, Nat.reduceSub, Nat.reduceMul, Nat.reduceLT, Nat.reduceLeDiff, Nat.reduceEqDiff, Nat.reduceBEq, Int.reduceToNat, Int.reduceLT, Int.reduceLE, Int.reduceEq, Int.reduceNeg, Int.reduceAdd, Int.reduceSub, Int.reduceMul, ↓reduceIte, Int.reduceBEq, Int.reduceBNe]
        refine ⟨fun q1 => ?_, fun q1 => ?_⟩
        · simp only [ck]; grind
        · refine ARun.forS (Tryz.envOK 72 Tryz.ord19 fs103 fs103_ok) rs.length (fun i => firstE (fun r => ckR r ts.length) (rs.drop i) = firstE (fun r => ckR r ts.length) rs) (fun i => [(5, .int .i64 i)]) (fun _ j => σ ++ (.cells [.int .i64 s, .list .no 2 (ts.map Rng.av), .list .no 6 (rs.map Rd.av)] :: j)) j (by kernel_rfl) rfl (by simp [upd, ins, subF, lookA]) rfl ?_ ?_
          · intro i j hi hp2 ih
            rw [firstE_drop hi] at hp2
            simp -implicitDefEqProofs (maxSteps := 2000000) (disch := omega) only [go_sem, reduceCtorEq, Nat.reduceAdd, Nat.reduceSub, Nat.reduceMul, Nat.reduceLT, Nat.reduceLeDiff, Nat.reduceEqDiff, Nat.reduceBEq, Int.reduceToNat, Int.reduceLT, Int.reduceLE, Int.reduceEq, Int.reduceNeg, Int.reduceAdd, Int.reduceSub, Int.reduceMul, ↓reduceIte, Int.reduceBEq, Int.reduceBNe, Rd.av]
            refine ⟨fun q2 => ?_, fun q2 => ?_⟩
            · simp only [ck]; grind
            · rw [if_pos (by grind)] at hp2
              first
                | exact (ih hp2 j).castS rfl (by simp [upd, ins, subF, lookA])
                | exact (ih hp2 (j ++ [_])).castS rfl (by simp [upd, ins, subF, lookA])
          · intro j hp2
            rw [firstE_end] at hp2
            simp -implicitDefEqProofs (maxSteps := 2000000) (disch := omega) only [go_sem, reduceCtorEq, Nat.reduceAdd, Nat.reduceSub, Nat.reduceMul, Nat.reduceLT, Nat.reduceLeDiff, Nat.reduceEqDiff, Nat.reduceBEq, Int.reduceToNat, Int.reduceLT, Int.reduceLE, Int.reduceEq, Int.reduceNeg, Int.reduceAdd, Int.reduceSub, Int.reduceMul, ↓reduceIte, Int.reduceBEq, Int.reduceBNe]
            simp only [ck]; grind
  · have d0 : decide (0 ≤ s ∧ s ≤ 3) = false := decide_eq_false g0
    simp -implicitDefEqProofs (maxSteps := 2000000) (disch := omega) only [go_sem, reduceCtorEq, Nat.reduceAdd, Nat.reduceSub, Nat.reduceMul, Nat.reduceLT, Nat.reduceLeDiff, Nat.reduceEqDiff, Nat.reduceBEq, Int.reduceToNat, Int.reduceLT, Int.reduceLE, Int.reduceEq, Int.reduceNeg, Int.reduceAdd, Int.reduceSub, Int.reduceMul, ↓reduceIte, Int.reduceBEq, Int.reduceBNe, d0]
    simp only [ck]; grind

def rcheck_s := spec1 tEar fun e => if e.tones.length ≤ 4294967296 ∧ e.rds.length ≤ 4294967296 then some (.int .i64 (ck e)) else none
theorem rcheck_ok : ∀ xs v, rcheck_s xs = some v → PureV Tryz.prog 19 xs v :=
  spec1_ok fun e v h => by have h := someIf h; rw [← h.2]; exact rcheck_p e h.1.1 h.1.2
def fs104 (f : FuncId) (xs : List AV) : Option AV := if f = 19 then rcheck_s xs else fs103 f xs
theorem fs104_ok : ∀ f xs v, fs104 f xs = some v → PureV Tryz.prog f xs v := by
  intro f xs v h
  unfold fs104 at h
  split at h
  · rename_i e; subst e; exact rcheck_ok _ _ h
  exact fs103_ok _ _ _ h
attribute [go_sem] fs104 rcheck_s
end Go.Proofs
set_option linter.unusedSimpArgs false
set_option linter.unusedVariables false
set_option maxRecDepth 100000
namespace Go.Proofs
open Go Go.Mu

theorem rdist_p (a b : Int) (ha : 0 ≤ a ∧ a ≤ 1000000) (hb : 0 ≤ b ∧ b ≤ 1000000) : PureV Tryz.prog 125 [.int .i64 a, .int .i64 b] (.int .i64 (dist a b)) := by
  refine PureV.of_ev (E := Tryz.E 12 (fun _ => ([], [])) fs0) (Tryz.envOK 12 (fun _ => ([], [])) fs0 fs0_ok) (.int) Tryz.kp125 Tryz.func125 rfl (by kernel_rfl) (by simp [Tryz.E]) (Callable.of Tryz.func125 (by kernel_rfl) (by kernel_rfl)) (by kernel_rfl) ?_
  intro σ
  simp -implicitDefEqProofs (maxSteps := 2000000) (disch := omega) only [go_sem, reduceCtorEq, Nat.reduceAdd, Nat.reduceSub, Nat.reduceMul, Nat.reduceLT, Nat.reduceLeDiff, Nat.reduceEqDiff, Nat.reduceBEq, Int.reduceToNat, Int.reduceLT, Int.reduceLE, Int.reduceEq, Int.reduceNeg, Int.reduceAdd, Int.reduceSub, Int.reduceMul, ↓reduceIte, Int.reduceBEq, Int.reduceBNe]
  simp only [dist]; grind
def rdist_s := spec2 tI tI fun a b => if (0 ≤ a ∧ a ≤ 1000000) ∧ (0 ≤ b ∧ b ≤ 1000000) then some (.int .i64 (dist a b)) else none
theorem rdist_ok : ∀ xs v, rdist_s xs = some v → PureV Tryz.prog 125 xs v :=
  spec2_ok fun a b v h => by have h := someIf h; rw [← h.2]; exact rdist_p a b h.1.1 h.1.2
def fs105 (f : FuncId) (xs : List AV) : Option AV := if f = 125 then rdist_s xs else fs104 f xs
theorem fs105_ok : ∀ f xs v, fs105 f xs = some v → PureV Tryz.prog f xs v := by
  intro f xs v h
  unfold fs105 at h
  split at h
  · rename_i e; subst e; exact rdist_ok _ _ h
  exact fs104_ok _ _ _ h
attribute [go_sem] fs105 rdist_s
end Go.Proofs
set_option linter.unusedSimpArgs false
set_option linter.unusedVariables false
set_option maxRecDepth 100000
namespace Go.Proofs
open Go Go.Mu

set_option maxHeartbeats 4000000 in
theorem rtrue_p (sl : Int) (T : List Int) (r : Rd) (hs : small T) (hr : okR r) (ha : r.a < T.length) (hb : r.kind ≠ 1 → r.b < T.length) (hsl : 0 ≤ sl ∧ sl ≤ 3) (hT : T.length ≤ 4294967296) : PureV Tryz.prog 106 [.int .i64 sl, .list .no 1 (T.map (.int .i64)), r.av] (.bool (isR r sl T)) := by
  refine PureV.of_ev (E := Tryz.E 76 Tryz.ord106 fs105) (Tryz.envOK 76 Tryz.ord106 fs105 fs105_ok) (.bool) Tryz.kp106 Tryz.func106 rfl (by kernel_rfl) (by simp [Tryz.E]) (Callable.of Tryz.func106 (by kernel_rfl) (by kernel_rfl)) (by kernel_rfl) ?_
  intro σ
  obtain ⟨h1, h2, h3, h4, h5, h6⟩ := hr
  obtain ⟨k, a, b, s, ⟨x, y⟩⟩ := r
  simp only at h1 h2 h3 h4 h5 h6 ha hb
  have ja := small_tg hs a
  have jb := small_tg hs b
  have ia : idx (T.map (AV.int .i64)) a = some (.int .i64 (tg T a)) := idx_tg h2.1 ha
  have ma := mul_le ja h4
  have md := mul_le (dist_le ja jb) h4
  have wa : IntKind.i64.wrap (tg T a * s) = tg T a * s := wrap64 (by omega) (by omega)
  have wd : IntKind.i64.wrap (dist (tg T a) (tg T b) * s) = dist (tg T a) (tg T b) * s := wrap64 (by omega) (by omega)
  simp only [Rd.av]
  by_cases k1 : k = 1
  · subst k1
    clear hb md wd jb
    generalize tg T a * s = q at ma
    simp -implicitDefEqProofs (maxSteps := 2000000) (disch := omega) only [go_sem, reduceCtorEq, Nat.reduceAdd, Nat.reduceSub, Nat.reduceMul, Nat.reduceLT, Nat.reduceLeDiff, Nat.reduceEqDiff, Nat.reduceBEq, Int.reduceToNat, Int.reduceLT, Int.reduceLE, Int.reduceEq, Int.reduceNeg, Int.reduceAdd, Int.reduceSub, Int.reduceMul, ↓reduceIte, Int.reduceBEq, Int.reduceBNe, ia, wa]
    unfold isR; rw [if_pos rfl]
    grind
  · have ib : idx (T.map (AV.int .i64)) b = some (.int .i64 (tg T b)) := idx_tg h3.1 (hb k1)
    by_cases k2 : k = 2
    · subst k2
      simp -implicitDefEqProofs (maxSteps := 2000000) (disch := omega) only [go_sem, reduceCtorEq, Nat.reduceAdd, Nat.reduceSub, Nat.reduceMul, Nat.reduceLT, Nat.reduceLeDiff, Nat.reduceEqDiff, Nat.reduceBEq, Int.reduceToNat, Int.reduceLT, Int.reduceLE, Int.reduceEq, Int.reduceNeg, Int.reduceAdd, Int.reduceSub, Int.reduceMul, ↓reduceIte, Int.reduceBEq, Int.reduceBNe, ia, ib, wd]
      unfold isR; rw [if_neg (by simp), if_pos rfl]
      grind
    · simp -implicitDefEqProofs (maxSteps := 2000000) (disch := omega) only [go_sem, reduceCtorEq, Nat.reduceAdd, Nat.reduceSub, Nat.reduceMul, Nat.reduceLT, Nat.reduceLeDiff, Nat.reduceEqDiff, Nat.reduceBEq, Int.reduceToNat, Int.reduceLT, Int.reduceLE, Int.reduceEq, Int.reduceNeg, Int.reduceAdd, Int.reduceSub, Int.reduceMul, ↓reduceIte, Int.reduceBEq, Int.reduceBNe, ia, ib]
      unfold isR; rw [if_neg k1, if_neg k2]
      grind

def okI (r : Rd) (m : Int) : Prop := r.a < m ∧ (r.kind ≠ 1 → r.b < m)
instance (r : Rd) (m : Int) : Decidable (okI r m) := by unfold okI; infer_instance
def rtrue_s := spec3 tI tIs tRd fun sl T r => if small T ∧ okR r ∧ okI r T.length ∧ (0 ≤ sl ∧ sl ≤ 3) ∧ T.length ≤ 4294967296 then some (.bool (isR r sl T)) else none
theorem rtrue_ok : ∀ xs v, rtrue_s xs = some v → PureV Tryz.prog 106 xs v :=
  spec3_ok fun sl T r v h => by have h := someIf h; rw [← h.2]; exact rtrue_p sl T r h.1.1 h.1.2.1 h.1.2.2.1.1 h.1.2.2.1.2 h.1.2.2.2.1 h.1.2.2.2.2
def fs106 (f : FuncId) (xs : List AV) : Option AV := if f = 106 then rtrue_s xs else fs105 f xs
theorem fs106_ok : ∀ f xs v, fs106 f xs = some v → PureV Tryz.prog f xs v := by
  intro f xs v h
  unfold fs106 at h
  split at h
  · rename_i e; subst e; exact rtrue_ok _ _ h
  exact fs105_ok _ _ _ h
attribute [go_sem] fs106 rtrue_s
end Go.Proofs
set_option linter.unusedSimpArgs false
set_option linter.unusedVariables false
set_option maxRecDepth 100000
namespace Go.Proofs
open Go Go.Mu

theorem ckR_idx {r : Rd} {m : Int} (h : ckR r m = 0) : r.a < m ∧ (r.kind ≠ 1 → r.b < m) := by simp only [ckR] at h; grind
theorem ck_rd {e : Ear} (h : ck e = 0) : ∀ r ∈ e.rds, ckR r e.tones.length = 0 := by
  simp only [ck] at h
  exact firstE_all (f := fun r => ckR r e.tones.length) (by grind)
set_option maxHeartbeats 2000000 in
theorem rfits_p (e : Ear) (T : List Int) (hc : ck e = 0) (hT : T.length = e.tones.length) (hs : small T) : PureV Tryz.prog 92 [e.av, .list .no 1 (T.map (.int .i64))] (.bool (e.rds.all fun r => isR r e.slack T)) := by
  refine PureV.of_ev (E := Tryz.E 23 Tryz.ord92 fs106) (Tryz.envOK 23 Tryz.ord92 fs106 fs106_ok) (.bool) Tryz.kp92 Tryz.func92 rfl (by kernel_rfl) (by simp [Tryz.E]) (Callable.of Tryz.func92 (by kernel_rfl) (by kernel_rfl)) (by kernel_rfl) ?_
  intro σ
  have he := okE_of_ck hc
  have hrd := ck_rd hc
  have hlen := he.len
  have hrl := he.rl
  have hsl := he.sl
  obtain ⟨sl, ts, rs⟩ := e
  simp only at hT hrd hlen hrl hsl
  simp only [Ear.av]
  simp -implicitDefEqProofs (maxSteps := 2000000) (disch := omega) only [go_sem, reduceCtorEq, Nat.reduceAdd, Nat.reduceSub, Nat.reduceMul, Nat.reduceLT, Nat.reduceLeDiff, Nat.reduceEqDiff, Nat.reduceBEq, Int.reduceToNat, Int.reduceLT, Int.reduceLE, Int.reduceEq, Int.reduceNeg, Int.reduceAdd, Int.reduceSub, Int.reduceMul, ↓reduceIte, Int.reduceBEq, Int.reduceBNe]
  refine ARun.forS (Tryz.envOK 23 Tryz.ord92 fs106 fs106_ok) rs.length (fun i => ((rs.drop i).all fun r => isR r sl T) = rs.all fun r => isR r sl T) (fun i => [(5, .int .i64 i)]) (fun _ _ => σ ++ [.cells [.int .i64 sl, .list .no 2 (ts.map Rng.av), .list .no 6 (rs.map Rd.av)]]) [] (by kernel_rfl) rfl (by simp [upd, ins, subF, lookA]) rfl ?_ ?_
  · intro i j hi hp ih
    have hck := hrd _ (List.getElem_mem hi)
    have hok : okR rs[i] := he.rd _ (List.getElem_mem hi)
    obtain ⟨x1, x2⟩ := ckR_idx hck
    rw [← hT] at x1 x2
    have hri : idx (rs.map Rd.av) (i : Int) = some rs[i].av := by rw [idx_nat hi]
    rw [drop_cons hi, List.all_cons] at hp
    have hpre : small T ∧ okR rs[i] ∧ okI rs[i] T.length ∧ (0 ≤ sl ∧ sl ≤ 3) ∧ T.length ≤ 4294967296 := ⟨hs, hok, ⟨x1, x2⟩, hsl, by omega⟩
    clear hck hok x1 x2 hrd he hc
    generalize rs[i] = y at hri hp hpre
    obtain ⟨y1, y2, y3, y4, ⟨y5, y6⟩⟩ := y
    obtain ⟨p1, p2, p3, p4, p5⟩ := hpre
    clear hs hsl
    cases hb : isR ⟨y1, y2, y3, y4, ⟨y5, y6⟩⟩ sl T
    · rw [hb, Bool.false_and] at hp
      rw [← hp]
      simp -implicitDefEqProofs (maxSteps := 2000000) (disch := omega) only [go_sem, reduceCtorEq, Nat.reduceAdd, Nat.reduceSub, Nat.reduceMul, Nat.reduceLT, Nat.reduceLeDiff, Nat.reduceEqDiff, Nat.reduceBEq, Int.reduceToNat, Int.reduceLT, Int.reduceLE, Int.reduceEq, Int.reduceNeg, Int.reduceAdd, Int.reduceSub, Int.reduceMul, ↓reduceIte, Int.reduceBEq, Int.reduceBNe, hri, Rd.av, p1, p2, p3, p4, p5, hb]
    · rw [hb, Bool.true_and] at hp
      simp -implicitDefEqProofs (maxSteps := 2000000) (disch := omega) only [go_sem, reduceCtorEq, Nat.reduceAdd, Nat.reduceSub, Nat.reduceMul, Nat.reduceLT, Nat.reduceLeDiff, Nat.reduceEqDiff, Nat.reduceBEq, Int.reduceToNat, Int.reduceLT, Int.reduceLE, Int.reduceEq, Int.reduceNeg, Int.reduceAdd, Int.reduceSub, Int.reduceMul, ↓reduceIte, Int.reduceBEq, Int.reduceBNe, hri, Rd.av, p1, p2, p3, p4, p5, hb]
      exact (ih hp []).castS rfl (by simp [upd, ins, subF, lookA])
  · intro j hp
    rw [List.drop_length] at hp
    rw [← hp]
    simp -implicitDefEqProofs (maxSteps := 2000000) (disch := omega) only [go_sem, reduceCtorEq, Nat.reduceAdd, Nat.reduceSub, Nat.reduceMul, Nat.reduceLT, Nat.reduceLeDiff, Nat.reduceEqDiff, Nat.reduceBEq, Int.reduceToNat, Int.reduceLT, Int.reduceLE, Int.reduceEq, Int.reduceNeg, Int.reduceAdd, Int.reduceSub, Int.reduceMul, ↓reduceIte, Int.reduceBEq, Int.reduceBNe]
end Go.Proofs
