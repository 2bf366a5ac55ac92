/- Texts of a proof: lemmas. -/
import Derived.Test.YtpodkdondibbfaaRB3
import Derived.Test.YtpodkdondibbfaaRW
import Derived.Test.YtpodkdondibbfaaAJ
import Derived.Test.YtpodkdondibbfaaA36
set_option linter.unusedSimpArgs false
set_option linter.unusedVariables false
set_option maxRecDepth 100000
namespace Go.Proofs
open Go Go.Mu

theorem rpasses_p (j : Jb) (h : OkJ j) : PureV Try.prog 14 [j.av] (.tup [.int .i64 (passS j j.pitch), .int .i64 0]) := by
  refine PureV.of_ev (E := Try.E 15 (fun _ => ([], [])) fs207) (Try.envOK 15 (fun _ => ([], [])) fs207 fs207_ok) (.tup (by simp; exact ⟨.int, .int⟩)) Try.kp14 Try.func14 rfl (by kernel_rfl) (by simp [Try.E]) (Callable.of Try.func14 (by kernel_rfl) (by kernel_rfl)) (by kernel_rfl) ?_
  intro σ
  simp only [Jb.av, Jb.cells]
  simp -implicitDefEqProofs (maxSteps := 2000000) (disch := omega) only [go_sem, reduceCtorEq, Nat.reduceAdd, Nat.reduceSub, Nat.reduceMul, Nat.reduceLT, Nat.reduceLeDiff, Nat.reduceEqDiff, Nat.reduceBEq, Int.reduceToNat, Int.reduceLT, Int.reduceLE, Int.reduceEq, Int.reduceNeg, Int.reduceAdd, Int.reduceSub, Int.reduceMul, ↓reduceIte, Int.reduceBEq, Int.reduceBNe, h, Rng_eta]
  try simp
def rpasses_s := spec1 tJb fun j => if OkJ j then some (.tup [.int .i64 (passS j j.pitch), .int .i64 0]) else none
theorem rpasses_ok : ∀ xs v, rpasses_s xs = some v → PureV Try.prog 14 xs v :=
  spec1_ok fun j v h => by have h := someIf h; rw [← h.2]; exact rpasses_p j h.1
def wider_s := spec2 tRng tRng fun x y => some (.bool (hasR x y))
theorem wider_ok : ∀ xs v, wider_s xs = some v → PureV Try.prog 13 xs v := by
  refine spec2_ok fun x y v h => ?_
  simp only [Option.some.injEq] at h; subst h
  refine PureV.of_ev (E := Try.E 17 (fun _ => ([], [])) fs0) (Try.envOK 17 (fun _ => ([], [])) fs0 fs0_ok) (.bool) Try.kp13 Try.func13 rfl (by kernel_rfl) (by simp [Try.E]) (Callable.of Try.func13 (by kernel_rfl) (by kernel_rfl)) (by kernel_rfl) ?_
  intro σ
  simp only [tRng, Rng.av]
  simp -implicitDefEqProofs (maxSteps := 2000000) (disch := omega) only [go_sem, reduceCtorEq, Nat.reduceAdd, Nat.reduceSub, Nat.reduceMul, Nat.reduceLT, Nat.reduceLeDiff, Nat.reduceEqDiff, Nat.reduceBEq, Int.reduceToNat, Int.reduceLT, Int.reduceLE, Int.reduceEq, Int.reduceNeg, Int.reduceAdd, Int.reduceSub, Int.reduceMul, ↓reduceIte, Int.reduceBEq, Int.reduceBNe]
  refine ⟨fun h1 => ⟨fun h2 => ?_, fun h2 => ?_⟩, fun h1 => ?_⟩ <;> simp [hasR, h1, *]
def fs210 (f : FuncId) (xs : List AV) : Option AV := if f = 33 then jck_s xs else if f = 34 then passes_s xs else if f = 14 then rpasses_s xs else if f = 13 then wider_s xs else fs21 f xs
theorem fs210_ok : ∀ f xs v, fs210 f xs = some v → PureV Try.prog f xs v := by
  intro f xs v h
  unfold fs210 at h
  split at h
  · rename_i e; subst e; exact jck_ok _ _ h
  split at h
  · rename_i e; subst e; exact passes_ok _ _ h
  split at h
  · rename_i e; subst e; exact rpasses_ok _ _ h
  split at h
  · rename_i e; subst e; exact wider_ok _ _ h
  exact fs21_ok _ _ _ h
attribute [go_sem] fs210 jck_s passes_s rpasses_s wider_s
def ptR (x : Rng) : Rng := ⟨x.lo - 44000, x.hi - 44000⟩
theorem Jb.plain (j : Jb) : Plain j.av := .agg (by
  intro c hc
  simp only [Jb.cells, List.mem_cons, List.not_mem_nil, or_false] at hc
  rcases hc with h | h | h | h | h | h | h | h | h | h | h | h | h | h | h | h | h | h <;> subst h
  all_goals first | exact .int | exact .map fun x _ => Rng.plain x)
set_option maxHeartbeats 400000000 in
theorem job_p (j : Jb) (e : Ear) (h1 : e.tones.length ≤ 4294967296) (h2 : e.rds.length ≤ 4294967296) (x : Rng) (hx : tonesL e = ([x], 0)) (hb : bigR x) (hj : OkJ (j.at (ptR x))) :
    PureV Try.prog 12 [j.av, e.av] (.tup [(j.at (ptR x)).av, .bool true]) := by
  refine PureV.of_ev (E := Try.E 38 Try.ord12 fs210) (Try.envOK 38 Try.ord12 fs210 fs210_ok) (.tup (by simp; exact ⟨Jb.plain _, .bool⟩)) Try.kp12 Try.func12 rfl (by kernel_rfl) (by simp [Try.E]) (Callable.of Try.func12 (by kernel_rfl) (by kernel_rfl)) (by kernel_rfl) ?_
  intro σ
  have hx' : tonesL ⟨e.slack, e.tones, e.rds⟩ = ([x], 0) := hx
  obtain ⟨b1, b2⟩ := hb
  simp only [Jb.av, Jb.cells, Ear.av]
  have hj' : OkJ ⟨⟨x.lo - 44000, x.hi - 44000⟩, j.tip, j.root, j.up, j.down, j.wt, j.wr, j.least, j.shifts, j.within, j.meter⟩ := hj
  simp -implicitDefEqProofs (maxSteps := 2000000) (disch := omega) only [go_sem, reduceCtorEq, Nat.reduceAdd, Nat.reduceSub, Nat.reduceMul, Nat.reduceLT, Nat.reduceLeDiff, Nat.reduceEqDiff, Nat.reduceBEq, Int.reduceToNat, Int.reduceLT, Int.reduceLE, Int.reduceEq, Int.reduceNeg, Int.reduceAdd, Int.reduceSub, Int.reduceMul, ↓reduceIte, Int.reduceBEq, Int.reduceBNe, hx', Rng.av, Rng_eta, hj']
  exact ⟨rfl, rfl, rfl, rfl, rfl, rfl, rfl, rfl, rfl, rfl, rfl, rfl, rfl, rfl, rfl, rfl, rfl, rfl⟩
set_option maxHeartbeats 400000000 in
theorem heardAwake_p : PureV Try.prog 16 [] (.bool true) := by
  refine PureV.of_ev (E := Try.E 42 (fun _ => ([], [])) fs210) (Try.envOK 42 (fun _ => ([], [])) fs210 fs210_ok) (.bool) Try.kp16 Try.func16 rfl (by kernel_rfl) (by simp [Try.E]) (Callable.of Try.func16 (by kernel_rfl) (by kernel_rfl)) (by kernel_rfl) ?_
  intro σ
  have e1 : OkJ ⟨⟨-1, 1⟩, ⟨9, 9⟩, ⟨9, 9⟩, ⟨0, 0⟩, ⟨0, 0⟩, ⟨0, 0⟩, ⟨0, 0⟩, 0, [], 1, 0⟩ := by decide
  have e2 : passS ⟨⟨-1, 1⟩, ⟨9, 9⟩, ⟨9, 9⟩, ⟨0, 0⟩, ⟨0, 0⟩, ⟨0, 0⟩, ⟨0, 0⟩, 0, [], 1, 0⟩ ⟨-1, 1⟩ = 1 := by decide
  have e3 : tonesL ⟨0, [⟨44000, 44010⟩], [⟨1, 0, 0, 10, ⟨4400, 4400⟩⟩]⟩ = ([⟨44000, 44009⟩], 0) := by kernel_rfl
  simp -implicitDefEqProofs (maxSteps := 2000000) (disch := omega) only [go_sem, reduceCtorEq, Nat.reduceAdd, Nat.reduceSub, Nat.reduceMul, Nat.reduceLT, Nat.reduceLeDiff, Nat.reduceEqDiff, Nat.reduceBEq, Int.reduceToNat, Int.reduceLT, Int.reduceLE, Int.reduceEq, Int.reduceNeg, Int.reduceAdd, Int.reduceSub, Int.reduceMul, ↓reduceIte, Int.reduceBEq, Int.reduceBNe, e1, e2, e3, Rng.av]
end Go.Proofs
