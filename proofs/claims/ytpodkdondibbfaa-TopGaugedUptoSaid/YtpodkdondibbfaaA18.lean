/- Texts of a proof: lemmas. -/
import Derived.Test.YtpodkdondibbfaaAC
import Derived.Laws.Bits64
set_option linter.unusedSimpArgs false
set_option linter.unusedVariables false
set_option maxRecDepth 100000
namespace Go.Proofs
open Go Go.Mu

/-- A pot, and the objects when it holds another number. -/
def PotAt (σ : List AObj) (r : Nat) : Prop := ∃ s, hget σ r = some (.cells [.int .u64 s])
def pw (σ : List AObj) (r : Nat) (s : Int) : List AObj := hset σ r (.cells [.int .u64 s])
theorem pw_pw {σ : List AObj} {r : Nat} {s t : Int} : pw (pw σ r s) r t = pw σ r t := hset_hset
theorem PotAt.pw {σ : List AObj} {r : Nat} (h : PotAt σ r) (s : Int) : PotAt (pw σ r s) r := by obtain ⟨u, h⟩ := h; exact ⟨s, hget_set h _⟩
theorem pw_self {σ : List AObj} {r : Nat} (h : PotAt σ r) : ∃ s, pw σ r s = σ := by obtain ⟨s, h⟩ := h; exact ⟨s, hset_same h⟩
theorem step_c (r : Nat) (σ : List AObj) (hp : PotAt σ r) (Q : AV → List AObj → Prop) (h : ∀ s' x, 0 ≤ x → x < 18446744073709551616 → Q (.int .u64 x) (pw σ r s')) : ACalls Try.prog 26 [.ptr r 0] σ Q := by
  obtain ⟨s, hg⟩ := hp
  refine ACalls.of_ev (E := Try.E 31 (fun _ => ([], [])) fs0) (Try.envOK 31 (fun _ => ([], [])) fs0 fs0_ok) Try.kp26 Try.func26 rfl (by kernel_rfl) (by simp [Try.E]) (Callable.of Try.func26 (by kernel_rfl) (by kernel_rfl)) (by kernel_rfl) ?_
  have hg2 := fun o => hget_set hg o
  simp -implicitDefEqProofs (maxSteps := 2000000) (disch := omega) only [go_sem, reduceCtorEq, Nat.reduceAdd, Nat.reduceSub, Nat.reduceMul, Nat.reduceLT, Nat.reduceLeDiff, Nat.reduceEqDiff, Nat.reduceBEq, Int.reduceToNat, Int.reduceLT, Int.reduceLE, Int.reduceEq, Int.reduceNeg, Int.reduceAdd, Int.reduceSub, Int.reduceMul, ↓reduceIte, Int.reduceBEq, Int.reduceBNe, hg, hg2]
  exact h _ _ (by rw [IntKind.wrap_u64]; omega) (by rw [IntKind.wrap_u64]; omega)
theorem upto_c (r : Nat) (most : Int) (hm : most < 9223372036854775807) (σ : List AObj) (hp : PotAt σ r) (Q : AV → List AObj → Prop) (h : ∀ s' x, 0 ≤ x → x ≤ max 0 most → Q (.int .i64 x) (pw σ r s')) : ACalls Try.prog 7 [.ptr r 0, .int .i64 most] σ Q := by
  refine ACalls.of_ev (E := Try.E 15 (fun _ => ([], [])) fs0) (Try.envOK 15 (fun _ => ([], [])) fs0 fs0_ok) Try.kp7 Try.func7 rfl (by kernel_rfl) (by simp [Try.E]) (Callable.of Try.func7 (by kernel_rfl) (by kernel_rfl)) (by kernel_rfl) ?_
  by_cases h1 : most < 1
  · simp -implicitDefEqProofs (maxSteps := 2000000) (disch := omega) only [go_sem, reduceCtorEq, Nat.reduceAdd, Nat.reduceSub, Nat.reduceMul, Nat.reduceLT, Nat.reduceLeDiff, Nat.reduceEqDiff, Nat.reduceBEq, Int.reduceToNat, Int.reduceLT, Int.reduceLE, Int.reduceEq, Int.reduceNeg, Int.reduceAdd, Int.reduceSub, Int.reduceMul, ↓reduceIte, Int.reduceBEq, Int.reduceBNe]
    obtain ⟨s, hs⟩ := pw_self hp
    have := h s 0 (by omega) (by omega)
    rwa [hs] at this
  · have e2 : IntKind.u64.wrap (most + 1) = most + 1 := by rw [IntKind.wrap_u64]; omega
    simp -implicitDefEqProofs (maxSteps := 2000000) (disch := omega) only [go_sem, reduceCtorEq, Nat.reduceAdd, Nat.reduceSub, Nat.reduceMul, Nat.reduceLT, Nat.reduceLeDiff, Nat.reduceEqDiff, Nat.reduceBEq, Int.reduceToNat, Int.reduceLT, Int.reduceLE, Int.reduceEq, Int.reduceNeg, Int.reduceAdd, Int.reduceSub, Int.reduceMul, ↓reduceIte, Int.reduceBEq, Int.reduceBNe, e2]
    refine step_c r σ hp _ fun s' x h2 h3 => ?_
    have hy : 0 ≤ x.fdiv (2 ^ min 11 64) := Int.fdiv_nonneg h2 (by decide)
    simp -implicitDefEqProofs (maxSteps := 2000000) (disch := omega) only [go_sem, reduceCtorEq, Nat.reduceAdd, Nat.reduceSub, Nat.reduceMul, Nat.reduceLT, Nat.reduceLeDiff, Nat.reduceEqDiff, Nat.reduceBEq, Int.reduceToNat, Int.reduceLT, Int.reduceLE, Int.reduceEq, Int.reduceNeg, Int.reduceAdd, Int.reduceSub, Int.reduceMul, ↓reduceIte, Int.reduceBEq, Int.reduceBNe, e2]
    generalize x.fdiv (2 ^ min 11 64) = y at hy ⊢
    have h4 := Int.tmod_nonneg (most + 1) hy
    have h5 := Int.tmod_lt_of_pos y (b := most + 1) (by omega)
    have e4 : IntKind.i64.wrap (y.tmod (most + 1)) = y.tmod (most + 1) := by rw [IntKind.wrap_i64]; omega
    try rw [e4]
    exact h _ _ h4 (by omega)
theorem within_c (r : Nat) (lo hi : Int) (h1 : -1000000000000 ≤ lo ∧ lo ≤ 1000000000000) (h2 : -1000000000000 ≤ hi ∧ hi ≤ 1000000000000) (σ : List AObj) (hp : PotAt σ r) (Q : AV → List AObj → Prop) (h : ∀ s' x, lo ≤ x → x ≤ max lo hi → Q (.int .i64 x) (pw σ r s')) : ACalls Try.prog 8 [.ptr r 0, .int .i64 lo, .int .i64 hi] σ Q := by
  refine ACalls.of_ev (E := Try.E 14 (fun _ => ([], [])) fs0) (Try.envOK 14 (fun _ => ([], [])) fs0 fs0_ok) Try.kp8 Try.func8 rfl (by kernel_rfl) (by simp [Try.E]) (Callable.of Try.func8 (by kernel_rfl) (by kernel_rfl)) (by kernel_rfl) ?_
  simp -implicitDefEqProofs (maxSteps := 2000000) (disch := omega) only [go_sem, reduceCtorEq, Nat.reduceAdd, Nat.reduceSub, Nat.reduceMul, Nat.reduceLT, Nat.reduceLeDiff, Nat.reduceEqDiff, Nat.reduceBEq, Int.reduceToNat, Int.reduceLT, Int.reduceLE, Int.reduceEq, Int.reduceNeg, Int.reduceAdd, Int.reduceSub, Int.reduceMul, ↓reduceIte, Int.reduceBEq, Int.reduceBNe]
  refine upto_c r _ (by omega) σ hp _ fun s' x h3 h4 => ?_
  simp -implicitDefEqProofs (maxSteps := 2000000) (disch := omega) only [go_sem, reduceCtorEq, Nat.reduceAdd, Nat.reduceSub, Nat.reduceMul, Nat.reduceLT, Nat.reduceLeDiff, Nat.reduceEqDiff, Nat.reduceBEq, Int.reduceToNat, Int.reduceLT, Int.reduceLE, Int.reduceEq, Int.reduceNeg, Int.reduceAdd, Int.reduceSub, Int.reduceMul, ↓reduceIte, Int.reduceBEq, Int.reduceBNe]
  exact h _ _ (by omega) (by omega)
theorem odds_c (r : Nat) (n m : Int) (h1 : -1000000000000 ≤ n ∧ n ≤ 1000000000000) (h2 : -1000000000000 ≤ m ∧ m ≤ 1000000000000) (σ : List AObj) (hp : PotAt σ r) (Q : AV → List AObj → Prop) (h : ∀ s' b, Q (.bool b) (pw σ r s')) : ACalls Try.prog 27 [.ptr r 0, .int .i64 n, .int .i64 m] σ Q := by
  refine ACalls.of_ev (E := Try.E 13 (fun _ => ([], [])) fs0) (Try.envOK 13 (fun _ => ([], [])) fs0 fs0_ok) Try.kp27 Try.func27 rfl (by kernel_rfl) (by simp [Try.E]) (Callable.of Try.func27 (by kernel_rfl) (by kernel_rfl)) (by kernel_rfl) ?_
  simp -implicitDefEqProofs (maxSteps := 2000000) (disch := omega) only [go_sem, reduceCtorEq, Nat.reduceAdd, Nat.reduceSub, Nat.reduceMul, Nat.reduceLT, Nat.reduceLeDiff, Nat.reduceEqDiff, Nat.reduceBEq, Int.reduceToNat, Int.reduceLT, Int.reduceLE, Int.reduceEq, Int.reduceNeg, Int.reduceAdd, Int.reduceSub, Int.reduceMul, ↓reduceIte, Int.reduceBEq, Int.reduceBNe]
  refine upto_c r _ (by omega) σ hp _ fun s' x h3 h4 => ?_
  simp -implicitDefEqProofs (maxSteps := 2000000) (disch := omega) only [go_sem, reduceCtorEq, Nat.reduceAdd, Nat.reduceSub, Nat.reduceMul, Nat.reduceLT, Nat.reduceLeDiff, Nat.reduceEqDiff, Nat.reduceBEq, Int.reduceToNat, Int.reduceLT, Int.reduceLE, Int.reduceEq, Int.reduceNeg, Int.reduceAdd, Int.reduceSub, Int.reduceMul, ↓reduceIte, Int.reduceBEq, Int.reduceBNe]
  exact ⟨fun _ => h _ _, fun _ => h _ _⟩
theorem of_c (r : Nat) (l : List Int) (tk : Tok) (hl : 1 ≤ l.length ∧ l.length ≤ 1000) (σ : List AObj) (hp : PotAt σ r) (Q : AV → List AObj → Prop) (h : ∀ s' x, x ∈ l → Q (.int .i64 x) (pw σ r s')) : ACalls Try.prog 17 [.ptr r 0, .list tk 1 (l.map (.int .i64))] σ Q := by
  refine ACalls.of_ev (E := Try.E 16 (fun _ => ([], [])) fs0) (Try.envOK 16 (fun _ => ([], [])) fs0 fs0_ok) Try.kp17 Try.func17 rfl (by kernel_rfl) (by simp [Try.E]) (Callable.of Try.func17 (by kernel_rfl) (by kernel_rfl)) (by kernel_rfl) ?_
  simp -implicitDefEqProofs (maxSteps := 2000000) (disch := omega) only [go_sem, reduceCtorEq, Nat.reduceAdd, Nat.reduceSub, Nat.reduceMul, Nat.reduceLT, Nat.reduceLeDiff, Nat.reduceEqDiff, Nat.reduceBEq, Int.reduceToNat, Int.reduceLT, Int.reduceLE, Int.reduceEq, Int.reduceNeg, Int.reduceAdd, Int.reduceSub, Int.reduceMul, ↓reduceIte, Int.reduceBEq, Int.reduceBNe]
  refine upto_c r _ (by omega) σ hp _ fun s' x h3 h4 => ?_
  simp -implicitDefEqProofs (maxSteps := 2000000) (disch := omega) only [go_sem, reduceCtorEq, Nat.reduceAdd, Nat.reduceSub, Nat.reduceMul, Nat.reduceLT, Nat.reduceLeDiff, Nat.reduceEqDiff, Nat.reduceBEq, Int.reduceToNat, Int.reduceLT, Int.reduceLE, Int.reduceEq, Int.reduceNeg, Int.reduceAdd, Int.reduceSub, Int.reduceMul, ↓reduceIte, Int.reduceBEq, Int.reduceBNe, idx_tg]
  refine h _ _ ?_
  have hx : x.toNat < l.length := by omega
  have : tg l x = l[x.toNat] := by simp [tg, List.getD, List.getElem?_eq_getElem hx]
  rw [this]; exact List.getElem_mem hx
end Go.Proofs
