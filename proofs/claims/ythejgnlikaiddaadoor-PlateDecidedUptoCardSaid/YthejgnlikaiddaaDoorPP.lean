/- Texts of a proof: lemmas. -/
import Derived.Test.YthejgnlikaiddaaDoorPA1
import Derived.Test.YthejgnlikaiddaaDoorMu3
import Derived.Laws.Bits64
set_option linter.unusedSimpArgs false
set_option linter.unusedVariables false
set_option maxRecDepth 100000
namespace Go.Proofs
open Go Go.Mu

/-- A pot, and the objects when it holds another number. -/
def PotAt (σ : List AObj) (r : Nat) : Prop := ∃ s, hget σ r = some (.cells [.int .u64 s])
def pw (σ : List AObj) (r : Nat) (s : Int) : List AObj := hset σ r (.cells [.int .u64 s])
theorem pw_pw {σ : List AObj} {r : Nat} {s t : Int} : pw (pw σ r s) r t = pw σ r t := hset_hset
theorem PotAt.pw {σ : List AObj} {r : Nat} (h : PotAt σ r) (s : Int) : PotAt (pw σ r s) r := by obtain ⟨u, h⟩ := h; exact ⟨s, hget_set h _⟩
theorem pw_self {σ : List AObj} {r : Nat} (h : PotAt σ r) : ∃ s, pw σ r s = σ := by obtain ⟨s, h⟩ := h; exact ⟨s, hset_same h⟩
theorem step_c (r : Nat) (σ : List AObj) (hp : PotAt σ r) (Q : AV → List AObj → Prop) (h : ∀ s' x, 0 ≤ x → x < 18446744073709551616 → Q (.int .u64 x) (pw σ r s')) : ACalls Tryd.prog 55 [.ptr r 0] σ Q := by
  obtain ⟨s, hg⟩ := hp
  refine ACalls.of_ev (E := Tryd.E 31 (fun _ => ([], [])) fs0) (Tryd.envOK 31 (fun _ => ([], [])) fs0 fs0_ok) Tryd.kp55 Tryd.func55 rfl (by kernel_rfl) (by simp [Tryd.E]) (Callable.of Tryd.func55 (by kernel_rfl) (by kernel_rfl)) (by kernel_rfl) ?_
  have hg2 := fun o => hget_set hg o
  simp -implicitDefEqProofs (maxSteps := 2000000) (disch := omega) only [go_sem, reduceCtorEq, Nat.reduceAdd, Nat.reduceSub, Nat.reduceMul, Nat.reduceLT, Nat.reduceLeDiff, Nat.reduceEqDiff, Nat.reduceBEq, Int.reduceToNat, Int.reduceLT, Int.reduceLE, Int.reduceEq, Int.reduceNeg, Int.reduceAdd, Int.reduceSub, Int.reduceMul, ↓reduceIte, Int.reduceBEq, Int.reduceBNe, hg, hg2]
  exact h _ _ (by rw [IntKind.wrap_u64]; omega) (by rw [IntKind.wrap_u64]; omega)
theorem upto_c (r : Nat) (most : Int) (hm : most < 9223372036854775807) (σ : List AObj) (hp : PotAt σ r) (Q : AV → List AObj → Prop) (h : ∀ s' x, 0 ≤ x → x ≤ max 0 most → Q (.int .i64 x) (pw σ r s')) : ACalls Tryd.prog 21 [.ptr r 0, .int .i64 most] σ Q := by
  refine ACalls.of_ev (E := Tryd.E 15 (fun _ => ([], [])) fs0) (Tryd.envOK 15 (fun _ => ([], [])) fs0 fs0_ok) Tryd.kp21 Tryd.func21 rfl (by kernel_rfl) (by simp [Tryd.E]) (Callable.of Tryd.func21 (by kernel_rfl) (by kernel_rfl)) (by kernel_rfl) ?_
  by_cases h1 : most < 1
  · simp -implicitDefEqProofs (maxSteps := 2000000) (disch := omega) only [go_sem, reduceCtorEq, Nat.reduceAdd, Nat.reduceSub, Nat.reduceMul, Nat.reduceLT, Nat.reduceLeDiff, Nat.reduceEqDiff, Nat.reduceBEq, Int.reduceToNat, Int.reduceLT, Int.reduceLE, Int.reduceEq, Int.reduceNeg, Int.reduceAdd, Int.reduceSub, Int.reduceMul, ↓reduceIte, Int.reduceBEq, Int.reduceBNe]
    obtain ⟨s, hs⟩ := pw_self hp
    have := h s 0 (by omega) (by omega)
    rwa [hs] at this
  · have e2 : IntKind.u64.wrap (most + 1) = most + 1 := by rw [IntKind.wrap_u64]; omega
    simp -implicitDefEqProofs (maxSteps := 2000000) (disch := omega) only [go_sem, reduceCtorEq, Nat.reduceAdd, Nat.reduceSub, Nat.reduceMul, Nat.reduceLT, Nat.reduceLeDiff, Nat.reduceEqDiff, Nat.reduceBEq, Int.reduceToNat, Int.reduceLT, Int.reduceLE, Int.reduceEq, Int.reduceNeg, Int.reduceAdd, Int.reduceSub, Int.reduceMul, ↓reduceIte, Int.reduceBEq, Int.reduceBNe, e2]
    refine step_c r σ hp _ fun s' x h2 h3 => ?_
    have hy : 0 ≤ x.fdiv (2 ^ min 11 64) := Int.fdiv_nonneg h2 (by decide)
    simp -implicitDefEqProofs (maxSteps := 2000000) (disch := omega) only [go_sem, reduceCtorEq, Nat.reduceAdd, Nat.reduceSub, Nat.reduceMul, Nat.reduceLT, Nat.reduceLeDiff, Nat.reduceEqDiff, Nat.reduceBEq, Int.reduceToNat, Int.reduceLT, Int.reduceLE, Int.reduceEq, Int.reduceNeg, Int.reduceAdd, Int.reduceSub, Int.reduceMul, ↓reduceIte, Int.reduceBEq, Int.reduceBNe, e2]
    generalize x.fdiv (2 ^ min 11 64) = y at hy ⊢
    have h4 := Int.tmod_nonneg (most + 1) hy
    have h5 := Int.tmod_lt_of_pos y (b := most + 1) (by omega)
    have e4 : IntKind.i64.wrap (y.tmod (most + 1)) = y.tmod (most + 1) := by rw [IntKind.wrap_i64]; omega
    try rw [e4]
    exact h _ _ h4 (by omega)
theorem within_c (r : Nat) (lo hi : Int) (h1 : -1000000000000 ≤ lo ∧ lo ≤ 1000000000000) (h2 : -1000000000000 ≤ hi ∧ hi ≤ 1000000000000) (σ : List AObj) (hp : PotAt σ r) (Q : AV → List AObj → Prop) (h : ∀ s' x, lo ≤ x → x ≤ max lo hi → Q (.int .i64 x) (pw σ r s')) : ACalls Tryd.prog 42 [.ptr r 0, .int .i64 lo, .int .i64 hi] σ Q := by
  refine ACalls.of_ev (E := Tryd.E 14 (fun _ => ([], [])) fs0) (Tryd.envOK 14 (fun _ => ([], [])) fs0 fs0_ok) Tryd.kp42 Tryd.func42 rfl (by kernel_rfl) (by simp [Tryd.E]) (Callable.of Tryd.func42 (by kernel_rfl) (by kernel_rfl)) (by kernel_rfl) ?_
  simp -implicitDefEqProofs (maxSteps := 2000000) (disch := omega) only [go_sem, reduceCtorEq, Nat.reduceAdd, Nat.reduceSub, Nat.reduceMul, Nat.reduceLT, Nat.reduceLeDiff, Nat.reduceEqDiff, Nat.reduceBEq, Int.reduceToNat, Int.reduceLT, Int.reduceLE, Int.reduceEq, Int.reduceNeg, Int.reduceAdd, Int.reduceSub, Int.reduceMul, ↓reduceIte, Int.reduceBEq, Int.reduceBNe]
  refine upto_c r _ (by omega) σ hp _ fun s' x h3 h4 => ?_
  simp -implicitDefEqProofs (maxSteps := 2000000) (disch := omega) only [go_sem, reduceCtorEq, Nat.reduceAdd, Nat.reduceSub, Nat.reduceMul, Nat.reduceLT, Nat.reduceLeDiff, Nat.reduceEqDiff, Nat.reduceBEq, Int.reduceToNat, Int.reduceLT, Int.reduceLE, Int.reduceEq, Int.reduceNeg, Int.reduceAdd, Int.reduceSub, Int.reduceMul, ↓reduceIte, Int.reduceBEq, Int.reduceBNe]
  exact h _ _ (by omega) (by omega)
theorem odds_c (r : Nat) (n m : Int) (h1 : -1000000000000 ≤ n ∧ n ≤ 1000000000000) (h2 : -1000000000000 ≤ m ∧ m ≤ 1000000000000) (σ : List AObj) (hp : PotAt σ r) (Q : AV → List AObj → Prop) (h : ∀ s' b, Q (.bool b) (pw σ r s')) : ACalls Tryd.prog 14 [.ptr r 0, .int .i64 n, .int .i64 m] σ Q := by
  refine ACalls.of_ev (E := Tryd.E 13 (fun _ => ([], [])) fs0) (Tryd.envOK 13 (fun _ => ([], [])) fs0 fs0_ok) Tryd.kp14 Tryd.func14 rfl (by kernel_rfl) (by simp [Tryd.E]) (Callable.of Tryd.func14 (by kernel_rfl) (by kernel_rfl)) (by kernel_rfl) ?_
  simp -implicitDefEqProofs (maxSteps := 2000000) (disch := omega) only [go_sem, reduceCtorEq, Nat.reduceAdd, Nat.reduceSub, Nat.reduceMul, Nat.reduceLT, Nat.reduceLeDiff, Nat.reduceEqDiff, Nat.reduceBEq, Int.reduceToNat, Int.reduceLT, Int.reduceLE, Int.reduceEq, Int.reduceNeg, Int.reduceAdd, Int.reduceSub, Int.reduceMul, ↓reduceIte, Int.reduceBEq, Int.reduceBNe]
  refine upto_c r _ (by omega) σ hp _ fun s' x h3 h4 => ?_
  simp -implicitDefEqProofs (maxSteps := 2000000) (disch := omega) only [go_sem, reduceCtorEq, Nat.reduceAdd, Nat.reduceSub, Nat.reduceMul, Nat.reduceLT, Nat.reduceLeDiff, Nat.reduceEqDiff, Nat.reduceBEq, Int.reduceToNat, Int.reduceLT, Int.reduceLE, Int.reduceEq, Int.reduceNeg, Int.reduceAdd, Int.reduceSub, Int.reduceMul, ↓reduceIte, Int.reduceBEq, Int.reduceBNe]
  exact ⟨fun _ => h _ _, fun _ => h _ _⟩
theorem of_c (r : Nat) (l : List Int) (tk : Tok) (hl : 1 ≤ l.length ∧ l.length ≤ 1000) (σ : List AObj) (hp : PotAt σ r) (Q : AV → List AObj → Prop) (h : ∀ s' x, x ∈ l → Q (.int .i64 x) (pw σ r s')) : ACalls Tryd.prog 43 [.ptr r 0, .list tk 1 (l.map (.int .i64))] σ Q := by
  refine ACalls.of_ev (E := Tryd.E 16 (fun _ => ([], [])) fs0) (Tryd.envOK 16 (fun _ => ([], [])) fs0 fs0_ok) Tryd.kp43 Tryd.func43 rfl (by kernel_rfl) (by simp [Tryd.E]) (Callable.of Tryd.func43 (by kernel_rfl) (by kernel_rfl)) (by kernel_rfl) ?_
  simp -implicitDefEqProofs (maxSteps := 2000000) (disch := omega) only [go_sem, reduceCtorEq, Nat.reduceAdd, Nat.reduceSub, Nat.reduceMul, Nat.reduceLT, Nat.reduceLeDiff, Nat.reduceEqDiff, Nat.reduceBEq, Int.reduceToNat, Int.reduceLT, Int.reduceLE, Int.reduceEq, Int.reduceNeg, Int.reduceAdd, Int.reduceSub, Int.reduceMul, ↓reduceIte, Int.reduceBEq, Int.reduceBNe]
  refine upto_c r _ (by omega) σ hp _ fun s' x h3 h4 => ?_
  simp -implicitDefEqProofs (maxSteps := 2000000) (disch := omega) only [go_sem, reduceCtorEq, Nat.reduceAdd, Nat.reduceSub, Nat.reduceMul, Nat.reduceLT, Nat.reduceLeDiff, Nat.reduceEqDiff, Nat.reduceBEq, Int.reduceToNat, Int.reduceLT, Int.reduceLE, Int.reduceEq, Int.reduceNeg, Int.reduceAdd, Int.reduceSub, Int.reduceMul, ↓reduceIte, Int.reduceBEq, Int.reduceBNe, idx_tg]
  refine h _ _ ?_
  have hx : x.toNat < l.length := by omega
  have : tg l x = l[x.toNat] := by simp [tg, List.getD, List.getElem?_eq_getElem hx]
  rw [this]; exact List.getElem_mem hx
theorem newPot_c (l : List Int) (tk : Tok) (hl : l.length ≤ 4294967296) (σ : List AObj) (Q : AV → List AObj → Prop) (h : ∀ s junk, Q (.ptr σ.length 0) (σ ++ (.cells [.int .u64 s] :: junk))) : ACalls Tryd.prog 11 [.list tk 1 (l.map (.int .i64))] σ Q := by
  refine ACalls.of_ev (E := Tryd.E 41 Tryd.ord11 fs0) (Tryd.envOK 41 Tryd.ord11 fs0 fs0_ok) Tryd.kp11 Tryd.func11 rfl (by kernel_rfl) (by simp [Tryd.E]) (Callable.of Tryd.func11 (by kernel_rfl) (by kernel_rfl)) (by kernel_rfl) ?_
  simp -implicitDefEqProofs (maxSteps := 2000000) (disch := omega) only [go_sem, reduceCtorEq, Nat.reduceAdd, Nat.reduceSub, Nat.reduceMul, Nat.reduceLT, Nat.reduceLeDiff, Nat.reduceEqDiff, Nat.reduceBEq, Int.reduceToNat, Int.reduceLT, Int.reduceLE, Int.reduceEq, Int.reduceNeg, Int.reduceAdd, Int.reduceSub, Int.reduceMul, ↓reduceIte, Int.reduceBEq, Int.reduceBNe]
  refine ARun.forJ (Tryd.envOK 41 Tryd.ord11 fs0 fs0_ok) l.length (fun i τ => ∃ s j, τ = σ ++ (.cells [.int .u64 s] :: j)) (fun i => [(4, .int .i64 i)]) (by kernel_rfl) (by simp [upd, ins, subF, lookA]) ⟨_, [], rfl⟩ ?_ ?_
  · rintro i τ hi ⟨s, j, rfl⟩ ih
    simp -implicitDefEqProofs (maxSteps := 2000000) (disch := omega) only [go_sem, reduceCtorEq, Nat.reduceAdd, Nat.reduceSub, Nat.reduceMul, Nat.reduceLT, Nat.reduceLeDiff, Nat.reduceEqDiff, Nat.reduceBEq, Int.reduceToNat, Int.reduceLT, Int.reduceLE, Int.reduceEq, Int.reduceNeg, Int.reduceAdd, Int.reduceSub, Int.reduceMul, ↓reduceIte, Int.reduceBEq, Int.reduceBNe]
    exact (ih _ ⟨_, _, rfl⟩).castS rfl (by simp [upd, ins, subF, lookA])
  · rintro τ ⟨s, j, rfl⟩
    simp -implicitDefEqProofs (maxSteps := 2000000) (disch := omega) only [go_sem, reduceCtorEq, Nat.reduceAdd, Nat.reduceSub, Nat.reduceMul, Nat.reduceLT, Nat.reduceLeDiff, Nat.reduceEqDiff, Nat.reduceBEq, Int.reduceToNat, Int.reduceLT, Int.reduceLE, Int.reduceEq, Int.reduceNeg, Int.reduceAdd, Int.reduceSub, Int.reduceMul, ↓reduceIte, Int.reduceBEq, Int.reduceBNe]
    exact h _ _
/-- A copy of a list, a list of its own. -/
theorem ints_c (l : List Int) (tk : Tok) (hl : l.length ≤ 4294967296) (σ : List AObj) (Q : AV → List AObj → Prop) (h : Q (.list (.own σ.length) 1 (l.map (.int .i64))) (σ ++ [.tail l.length 1])) :
    ACalls Tryd.prog 44 [.list tk 1 (l.map (.int .i64))] σ Q := by
  refine ACalls.of_ev (E := Tryd.E 6 (fun _ => ([], [])) fs0) (Tryd.envOK 6 (fun _ => ([], [])) fs0 fs0_ok) Tryd.kp44 Tryd.func44 rfl (by kernel_rfl) (by simp [Tryd.E]) (Callable.of Tryd.func44 (by kernel_rfl) (by kernel_rfl)) (by kernel_rfl) ?_
  simp -implicitDefEqProofs (maxSteps := 2000000) (disch := omega) only [go_sem, reduceCtorEq, Nat.reduceAdd, Nat.reduceSub, Nat.reduceMul, Nat.reduceLT, Nat.reduceLeDiff, Nat.reduceEqDiff, Nat.reduceBEq, Int.reduceToNat, Int.reduceLT, Int.reduceLE, Int.reduceEq, Int.reduceNeg, Int.reduceAdd, Int.reduceSub, Int.reduceMul, ↓reduceIte, Int.reduceBEq, Int.reduceBNe]
  exact h
theorem rngs_plain (l : List Rng) : Plain (.list .no 2 (l.map Rng.av)) := .map fun x _ => Rng.plain x
theorem ranges_p (l : List Rng) (hl : l.length ≤ 4294967296) : PureV Tryd.prog 76 [.list .no 2 (l.map Rng.av)] (.list .no 2 (l.map Rng.av)) := by
  refine PureV.of_ev (E := Tryd.E 6 (fun _ => ([], [])) fs0) (Tryd.envOK 6 (fun _ => ([], [])) fs0 fs0_ok) (rngs_plain _) Tryd.kp76 Tryd.func76 rfl (by kernel_rfl) (by simp [Tryd.E]) (Callable.of Tryd.func76 (by kernel_rfl) (by kernel_rfl)) (by kernel_rfl) ?_
  intro σ
  simp -implicitDefEqProofs (maxSteps := 2000000) (disch := omega) only [go_sem, reduceCtorEq, Nat.reduceAdd, Nat.reduceSub, Nat.reduceMul, Nat.reduceLT, Nat.reduceLeDiff, Nat.reduceEqDiff, Nat.reduceBEq, Int.reduceToNat, Int.reduceLT, Int.reduceLE, Int.reduceEq, Int.reduceNeg, Int.reduceAdd, Int.reduceSub, Int.reduceMul, ↓reduceIte, Int.reduceBEq, Int.reduceBNe]
def tRngs : Ty (List Rng) := ⟨decL 2 decRng, fun l => .list .no 2 (l.map Rng.av), decL_inv' decRng_inv⟩
theorem tRngs_dec {a : AV} : tRngs.dec a = decL 2 decRng a := rfl
def ranges_s := spec1 tRngs fun l => if l.length ≤ 4294967296 then some (.list .no 2 (l.map Rng.av)) else none
theorem ranges_ok : ∀ xs v, ranges_s xs = some v → PureV Tryd.prog 76 xs v :=
  spec1_ok fun l v h => by have h := someIf h; rw [← h.2]; exact ranges_p l h.1
def sameRanges_s := spec2 tRngs tRngs fun a b => if a.length ≤ 4294967296 ∧ b.length ≤ 4294967296 then some (.bool (decide (a = b))) else none
theorem length_pw {σ : List AObj} {r : Nat} {s : Int} : (pw σ r s).length = σ.length := length_hset
theorem hget_pw0 {σ l : List AObj} {r : Nat} {s : Int} : hget (pw σ r s ++ l) σ.length = l[0]? := by rw [← length_pw (σ := σ) (r := r) (s := s)]; exact hget_at0
theorem hget_pw {σ l : List AObj} {r k : Nat} {s : Int} : hget (pw σ r s ++ l) (σ.length + k) = l[k]? := by rw [← length_pw (σ := σ) (r := r) (s := s)]; exact hget_at
theorem hset_pw0 {σ l : List AObj} {r : Nat} {s : Int} {o : AObj} : hset (pw σ r s ++ l) σ.length o = pw σ r s ++ l.set 0 o := by rw [← length_pw (σ := σ) (r := r) (s := s)]; exact hset_at0
theorem hset_pw {σ l : List AObj} {r k : Nat} {s : Int} {o : AObj} : hset (pw σ r s ++ l) (σ.length + k) o = pw σ r s ++ l.set k o := by rw [← length_pw (σ := σ) (r := r) (s := s)]; exact hset_at
theorem pw_app {σ l : List AObj} {r : Nat} {s : Int} (hr : r < σ.length) : pw (σ ++ l) r s = pw σ r s ++ l := by unfold pw hset; rw [List.set_append_left _ _ hr]
theorem pw_pwa {σ l : List AObj} {r : Nat} {s t : Int} (hr : r < σ.length) : pw (pw σ r s ++ l) r t = pw σ r t ++ l := by
  rw [pw_app (by rw [length_pw]; exact hr), pw_pw]
theorem PotAt.app {σ l : List AObj} {r : Nat} (h : PotAt σ r) : PotAt (σ ++ l) r := by obtain ⟨s, hg⟩ := h; exact ⟨s, by rw [hget_app (hget_lt hg)]; exact hg⟩
theorem PotAt.lt {σ : List AObj} {r : Nat} (h : PotAt σ r) : r < σ.length := by obtain ⟨s, hg⟩ := h; exact hget_lt hg
end Go.Proofs
