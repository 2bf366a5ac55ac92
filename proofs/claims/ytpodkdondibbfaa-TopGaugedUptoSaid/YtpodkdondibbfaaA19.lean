/- Texts of a proof: lemmas. -/
import Derived.Test.YtpodkdondibbfaaAA
set_option linter.unusedSimpArgs false
set_option linter.unusedVariables false
set_option maxRecDepth 100000
namespace Go.Proofs
open Go Go.Mu

theorem rngs_plain (l : List Rng) : Plain (.list .no 2 (l.map Rng.av)) := .map fun x _ => Rng.plain x
def tRngs : Ty (List Rng) := ⟨decL 2 decRng, fun l => .list .no 2 (l.map Rng.av), decL_inv' decRng_inv⟩
theorem tRngs_dec {a : AV} : tRngs.dec a = decL 2 decRng a := rfl
def ranges_s := spec1 tRngs fun l => if l.length ≤ 4294967296 then some (.list .no 2 (l.map Rng.av)) else none
theorem sameRanges_p (a b : List Rng) (hl : a.length ≤ 4294967296) (hl2 : b.length ≤ 4294967296) : PureV Try.prog 39 [.list .no 2 (a.map Rng.av), .list .no 2 (b.map Rng.av)] (.bool (decide (a = b))) := by
  refine PureV.of_ev (E := Try.E 31 Try.ord39 fs0) (Try.envOK 31 Try.ord39 fs0 fs0_ok) (.bool) Try.kp39 Try.func39 rfl (by kernel_rfl) (by simp [Try.E]) (Callable.of Try.func39 (by kernel_rfl) (by kernel_rfl)) (by kernel_rfl) ?_
  intro σ
  simp -implicitDefEqProofs (maxSteps := 2000000) (disch := omega) only [go_sem, reduceCtorEq, Nat.reduceAdd, Nat.reduceSub, Nat.reduceMul, Nat.reduceLT, Nat.reduceLeDiff, Nat.reduceEqDiff, Nat.reduceBEq, Int.reduceToNat, Int.reduceLT, Int.reduceLE, Int.reduceEq, Int.reduceNeg, Int.reduceAdd, Int.reduceSub, Int.reduceMul, ↓reduceIte, Int.reduceBEq, Int.reduceBNe]
  have hcl : ∀ x : Rng, x.av.cells = [.int .i64 x.lo, .int .i64 x.hi] := fun _ => rfl
  have hse : ∀ x y : Rng, ([x.lo, x.hi] == [y.lo, y.hi]) = decide (x = y) := fun x y => by
    rw [Bool.eq_iff_iff]; cases x; cases y; simp
  have fin : ∀ b0 : Bool, b0 = decide (a.length = b.length) → ∀ (i : Nat) (c : Bool), i ≤ a.length → c = (decide (a.length = b.length) && decide (a.take i = b.take i)) → (c = false ∨ i = a.length) → c = decide (a = b) := by
    intro b0 hb0 i c hi hc h
    rcases h with rfl | rfl
    · symm; rw [decide_eq_false_iff_not]; rintro rfl; simp at hc
    · rw [hc, List.take_length]
      by_cases hl : a.length = b.length
      · rw [hl, List.take_length]; simp [hl]
      · have : ¬ a = b := fun e => hl (by rw [e])
        simp [hl, this]
  refine ⟨fun hlen => ?_, fun hlen => ?_⟩
  · have hlen' : a.length = b.length := by omega
    refine ARun.loopJ (Try.envOK 31 Try.ord39 fs0 fs0_ok) (α := Nat × Bool) (fun p => a.length - p.1) (fun p τ => τ = σ ∧ p.1 ≤ a.length ∧ p.2 = (decide (a.length = b.length) && decide (a.take p.1 = b.take p.1))) (fun p => [(5, .bool p.2), (6, .int .i64 p.1)]) (0, true) (by kernel_rfl) (by simp [upd, ins, subF, lookA]) ⟨rfl, Nat.zero_le _, by simp [hlen']⟩ ?_
    rintro ⟨i, c⟩ τ ⟨rfl, hi, hc⟩ ih
    simp only at hi hc ih
    have hfin := fin _ rfl i c hi hc
    cases c
    · simp -implicitDefEqProofs (maxSteps := 2000000) (disch := omega) only [go_sem, reduceCtorEq, Nat.reduceAdd, Nat.reduceSub, Nat.reduceMul, Nat.reduceLT, Nat.reduceLeDiff, Nat.reduceEqDiff, Nat.reduceBEq, Int.reduceToNat, Int.reduceLT, Int.reduceLE, Int.reduceEq, Int.reduceNeg, Int.reduceAdd, Int.reduceSub, Int.reduceMul, ↓reduceIte, Int.reduceBEq, Int.reduceBNe]
      simpa using hfin
    · by_cases hlt : i < a.length
      · simp -implicitDefEqProofs (maxSteps := 2000000) (disch := omega) only [go_sem, reduceCtorEq, Nat.reduceAdd, Nat.reduceSub, Nat.reduceMul, Nat.reduceLT, Nat.reduceLeDiff, Nat.reduceEqDiff, Nat.reduceBEq, Int.reduceToNat, Int.reduceLT, Int.reduceLE, Int.reduceEq, Int.reduceNeg, Int.reduceAdd, Int.reduceSub, Int.reduceMul, ↓reduceIte, Int.reduceBEq, Int.reduceBNe, hcl]
        have hib : i < b.length := by omega
        have ta := List.take_succ_eq_append_getElem hlt
        have tb := List.take_succ_eq_append_getElem hib
        have hx : ([a[i].lo, a[i].hi] = [b[i].lo, b[i].hi]) = (a[i] = b[i]) := by
          have := hse a[i] b[i]
          rw [Bool.eq_iff_iff] at this
          simpa using this
        have htk : a.take i = b.take i := by simpa [hlen'] using hc
        rw [hx]
        refine ⟨fun h => (ih (i + 1, true) _ (by simp only; omega) ⟨rfl, by simp only; omega, ?_⟩).castS rfl (by simp [upd, ins, subF, lookA]), fun h => (ih (i + 1, false) _ (by simp only; omega) ⟨rfl, by simp only; omega, ?_⟩).castS rfl (by simp [upd, ins, subF, lookA])⟩
        · have : a.take (i + 1) = b.take (i + 1) := by rw [ta, tb, htk, h]
          simp [this, hlen']
        · have : ¬ a.take (i + 1) = b.take (i + 1) := fun e2 => by
            rw [ta, tb, htk] at e2
            exact h (by simpa only [List.append_cancel_left_eq, List.cons.injEq, and_true] using e2)
          simp [this]
      · have : i = a.length := by omega
        simp -implicitDefEqProofs (maxSteps := 2000000) (disch := omega) only [go_sem, reduceCtorEq, Nat.reduceAdd, Nat.reduceSub, Nat.reduceMul, Nat.reduceLT, Nat.reduceLeDiff, Nat.reduceEqDiff, Nat.reduceBEq, Int.reduceToNat, Int.reduceLT, Int.reduceLE, Int.reduceEq, Int.reduceNeg, Int.reduceAdd, Int.reduceSub, Int.reduceMul, ↓reduceIte, Int.reduceBEq, Int.reduceBNe]
        simpa [this] using hfin
  · have hlen' : ¬ a.length = b.length := by omega
    refine ARun.loopJ (Try.envOK 31 Try.ord39 fs0 fs0_ok) (α := Nat × Bool) (fun p => a.length - p.1) (fun p τ => τ = σ ∧ p.1 ≤ a.length ∧ p.2 = false) (fun p => [(5, .bool p.2), (6, .int .i64 p.1)]) (0, false) (by kernel_rfl) (by simp [upd, ins, subF, lookA]) ⟨rfl, Nat.zero_le _, rfl⟩ ?_
    rintro ⟨i, c⟩ τ ⟨rfl, hi, hc⟩ ih
    simp only at hi hc ih
    subst hc
    simp -implicitDefEqProofs (maxSteps := 2000000) (disch := omega) only [go_sem, reduceCtorEq, Nat.reduceAdd, Nat.reduceSub, Nat.reduceMul, Nat.reduceLT, Nat.reduceLeDiff, Nat.reduceEqDiff, Nat.reduceBEq, Int.reduceToNat, Int.reduceLT, Int.reduceLE, Int.reduceEq, Int.reduceNeg, Int.reduceAdd, Int.reduceSub, Int.reduceMul, ↓reduceIte, Int.reduceBEq, Int.reduceBNe]
    have : ¬ a = b := fun e => hlen' (by rw [e])
    simp [this]
def sameRanges_s := spec2 tRngs tRngs fun a b => if a.length ≤ 4294967296 ∧ b.length ≤ 4294967296 then some (.bool (decide (a = b))) else none
theorem sameRanges_ok : ∀ xs v, sameRanges_s xs = some v → PureV Try.prog 39 xs v :=
  spec2_ok fun a b v h => by have h := someIf h; rw [← h.2]; exact sameRanges_p a b h.1.1 h.1.2
def fs14 (f : FuncId) (xs : List AV) : Option AV := if f = 39 then sameRanges_s xs else fs13 f xs
theorem fs14_ok : ∀ f xs v, fs14 f xs = some v → PureV Try.prog f xs v := by
  intro f xs v h
  unfold fs14 at h
  split at h
  · rename_i e; subst e; exact sameRanges_ok _ _ h
  exact fs13_ok _ _ _ h
attribute [go_sem] fs14 sameRanges_s
theorem newPot_c (l : List Int) (tk : Tok) (hl : l.length ≤ 4294967296) (σ : List AObj) (Q : AV → List AObj → Prop) (h : ∀ s junk, Q (.ptr σ.length 0) (σ ++ (.cells [.int .u64 s] :: junk))) : ACalls Try.prog 5 [.list tk 1 (l.map (.int .i64))] σ Q := by
  refine ACalls.of_ev (E := Try.E 41 Try.ord5 fs0) (Try.envOK 41 Try.ord5 fs0 fs0_ok) Try.kp5 Try.func5 rfl (by kernel_rfl) (by simp [Try.E]) (Callable.of Try.func5 (by kernel_rfl) (by kernel_rfl)) (by kernel_rfl) ?_
  simp -implicitDefEqProofs (maxSteps := 2000000) (disch := omega) only [go_sem, reduceCtorEq, Nat.reduceAdd, Nat.reduceSub, Nat.reduceMul, Nat.reduceLT, Nat.reduceLeDiff, Nat.reduceEqDiff, Nat.reduceBEq, Int.reduceToNat, Int.reduceLT, Int.reduceLE, Int.reduceEq, Int.reduceNeg, Int.reduceAdd, Int.reduceSub, Int.reduceMul, ↓reduceIte, Int.reduceBEq, Int.reduceBNe]
  refine ARun.forJ (Try.envOK 41 Try.ord5 fs0 fs0_ok) l.length (fun i τ => ∃ s j, τ = σ ++ (.cells [.int .u64 s] :: j)) (fun i => [(4, .int .i64 i)]) (by kernel_rfl) (by simp [upd, ins, subF, lookA]) ⟨_, [], rfl⟩ ?_ ?_
  · rintro i τ hi ⟨s, j, rfl⟩ ih
    simp -implicitDefEqProofs (maxSteps := 2000000) (disch := omega) only [go_sem, reduceCtorEq, Nat.reduceAdd, Nat.reduceSub, Nat.reduceMul, Nat.reduceLT, Nat.reduceLeDiff, Nat.reduceEqDiff, Nat.reduceBEq, Int.reduceToNat, Int.reduceLT, Int.reduceLE, Int.reduceEq, Int.reduceNeg, Int.reduceAdd, Int.reduceSub, Int.reduceMul, ↓reduceIte, Int.reduceBEq, Int.reduceBNe]
    exact (ih _ ⟨_, _, rfl⟩).castS rfl (by simp [upd, ins, subF, lookA])
  · rintro τ ⟨s, j, rfl⟩
    simp -implicitDefEqProofs (maxSteps := 2000000) (disch := omega) only [go_sem, reduceCtorEq, Nat.reduceAdd, Nat.reduceSub, Nat.reduceMul, Nat.reduceLT, Nat.reduceLeDiff, Nat.reduceEqDiff, Nat.reduceBEq, Int.reduceToNat, Int.reduceLT, Int.reduceLE, Int.reduceEq, Int.reduceNeg, Int.reduceAdd, Int.reduceSub, Int.reduceMul, ↓reduceIte, Int.reduceBEq, Int.reduceBNe]
    exact h _ _
end Go.Proofs
