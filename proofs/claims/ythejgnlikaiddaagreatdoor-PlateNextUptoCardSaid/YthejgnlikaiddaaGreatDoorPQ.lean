/- Texts of a proof: lemmas. -/
import Derived.Test.YthejgnlikaiddaaGreatDoorPP
import Derived.Test.YthejgnlikaiddaaGreatDoorPJ0
set_option linter.unusedSimpArgs false
set_option linter.unusedVariables false
set_option maxRecDepth 100000
namespace Go.Proofs
open Go Go.Mu

attribute [go_sem] tRngs_dec
/-- One round of a loop. -/
theorem ARun.once {E : Env} (hE : EnvOK E) {ro : Option Nat} {c : Code} {k : List Item} {kp : Nat → Bool} {tm sl : List (Nat × AV)} {σ : List AObj} {Q : Post}
    (hO : todoOK E (.code c :: .inLoop c :: k) = true) (h : ev E ro 100000 (.code c :: .inLoop c :: k) ⟨kp, [], sl⟩ σ Q) : ARun E ro (.code (.loop c) :: k) ⟨kp, tm, sl⟩ σ Q :=
  ARun.anew (fr := ⟨kp, tm, sl⟩) (.loop (ev_sound hE hO h))
theorem same_step {α : Type} [DecidableEq α] {a b : List α} {i : Nat} (hl : a.length = b.length) (h : i < a.length) (ht : a.take i = b.take i) : (a.take (i + 1) = b.take (i + 1)) ↔ a[i] = b[i]'(by omega) := by
  have ta := List.take_succ_eq_append_getElem h
  have tb := List.take_succ_eq_append_getElem (l := b) (i := i) (by omega)
  rw [ta, tb, ht]
  simp only [List.append_cancel_left_eq, List.cons.injEq, and_true]
theorem sameInts_p (a b : List Int) (hl : a.length ≤ 4294967296) (hl2 : b.length ≤ 4294967296) : PureV Tryz.prog 23 [.list .no 1 (a.map (.int .i64)), .list .no 1 (b.map (.int .i64))] (.bool (decide (a = b))) := by
  refine PureV.of_ev (E := Tryz.E 31 Tryz.ord23 fs0) (Tryz.envOK 31 Tryz.ord23 fs0 fs0_ok) (.bool) Tryz.kp23 Tryz.func23 rfl (by kernel_rfl) (by simp [Tryz.E]) (Callable.of Tryz.func23 (by kernel_rfl) (by kernel_rfl)) (by kernel_rfl) ?_
  intro σ
  by_cases hlen : a.length = b.length
  · have hz : ((a.length : Int) = b.length) := by omega
    simp -implicitDefEqProofs (maxSteps := 2000000) (disch := omega) only [go_sem, reduceCtorEq, Nat.reduceAdd, Nat.reduceSub, Nat.reduceMul, Nat.reduceLT, Nat.reduceLeDiff, Nat.reduceEqDiff, Nat.reduceBEq, Int.reduceToNat, Int.reduceLT, Int.reduceLE, Int.reduceEq, Int.reduceNeg, Int.reduceAdd, Int.reduceSub, Int.reduceMul, ↓reduceIte, Int.reduceBEq, Int.reduceBNe]
    refine ARun.loopJ (Tryz.envOK 31 Tryz.ord23 fs0 fs0_ok) (α := Nat × Bool) (fun p => a.length - p.1) (fun p τ => τ = σ ∧ p.1 ≤ a.length ∧ p.2 = decide (a.take p.1 = b.take p.1)) (fun p => [(5, .bool p.2), (6, .int .i64 p.1)]) (0, true) (by kernel_rfl) (by simp [upd, ins, subF, lookA]) ⟨rfl, Nat.zero_le _, by simp⟩ ?_
    rintro ⟨i, c⟩ τ ⟨rfl, hi, hc⟩ ih
    simp only at hi hc ih
    cases c
    · simp -implicitDefEqProofs (maxSteps := 2000000) (disch := omega) only [go_sem, reduceCtorEq, Nat.reduceAdd, Nat.reduceSub, Nat.reduceMul, Nat.reduceLT, Nat.reduceLeDiff, Nat.reduceEqDiff, Nat.reduceBEq, Int.reduceToNat, Int.reduceLT, Int.reduceLE, Int.reduceEq, Int.reduceNeg, Int.reduceAdd, Int.reduceSub, Int.reduceMul, ↓reduceIte, Int.reduceBEq, Int.reduceBNe]
      have : ¬ a = b := fun e => by subst e; simp at hc
      simp [this]
    · have htk : a.take i = b.take i := by simpa using hc
      by_cases hlt : i < a.length
      · have hst := same_step hlen hlt htk
        have hia : idx (a.map (AV.int .i64)) (i : Int) = some (.int .i64 a[i]) := idx_nat hlt
        have hib : idx (b.map (AV.int .i64)) (i : Int) = some (.int .i64 (b[i]'(by omega))) := idx_nat (by omega)
        generalize a[i] = x at hst hia
        generalize b[i]'(by omega) = y at hst hib
        clear hc htk
        simp -implicitDefEqProofs (maxSteps := 2000000) (disch := omega) only [go_sem, reduceCtorEq, Nat.reduceAdd, Nat.reduceSub, Nat.reduceMul, Nat.reduceLT, Nat.reduceLeDiff, Nat.reduceEqDiff, Nat.reduceBEq, Int.reduceToNat, Int.reduceLT, Int.reduceLE, Int.reduceEq, Int.reduceNeg, Int.reduceAdd, Int.reduceSub, Int.reduceMul, ↓reduceIte, Int.reduceBEq, Int.reduceBNe, hia, hib]
        refine ⟨fun h => (ih (i + 1, true) _ (by simp only; omega) ⟨rfl, by simp only; omega, ?_⟩).castS rfl (by simp [upd, ins, subF, lookA]), fun h => (ih (i + 1, false) _ (by simp only; omega) ⟨rfl, by simp only; omega, ?_⟩).castS rfl (by simp [upd, ins, subF, lookA])⟩
        · simp [hst, h]
        · simp [hst, h]
      · have : i = a.length := by omega
        subst this
        simp -implicitDefEqProofs (maxSteps := 2000000) (disch := omega) only [go_sem, reduceCtorEq, Nat.reduceAdd, Nat.reduceSub, Nat.reduceMul, Nat.reduceLT, Nat.reduceLeDiff, Nat.reduceEqDiff, Nat.reduceBEq, Int.reduceToNat, Int.reduceLT, Int.reduceLE, Int.reduceEq, Int.reduceNeg, Int.reduceAdd, Int.reduceSub, Int.reduceMul, ↓reduceIte, Int.reduceBEq, Int.reduceBNe]
        have : a = b := by rwa [List.take_length, hlen, List.take_length] at htk
        simp [this]
  · have hz : ¬ ((a.length : Int) = b.length) := by omega
    have : ¬ a = b := fun e => hlen (by rw [e])
    simp -implicitDefEqProofs (maxSteps := 2000000) (disch := omega) only [go_sem, reduceCtorEq, Nat.reduceAdd, Nat.reduceSub, Nat.reduceMul, Nat.reduceLT, Nat.reduceLeDiff, Nat.reduceEqDiff, Nat.reduceBEq, Int.reduceToNat, Int.reduceLT, Int.reduceLE, Int.reduceEq, Int.reduceNeg, Int.reduceAdd, Int.reduceSub, Int.reduceMul, ↓reduceIte, Int.reduceBEq, Int.reduceBNe]
    refine ARun.once (Tryz.envOK 31 Tryz.ord23 fs0 fs0_ok) (by kernel_rfl) ?_
    simp -implicitDefEqProofs (maxSteps := 2000000) (disch := omega) only [go_sem, reduceCtorEq, Nat.reduceAdd, Nat.reduceSub, Nat.reduceMul, Nat.reduceLT, Nat.reduceLeDiff, Nat.reduceEqDiff, Nat.reduceBEq, Int.reduceToNat, Int.reduceLT, Int.reduceLE, Int.reduceEq, Int.reduceNeg, Int.reduceAdd, Int.reduceSub, Int.reduceMul, ↓reduceIte, Int.reduceBEq, Int.reduceBNe]
    simp [this]
def sameInts_s := spec2 tIs tIs fun a b => if a.length ≤ 4294967296 ∧ b.length ≤ 4294967296 then some (.bool (decide (a = b))) else none
theorem sameInts_ok : ∀ xs v, sameInts_s xs = some v → PureV Tryz.prog 23 xs v :=
  spec2_ok fun a b v h => by have h := someIf h; rw [← h.2]; exact sameInts_p a b h.1.1 h.1.2
def inR_s := spec2 tRng tI fun w n => some (.bool (decide (w.lo ≤ n ∧ n ≤ w.hi)))
def placeL (l : List Int) (x : Int) : Int := if x ∈ l then (l.idxOf x : Int) else -1
theorem place_at {l : List Int} {x : Int} {i : Nat} (hi : i < l.length) (h : x ∉ l.take i) (e : l[i] = x) : placeL l x = i := by
  have hm : x ∈ l := by rw [← e]; exact List.getElem_mem _
  unfold placeL
  rw [if_pos hm]
  have hs : l = l.take i ++ l[i] :: l.drop (i + 1) := by rw [← List.drop_eq_getElem_cons hi, List.take_append_drop]
  have : l.idxOf x = i := by
    conv => lhs; rw [hs]
    rw [List.idxOf_append, if_neg h, e]
    simp [List.idxOf_cons]; omega
  rw [this]
theorem place_nonneg {l : List Int} {x : Int} : decide (0 ≤ placeL l x) = l.contains x := by
  unfold placeL
  by_cases h : x ∈ l
  · rw [if_pos h]; simp [h]
  · rw [if_neg h]; simp [h]
theorem notin_succ {l : List Int} {x : Int} {i : Nat} (hi : i < l.length) (h : x ∉ l.take i) (e : l[i] ≠ x) : x ∉ l.take (i + 1) := by
  rw [List.take_succ_eq_append_getElem hi, List.mem_append]
  intro hm
  rcases hm with hm | hm
  · exact h hm
  · simp at hm; exact e hm.symm
def lplace_s := spec2 tIs tI fun l x => if l.length ≤ 4294967296 then some (.int .i64 (placeL l x)) else none
end Go.Proofs
