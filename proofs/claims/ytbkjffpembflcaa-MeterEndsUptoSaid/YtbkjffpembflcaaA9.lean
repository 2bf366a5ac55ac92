/- Texts of a proof: lemmas. -/
import Derived.Test.YtbkjffpembflcaaA8
set_option linter.unusedSimpArgs false
set_option linter.unusedVariables false
set_option maxRecDepth 100000
namespace Go.Proofs
open Go Go.Mu

/-- One outcome more is counted. -/
def stepW (w : List (Int × Int) × Int) (k : Int) : List (Int × Int) × Int := (mset w.1 k ((mget w.1 k).getD 0 + 1), mx w.2 ((mget w.1 k).getD 0 + 1))
def worstS (r : Rd) (sl : Int) (w : List (Int × Int) × Int) (t : List Int) : List (Int × Int) × Int := (showsL r sl t).foldl stepW w
/-- How many truths an outcome leaves at most. -/
def worstL (r : Rd) (sl : Int) (l : List (List Int)) : Int := (l.foldl (worstS r sl) ([], 0)).2
def bW (b : Int) (w : List (Int × Int) × Int) : Prop := (∀ p ∈ w.1, 0 ≤ p.2 ∧ p.2 ≤ b) ∧ 0 ≤ w.2 ∧ w.2 ≤ b
theorem bW_get {b : Int} (hb : 0 ≤ b) {w : List (Int × Int) × Int} (h : bW b w) (k : Int) : 0 ≤ (mget w.1 k).getD 0 ∧ (mget w.1 k).getD 0 ≤ b := by
  cases hg : mget w.1 k with
  | none => simp; exact hb
  | some c => simpa using h.1 _ (mget_mem hg)
theorem bW_step {b : Int} (hb : 0 ≤ b) {w : List (Int × Int) × Int} (h : bW b w) (k : Int) : bW (b + 1) (stepW w k) := by
  have hg := bW_get hb h k
  refine ⟨fun p hp => ?_, ?_⟩
  · rcases mset_mem hp with rfl | hp
    · simp only; omega
    · have := h.1 p hp; omega
  · have := h.2
    simp only [stepW, mx]; split <;> omega
theorem bW_mono {b c : Int} {w : List (Int × Int) × Int} (h : bW b w) (hbc : b ≤ c) : bW c w := ⟨fun p hp => by have := h.1 p hp; omega, by have := h.2; omega⟩
set_option maxHeartbeats 1000000 in
theorem worst_p (r : Rd) (sl : Int) (l : List (List Int)) (hr : okR r) (hsl : 0 ≤ sl ∧ sl ≤ 3) (hl : l.length ≤ 10000) (h3 : ∀ t ∈ l, t.length = 3 ∧ small t) : PureV Try.prog 104 [tavs l, rdv r sl] (.int .i64 (worstL r sl l)) := by
  refine PureV.of_ev (E := Try.E 38 (fun _ => ([], [])) fs5) (Try.envOK 38 (fun _ => ([], [])) fs5 fs5_ok) (.int) Try.kp104 Try.func104 rfl (by kernel_rfl) (by simp [Try.E]) (Callable.of Try.func104 (by kernel_rfl) (by kernel_rfl)) (by kernel_rfl) ?_
  intro σ
  simp only [tavs]
  simp -implicitDefEqProofs (maxSteps := 2000000) (disch := omega) only [go_sem, reduceCtorEq, Nat.reduceAdd, Nat.reduceSub, Nat.reduceMul, Nat.reduceLT, Nat.reduceLeDiff, Nat.reduceEqDiff, Nat.reduceBEq, Int.reduceToNat, Int.reduceLT, Int.reduceLE, Int.reduceEq, Int.reduceNeg, Int.reduceAdd, Int.reduceSub, Int.reduceMul, ↓reduceIte, Int.reduceBEq, Int.reduceBNe, tav]
  refine ARun.forS (Try.envOK 38 (fun _ => ([], [])) fs5 fs5_ok) l.length (fun i => bW (i * 30001) ((l.take i).foldl (worstS r sl) ([], 0))) (fun i => [(6, .int .i64 ((l.take i).foldl (worstS r sl) ([], 0)).2), (14, .int .i64 i)]) (fun i j => σ ++ (.map (mapI ((l.take i).foldl (worstS r sl) ([], 0)).1) :: j)) [] (by kernel_rfl) rfl (by simp [upd, ins, subF, lookA]) (by simp [bW]) ?_ ?_
  · intro i j hi hp ih
    have hmi : l[i] ∈ l := List.getElem_mem hi
    obtain ⟨h3i, hsi⟩ := h3 _ hmi
    rw [foldl_take _ _ _ _ hi] at ih
    generalize (l.take i).foldl (worstS r sl) ([], 0) = w at hp ih ⊢
    simp -implicitDefEqProofs (maxSteps := 2000000) (disch := omega) only [go_sem, reduceCtorEq, Nat.reduceAdd, Nat.reduceSub, Nat.reduceMul, Nat.reduceLT, Nat.reduceLeDiff, Nat.reduceEqDiff, Nat.reduceBEq, Int.reduceToNat, Int.reduceLT, Int.reduceLE, Int.reduceEq, Int.reduceNeg, Int.reduceAdd, Int.reduceSub, Int.reduceMul, ↓reduceIte, Int.reduceBEq, Int.reduceBNe, tav]
    refine shows_p r sl l[i] hr hsl h3i hsi _ _ ?_
    simp only [tIs]
    have hsl2 := showsL_len (r := r) (sl := sl) (t := l[i])
    simp -implicitDefEqProofs (maxSteps := 2000000) (disch := omega) only [go_sem, reduceCtorEq, Nat.reduceAdd, Nat.reduceSub, Nat.reduceMul, Nat.reduceLT, Nat.reduceLeDiff, Nat.reduceEqDiff, Nat.reduceBEq, Int.reduceToNat, Int.reduceLT, Int.reduceLE, Int.reduceEq, Int.reduceNeg, Int.reduceAdd, Int.reduceSub, Int.reduceMul, ↓reduceIte, Int.reduceBEq, Int.reduceBNe, tav]
    refine ARun.forS (Try.envOK 38 (fun _ => ([], [])) fs5 fs5_ok) (showsL r sl l[i]).length (fun i2 => bW (i * 30001 + i2) (((showsL r sl l[i]).take i2).foldl stepW w)) (fun i2 => [(6, .int .i64 (((showsL r sl l[i]).take i2).foldl stepW w).2), (22, .int .i64 i2)]) (fun i2 j => σ ++ (.map (mapI (((showsL r sl l[i]).take i2).foldl stepW w).1) :: j)) _ (by kernel_rfl) rfl (by simp [upd, ins, subF, lookA]) (by simpa using hp) ?_ ?_
    · intro i2 j2 hi2 hp2 ih2
      rw [foldl_take _ _ _ _ hi2] at ih2
      have hb := bW_step (by omega) hp2 (showsL r sl l[i])[i2]
      have hg := bW_get (by omega) hp2 (showsL r sl l[i])[i2]
      generalize ((showsL r sl l[i]).take i2).foldl stepW w = w2 at hp2 ih2 hb hg ⊢
      generalize hkk : (showsL r sl l[i])[i2] = kk at ih2 hb hg
      simp -implicitDefEqProofs (maxSteps := 2000000) (disch := omega) only [go_sem, reduceCtorEq, Nat.reduceAdd, Nat.reduceSub, Nat.reduceMul, Nat.reduceLT, Nat.reduceLeDiff, Nat.reduceEqDiff, Nat.reduceBEq, Int.reduceToNat, Int.reduceLT, Int.reduceLE, Int.reduceEq, Int.reduceNeg, Int.reduceAdd, Int.reduceSub, Int.reduceMul, ↓reduceIte, Int.reduceBEq, Int.reduceBNe, tav, hkk]
      refine (ih2 (bW_mono hb (by simp only [Int.natCast_add, Int.cast_ofNat_Int]; omega)) j2).castS rfl (by simp [upd, ins, subF, lookA, stepW, mx])
    · intro j2 hp2
      rw [List.take_length] at hp2 ⊢
      simp -implicitDefEqProofs (maxSteps := 2000000) (disch := omega) only [go_sem, reduceCtorEq, Nat.reduceAdd, Nat.reduceSub, Nat.reduceMul, Nat.reduceLT, Nat.reduceLeDiff, Nat.reduceEqDiff, Nat.reduceBEq, Int.reduceToNat, Int.reduceLT, Int.reduceLE, Int.reduceEq, Int.reduceNeg, Int.reduceAdd, Int.reduceSub, Int.reduceMul, ↓reduceIte, Int.reduceBEq, Int.reduceBNe, tav]
      refine (ih (bW_mono hp2 (by simp only [Int.natCast_add, Int.cast_ofNat_Int]; omega)) j2).castS rfl (by simp [upd, ins, subF, lookA, worstS])
  · intro j hp
    rw [List.take_length]
    simp -implicitDefEqProofs (maxSteps := 2000000) (disch := omega) only [go_sem, reduceCtorEq, Nat.reduceAdd, Nat.reduceSub, Nat.reduceMul, Nat.reduceLT, Nat.reduceLeDiff, Nat.reduceEqDiff, Nat.reduceBEq, Int.reduceToNat, Int.reduceLT, Int.reduceLE, Int.reduceEq, Int.reduceNeg, Int.reduceAdd, Int.reduceSub, Int.reduceMul, ↓reduceIte, Int.reduceBEq, Int.reduceBNe, tav]
    simp [worstL]
end Go.Proofs
