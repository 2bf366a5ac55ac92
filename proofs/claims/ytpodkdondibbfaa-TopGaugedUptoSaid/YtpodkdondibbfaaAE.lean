/- Texts of a proof: lemmas. -/
import Derived.Test.YtpodkdondibbfaaAD
set_option linter.unusedSimpArgs false
set_option linter.unusedVariables false
set_option maxRecDepth 100000
namespace Go.Proofs
open Go Go.Mu

/-- One outcome more is counted. -/
def stepW (w : List (Int × Int) × Int) (k : Int) : List (Int × Int) × Int := (mset w.1 k ((mget w.1 k).getD 0 + 1), mx w.2 ((mget w.1 k).getD 0 + 1))
def worstS (r : Rd) (sl : Int) (w : List (Int × Int) × Int) (t : List Int) : List (Int × Int) × Int := (showsL r sl t).foldl stepW w
/-- How many truths an outcome leaves at most. -/
def worstL (r : Rd) (sl : Int) (l : List (List Int)) : Int := (l.foldl (worstS r sl) ([], 0)).2
def bW (b : Int) (w : List (Int × Int) × Int) : Prop := (∀ p ∈ w.1, 0 ≤ p.2 ∧ p.2 ≤ b) ∧ 0 ≤ w.2 ∧ w.2 ≤ b
theorem bW_get {b : Int} (hb : 0 ≤ b) {w : List (Int × Int) × Int} (h : bW b w) (k : Int) : 0 ≤ (mget w.1 k).getD 0 ∧ (mget w.1 k).getD 0 ≤ b := by
  cases hg : mget w.1 k with
  | none => simp; exact hb
  | some c => simpa using h.1 _ (mget_mem hg)
theorem bW_step {b : Int} (hb : 0 ≤ b) {w : List (Int × Int) × Int} (h : bW b w) (k : Int) : bW (b + 1) (stepW w k) := by
  have hg := bW_get hb h k
  refine ⟨fun p hp => ?_, ?_⟩
  · rcases mset_mem hp with rfl | hp
    · simp only; omega
    · have := h.1 p hp; omega
  · have := h.2
    simp only [stepW, mx]; split <;> omega
theorem bW_mono {b c : Int} {w : List (Int × Int) × Int} (h : bW b w) (hbc : b ≤ c) : bW c w := ⟨fun p hp => by have := h.1 p hp; omega, by have := h.2; omega⟩
end Go.Proofs
set_option linter.unusedSimpArgs false
set_option linter.unusedVariables false
set_option maxRecDepth 100000
namespace Go.Proofs
open Go Go.Mu

def leastS (num : Rd → Int) (b : Rd × Int) (x : Rd) : Rd × Int := if num x < b.2 then (x, num x) else b
/-- The first one of several readings that has the least number. -/
def leastL (num : Rd → Int) (l : List Rd) : Rd × Int := (l.drop 1).foldl (leastS num) (l.headD default, num (l.headD default))
theorem idx_zero {x : AV} {xs : List AV} : idx (x :: xs) 0 = some x := rfl
theorem rdI_plain {x : Rd} {n : Int} : Plain (.tup [x.av, .int .i64 n]) := .tup (by simp; exact ⟨Rd.plain _, .int⟩)
theorem wk_rdv (r : Rd) (sl : Int) : wk (rdv r sl) (rdv r sl) := by
  unfold rdv; split
  · rfl
  · split <;> rfl
end Go.Proofs
