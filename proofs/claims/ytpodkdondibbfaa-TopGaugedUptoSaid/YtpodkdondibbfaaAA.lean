/- Texts of a proof: lemmas. -/
import Derived.Test.YtpodkdondibbfaaA13
set_option linter.unusedSimpArgs false
set_option linter.unusedVariables false
set_option maxRecDepth 100000
namespace Go.Proofs
open Go Go.Mu

def gate_s := spec3 tEar tI tI fun e a b => if e.tones.length ≤ 4294967296 ∧ e.rds.length ≤ 4294967296 then some (.tup [.int .i64 (gateL e a b).1, .int .i64 (gateL e a b).2]) else none
theorem gate_ok : ∀ xs v, gate_s xs = some v → PureV Try.prog 20 xs v :=
  spec3_ok fun e a b v h => by have h := someIf h; rw [← h.2]; exact gate_p e a b h.1.1 h.1.2
def fs10 (f : FuncId) (xs : List AV) : Option AV := if f = 20 then gate_s xs else fs9 f xs
theorem fs10_ok : ∀ f xs v, fs10 f xs = some v → PureV Try.prog f xs v := by
  intro f xs v h
  unfold fs10 at h
  split at h
  · rename_i e; subst e; exact gate_ok _ _ h
  exact fs9_ok _ _ _ h
attribute [go_sem] fs10 gate_s
/-- A question: a tongue, a range, readings. -/
def qav (x : Int) (w : Rng) (rs : AV) : AV := .agg [.int .i64 x, .int .i64 w.lo, .int .i64 w.hi, rs]
def qis (x : Int) (w : Rng) (t : List Int) : Bool := decide (w.lo ≤ tg t x ∧ tg t x ≤ w.hi)
def qin (x : Int) (w : Rng) (l : List (List Int)) : Bool := decide (verd (l.filter (qis x w)).length l.length ≠ 3)
def stepD (b : Bool) (m : Option (List (Int × Bool))) (k : Int) : Option (List (Int × Bool)) := match m with
  | none => none
  | some m => if mget m k = some (!b) then none else some (mset m k b)
def decS (x : Int) (w : Rng) (r : Rd) (sl : Int) (m : Option (List (Int × Bool))) (t : List Int) : Option (List (Int × Bool)) := (showsL r sl t).foldl (stepD (qis x w t)) m
/-- Whether a reading decides, whatever it shows. -/
def decidesL (x : Int) (w : Rng) (r : Rd) (sl : Int) (l : List (List Int)) : Bool := (l.foldl (decS x w r sl) (some [])).isSome
theorem foldl_none {α β : Type} {f : Option β → α → Option β} (hf : ∀ a, f none a = none) : ∀ (l : List α), l.foldl f none = none
  | [] => rfl
  | a :: l => by rw [List.foldl_cons, hf]; exact foldl_none hf l
theorem foldl_part {α β : Type} {f : Option β → α → Option β} (hf : ∀ a, f none a = none) {l : List α} {i : Nat} {s : Option β} (h : (l.take i).foldl f s = none) : l.foldl f s = none := by
  rw [← List.take_append_drop i l, List.foldl_append, h]; exact foldl_none hf _
theorem decS_none {x : Int} {w : Rng} {r : Rd} {sl : Int} (t : List Int) : decS x w r sl none t = none := foldl_none (fun _ => rfl) _
end Go.Proofs
set_option linter.unusedSimpArgs false
set_option linter.unusedVariables false
set_option maxRecDepth 100000
namespace Go.Proofs
open Go Go.Mu

theorem rdv_cells (r : Rd) (sl : Int) : (rdv r sl).cells = [rdv r sl] := by unfold rdv; split; rfl; split <;> rfl
theorem ClV.app0 {P : Program} {g : FuncId} {p q : List AV} {σ : List AObj} {x : AV} {v : AV} (h : ClV P g p q σ [x] v) {Q : AV → List AObj → Prop} (hq : Q v σ) : ACalls P g (p ++ x :: q) σ Q := by
  have := h σ (Nat.le_refl _) (fun _ _ => rfl) Q hq
  simpa using this
/-- Whether it is known, or some reading decides it. -/
def oneL (x : Int) (w : Rng) (rl : List Rd) (sl : Int) (l : List (List Int)) : Bool := qin x w l || rl.any fun r => decidesL x w r sl l
end Go.Proofs
set_option linter.unusedSimpArgs false
set_option linter.unusedVariables false
set_option maxRecDepth 100000
namespace Go.Proofs
open Go Go.Mu

/-- Whether some reading leaves only truths by which it is known, or some reading decides it. -/
def twoL (x : Int) (w : Rng) (rl : List Rd) (sl : Int) (l : List (List Int)) : Bool := rl.any fun r => (outcomesL r sl l).all fun p => oneL x w rl sl p.2
end Go.Proofs
set_option linter.unusedSimpArgs false
set_option linter.unusedVariables false
set_option maxRecDepth 100000
namespace Go.Proofs
open Go Go.Mu

def to_s := spec2 tI tI fun a b => some (Rng.mk a b).av
def fs11 (f : FuncId) (xs : List AV) : Option AV :=  fs10 f xs
theorem fs11_ok : ∀ f xs v, fs11 f xs = some v → PureV Try.prog f xs v := by
  intro f xs v h
  unfold fs11 at h
  exact fs10_ok _ _ _ h
attribute [go_sem] fs11
def countR (a s n : Int) : Rd := ⟨1, a, 0, s, ⟨n, n⟩⟩
def beatR (a b s n : Int) : Rd := ⟨2, a, b, s, ⟨n, n⟩⟩
def higherR (a b : Int) : Rd := ⟨3, a, b, 0, ⟨0, 0⟩⟩
def lcount_s := spec3 tI tI tI fun a s n => some (countR a s n).av
def lbeat_s := spec4 tI tI tI tI fun a b s n => some (beatR a b s n).av
def lhigher_s := spec2 tI tI fun a b => some (higherR a b).av
def fs12 (f : FuncId) (xs : List AV) : Option AV :=  fs11 f xs
theorem fs12_ok : ∀ f xs v, fs12 f xs = some v → PureV Try.prog f xs v := by
  intro f xs v h
  unfold fs12 at h
  exact fs11_ok _ _ _ h
attribute [go_sem] fs12
def earE : Ear := ⟨0, [⟨44000, 44010⟩, ⟨44005, 44015⟩], [countR 0 10 4400, beatR 0 1 20 2]⟩
def plainE : Ear := ⟨0, [⟨44000, 44010⟩, ⟨44005, 44015⟩], []⟩
def threeE : Ear := ⟨0, [⟨44000, 44002⟩, ⟨44000, 44000⟩, ⟨44001, 44001⟩], []⟩
theorem Ear.plain (e : Ear) : Plain e.av := .agg (by simp; exact ⟨.int, .map fun x _ => Rng.plain x, .map fun x _ => Rd.plain x⟩)
def ear_s : List AV → Option AV
  | [] => some earE.av
  | _ => none
def fs13 (f : FuncId) (xs : List AV) : Option AV :=  fs12 f xs
theorem fs13_ok : ∀ f xs v, fs13 f xs = some v → PureV Try.prog f xs v := by
  intro f xs v h
  unfold fs13 at h
  exact fs12_ok _ _ _ h
attribute [go_sem] fs13
end Go.Proofs
