/- Texts of a proof: lemmas. -/
import Derived.Test.YtpodkdondibbfaaA19
import Derived.Test.YtpodkdondibbfaaMuGrow
import Derived.Test.YtpodkdondibbfaaMu3
import Derived.Test.YtpodkdondibbfaaA21
set_option linter.unusedSimpArgs false
set_option linter.unusedVariables false
set_option maxRecDepth 100000
namespace Go.Proofs
open Go Go.Mu Go.Shelf

def rtav (p : Tok × Nat × List Rd) : AV := .list p.1 p.2.1 (p.2.2.map Rd.av)
theorem rtav_cells (p : Tok × Nat × List Rd) : (rtav p).cells = [rtav p] := rfl
end Go.Proofs
set_option linter.unusedSimpArgs false
set_option linter.unusedVariables false
set_option maxRecDepth 100000
namespace Go.Proofs
open Go Go.Mu

def gC (gs : List Int) (a : Nat) : List Rd := gs.map fun s => ⟨1, a, 0, s, ⟨0, 0⟩⟩
def gB (gs : List Int) (a b : Nat) : List Rd := gs.map fun s => ⟨2, a, b, s, ⟨0, 0⟩⟩
def gH (a b : Nat) : Rd := ⟨3, a, b, 0, ⟨0, 0⟩⟩
def gBs (gs : List Int) (a k : Nat) : List Rd := (List.range k).flatMap fun j => gB gs a (a + 1 + j)
def gHs (a k : Nat) : List Rd := (List.range k).map fun j => gH a (a + 1 + j)
def gCC (gs : List Int) (i : Nat) : List Rd := (List.range i).flatMap (gC gs)
def gBB (gs : List Int) (m i : Nat) : List Rd := (List.range i).flatMap fun a => gBs gs a (m - 1 - a)
def gHH (m i : Nat) : List Rd := (List.range i).flatMap fun a => gHs a (m - 1 - a)
/-- All readings by gates, without what they show. -/
def byGatesL (m : Nat) (gs : List Int) : List Rd := gCC gs m ++ (gBB gs m m ++ gHH m m)
theorem flatMap_le {α : Type} (f : Nat → List α) (c : Nat) (h : ∀ a, (f a).length ≤ c) : ∀ i, ((List.range i).flatMap f).length ≤ i * c
  | 0 => by simp
  | i + 1 => by
    rw [List.range_succ, List.flatMap_append, List.length_append, Nat.add_mul]
    have := flatMap_le f c h i
    have := h i
    simp only [List.flatMap_cons, List.flatMap_nil, List.append_nil]; omega
theorem gBs_le {gs : List Int} (hg : gs.length ≤ 20) (a k : Nat) : (gBs gs a k).length ≤ k * 20 := flatMap_le _ 20 (fun b => by simp [gB]; exact hg) k
theorem byGates_le {m : Nat} {gs : List Int} (hm : m ≤ 3) (hg : gs.length ≤ 20) {i : Nat} (hi : i ≤ m) : (gCC gs i).length ≤ 60 ∧ (gBB gs m i).length ≤ 180 ∧ (gHH m i).length ≤ 9 := by
  refine ⟨?_, ?_, ?_⟩
  · have := flatMap_le (gC gs) 20 (fun a => by simp [gC]; exact hg) i
    unfold gCC; omega
  · have := flatMap_le (fun a => gBs gs a (m - 1 - a)) 60 (fun a => by have := gBs_le hg a (m - 1 - a); omega) i
    unfold gBB; omega
  · have := flatMap_le (fun a => gHs a (m - 1 - a)) 3 (fun a => by simp [gHs]; omega) i
    unfold gHH; omega
def byGates_s := spec2 tI tIs fun m gs => if 0 ≤ m ∧ m ≤ 3 ∧ gs.length ≤ 20 then some (.list .no 6 ((byGatesL m.toNat gs).map Rd.av)) else none
end Go.Proofs
set_option linter.unusedSimpArgs false
set_option linter.unusedVariables false
set_option maxRecDepth 100000
namespace Go.Proofs
open Go Go.Mu

def fs15 (f : FuncId) (xs : List AV) : Option AV :=  fs14 f xs
theorem fs15_ok : ∀ f xs v, fs15 f xs = some v → PureV Try.prog f xs v := by
  intro f xs v h
  unfold fs15 at h
  exact fs14_ok _ _ _ h
attribute [go_sem] fs15
theorem ckGates_ok {g : List Int} (h : ckGates g = 0) : g ≠ [] ∧ g.length ≤ 3 ∧ ∀ s ∈ g, 1 ≤ s ∧ s ≤ 20 := by
  unfold ckGates at h
  split at h
  · omega
  · rename_i h0
    split at h
    · omega
    · rename_i h1
      refine ⟨fun e => h0 (by rw [e]; rfl), by omega, fun s hs => ?_⟩
      obtain ⟨i, hi, rfl⟩ := List.mem_iff_getElem.1 hs
      have := firstE_all (f := ckG g) h i (by simpa using hi)
      simp only [ckG, tgE hi] at this
      grind
theorem byGatesL_ok {m : Nat} {gs : List Int} (hm : m ≤ 3) (hg : ∀ s ∈ gs, 1 ≤ s ∧ s ≤ 20) : ∀ r ∈ byGatesL m gs, okR r := by
  intro r hr
  simp only [byGatesL, gCC, gBB, gHH, gC, gBs, gHs, gB, gH, List.mem_append, List.mem_flatMap, List.mem_map, List.mem_range] at hr
  rcases hr with ⟨a, ha, s, hs, rfl⟩ | ⟨a, ha, b, hb, s, hs, rfl⟩ | ⟨a, ha, b, hb, rfl⟩
  · have := hg s hs
    simp only [okR]; omega
  · have := hg s hs
    simp only [okR]; omega
  · simp only [okR]; omega
theorem byGatesL_len {m : Nat} {gs : List Int} (hm : m ≤ 3) (hg : gs.length ≤ 20) : (byGatesL m gs).length ≤ 300 := by
  obtain ⟨b1, b2, b3⟩ := byGates_le hm hg (i := m) (by omega)
  simp only [byGatesL, List.length_append]; omega
theorem byGatesL_ne {m : Nat} {gs : List Int} (hm : 1 ≤ m) (hg : gs ≠ []) : byGatesL m gs ≠ [] := by
  obtain ⟨m, rfl⟩ : ∃ k, m = k + 1 := ⟨m - 1, by omega⟩
  obtain ⟨s, gs, rfl⟩ := List.exists_cons_of_ne_nil hg
  simp [byGatesL, gCC, gC, List.range_succ]
/-- The best reading, and what it leaves. -/
def bestOf (e : Ear) (gs : List Int) : Rd × Int := leastL (fun r => worstL r e.slack (truthsL e)) (byGatesL e.tones.length gs)
def bestL (e : Ear) (gs : List Int) : (Rd × Int) × Int := if (askL e (ckGates gs)).2 = 0 then (bestOf e gs, 0) else ((⟨0, 0, 0, 0, ⟨0, 0⟩⟩, 0), (askL e (ckGates gs)).2)
end Go.Proofs
set_option linter.unusedSimpArgs false
set_option linter.unusedVariables false
set_option maxRecDepth 100000
namespace Go.Proofs
open Go Go.Mu

/-- What is wrong with what is asked of Needs. -/
def needW (m x : Int) (w : Rng) (gs : List Int) : Int := if ckWant m x w = 0 then ckGates gs else ckWant m x w
def needsL (e : Ear) (x : Int) (w : Rng) (gs : List Int) : Int × Int :=
  if (askL e (needW e.tones.length x w gs)).2 = 0 then
    (if qin x w (truthsL e) = true then (0, 0) else if oneL x w (byGatesL e.tones.length gs) e.slack (truthsL e) = true then (1, 0) else if twoL x w (byGatesL e.tones.length gs) e.slack (truthsL e) = true then (2, 0) else (0, 11))
  else (0, (askL e (needW e.tones.length x w gs)).2)
theorem ckWant_ok {m : Nat} {x : Int} {w : Rng} (h : ckWant m x w = 0) : 0 ≤ x ∧ x ≤ m - 1 := by
  unfold ckWant at h; split at h <;> omega
attribute [go_sem] Int.toNat_natCast
def needs_s := spec4 tEar tI tRng tIs fun e x w gs => if e.tones.length ≤ 4294967296 ∧ e.rds.length ≤ 4294967296 ∧ gs.length ≤ 4294967296 then some (.tup [.int .i64 (needsL e x w gs).1, .int .i64 (needsL e x w gs).2]) else none
def best_s := spec2 tEar tIs fun e gs => if e.tones.length ≤ 4294967296 ∧ e.rds.length ≤ 4294967296 ∧ gs.length ≤ 4294967296 then some (.tup [(bestL e gs).1.1.av, .int .i64 (bestL e gs).1.2, .int .i64 (bestL e gs).2]) else none
def fs16 (f : FuncId) (xs : List AV) : Option AV :=  fs15 f xs
theorem fs16_ok : ∀ f xs v, fs16 f xs = some v → PureV Try.prog f xs v := by
  intro f xs v h
  unfold fs16 at h
  exact fs15_ok _ _ _ h
attribute [go_sem] fs16
end Go.Proofs
set_option linter.unusedSimpArgs false
set_option linter.unusedVariables false
set_option maxRecDepth 100000
namespace Go.Proofs
open Go Go.Mu

attribute [go_sem] tRngs_dec
theorem ACalls.wkpost {P : Program} {f : FuncId} {args : List AV} {σ : List AObj} {Q : AV → List AObj → Prop} (h : ACalls P f args σ fun v σ' => ∃ v', wk v v' ∧ Q v' σ') : ACalls P f args σ Q :=
  ⟨h.1, fun K w cargs hR hA => (h.2 K w cargs hR hA).mono fun e w' ⟨v, c, σ', K', h1, ⟨v', hw, hq⟩, hv, h3⟩ => ⟨v', c, σ', K', h1, hq, wk_weak hw K' _ _ hv, h3⟩⟩
end Go.Proofs
set_option linter.unusedSimpArgs false
set_option linter.unusedVariables false
set_option maxRecDepth 100000
namespace Go.Proofs
open Go Go.Mu

/-- What is known of an ear that is made of numbers, and of the tones that are true. -/
structure EarP (m n w : Int) (e : Ear) (T : List Int) : Prop where
  ck : ck e = 0
  len : e.tones.length = T.length
  lo : 1 ≤ T.length
  hi : (T.length : Int) ≤ m
  rn : (e.rds.length : Int) ≤ n
  sl : 0 ≤ e.slack ∧ e.slack ≤ 1
  rng : ∀ i (h : i < T.length) (h' : i < e.tones.length), 1 ≤ e.tones[i].lo ∧ e.tones[i].lo ≤ T[i] ∧ T[i] ≤ e.tones[i].hi ∧ T[i] - w ≤ e.tones[i].lo ∧ e.tones[i].hi ≤ T[i] + w
  bd : ∀ x ∈ T, 50 ≤ x ∧ x ≤ 50030
  rd : ∀ r ∈ e.rds, isR r e.slack T = true
end Go.Proofs
