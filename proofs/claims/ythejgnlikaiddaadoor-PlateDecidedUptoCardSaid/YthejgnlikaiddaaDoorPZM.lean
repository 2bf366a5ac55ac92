/- Texts of a proof: lemmas. -/
import Derived.Test.YthejgnlikaiddaaDoorPL
set_option linter.unusedSimpArgs false
set_option linter.unusedVariables false
set_option maxRecDepth 100000
namespace Go.Proofs
open Go Go.Mu

theorem fIdx_succ {α : Type} {k : Int} : ∀ {m : List (Int × α)} {i : Nat}, fIdx k m (i + 1) = (fIdx k m i).map fun q => (q.1 + 1, q.2)
  | [], i => rfl
  | (k', v) :: m, i => by
    simp only [fIdx]
    by_cases h : k = k'
    · simp [h]
    · simp only [if_neg h]; exact fIdx_succ
theorem mset_cons {α : Type} {k k' : Int} {v v' : α} {m : List (Int × α)} : mset ((k', v') :: m) k v = if k = k' then (k, v) :: m else (k', v') :: mset m k v := by
  unfold mset
  simp only [fIdx]
  by_cases h : k = k'
  · simp [h]
  · rw [if_neg h, if_neg h, fIdx_succ]
    cases fIdx k m 0 with
    | none => simp
    | some q => simp
theorem mget_cons {α : Type} {k k' : Int} {v' : α} {m : List (Int × α)} : mget ((k', v') :: m) k = if k = k' then some v' else mget m k := by
  unfold mget
  simp only [fIdx]
  by_cases h : k = k'
  · simp [h]
  · rw [if_neg h, if_neg h, fIdx_succ]
    cases fIdx k m 0 with
    | none => rfl
    | some q => rfl
theorem mset_nil {α : Type} {k : Int} {v : α} : mset [] k v = [(k, v)] := rfl
theorem mget_none {α : Type} : ∀ {m : List (Int × α)} {k : Int}, mget m k = none ↔ k ∉ m.map (·.1)
  | [], k => by simp [mget, fIdx]
  | (k', v) :: m, k => by
    rw [mget_cons]
    by_cases h : k = k'
    · simp [h]
    · rw [if_neg h, mget_none]; simp [h]
theorem mset_keys {α : Type} : ∀ {m : List (Int × α)} {k x : Int} {v : α}, x ∈ (mset m k v).map (·.1) ↔ x = k ∨ x ∈ m.map (·.1)
  | [], k, x, v => by simp [mset_nil]
  | (k', v') :: m, k, x, v => by
    rw [mset_cons]
    by_cases h : k = k'
    · subst h; simp
    · rw [if_neg h, List.map_cons, List.mem_cons, mset_keys, List.map_cons, List.mem_cons]
      constructor
      · rintro (h | h | h)
        · exact .inr (.inl h)
        · exact .inl h
        · exact .inr (.inr h)
      · rintro (h | h | h)
        · exact .inr (.inl h)
        · exact .inl h
        · exact .inr (.inr h)
theorem mset_nodup {α : Type} : ∀ {m : List (Int × α)} {k : Int} {v : α}, (m.map (·.1)).Nodup → ((mset m k v).map (·.1)).Nodup
  | [], k, v, _ => by simp [mset_nil]
  | (k', v') :: m, k, v, h => by
    rw [List.map_cons, List.nodup_cons] at h
    rw [mset_cons]
    by_cases e : k = k'
    · subst e; rw [if_pos rfl, List.map_cons, List.nodup_cons]; exact h
    · rw [if_neg e, List.map_cons, List.nodup_cons]
      refine ⟨fun hm => ?_, mset_nodup h.2⟩
      rcases mset_keys.1 hm with hm | hm
      · exact e hm.symm
      · exact h.1 hm
theorem mset_other {α : Type} : ∀ {m : List (Int × α)} {k : Int} {v : α} {p : Int × α}, (m.map (·.1)).Nodup → p ∈ mset m k v → p = (k, v) ∨ p ∈ m ∧ p.1 ≠ k
  | [], k, v, p, _, hp => by simp [mset_nil] at hp; exact .inl hp
  | (k', v') :: m, k, v, p, h, hp => by
    rw [List.map_cons, List.nodup_cons] at h
    rw [mset_cons] at hp
    by_cases e : k = k'
    · subst e
      rw [if_pos rfl] at hp
      rcases List.mem_cons.1 hp with hp | hp
      · exact .inl hp
      · exact .inr ⟨List.mem_cons_of_mem _ hp, fun e => h.1 (by rw [← e]; exact List.mem_map.2 ⟨p, hp, rfl⟩)⟩
    · rw [if_neg e] at hp
      rcases List.mem_cons.1 hp with hp | hp
      · subst hp; exact .inr ⟨by simp, fun h => e h.symm⟩
      · rcases mset_other h.2 hp with h1 | ⟨h1, h2⟩
        · exact .inl h1
        · exact .inr ⟨List.mem_cons_of_mem _ h1, h2⟩
theorem popN_or {b i : Nat} (h : b < 2 ^ i) : popN (b ||| 2 ^ i) = popN b + 1 := by
  have e : b ||| 2 ^ i = b + 2 ^ i := by
    have := Nat.two_pow_add_eq_or_of_lt h 1
    rw [Nat.mul_one] at this
    rw [Nat.or_comm, ← this, Nat.add_comm]
  rw [e]; exact popN_add i b h
end Go.Proofs
