/- Texts of a proof: lemmas. -/
import Derived.Test.YthejgnlikaiddaaDoorPZD
set_option linter.unusedSimpArgs false
set_option linter.unusedVariables false
set_option maxRecDepth 100000
namespace Go.Proofs
open Go Go.Mu

theorem fIdx_succ {α : Type} {k : Int} : ∀ {m : List (Int × α)} {i : Nat}, fIdx k m (i + 1) = (fIdx k m i).map fun q => (q.1 + 1, q.2)
  | [], i => rfl
  | (k', v) :: m, i => by
    simp only [fIdx]
    by_cases h : k = k'
    · simp [h]
    · simp only [if_neg h]; exact fIdx_succ
theorem mset_cons {α : Type} {k k' : Int} {v v' : α} {m : List (Int × α)} : mset ((k', v') :: m) k v = if k = k' then (k, v) :: m else (k', v') :: mset m k v := by
  unfold mset
  simp only [fIdx]
  by_cases h : k = k'
  · simp [h]
  · rw [if_neg h, if_neg h, fIdx_succ]
    cases fIdx k m 0 with
    | none => simp
    | some q => simp
theorem mget_cons {α : Type} {k k' : Int} {v' : α} {m : List (Int × α)} : mget ((k', v') :: m) k = if k = k' then some v' else mget m k := by
  unfold mget
  simp only [fIdx]
  by_cases h : k = k'
  · simp [h]
  · rw [if_neg h, if_neg h, fIdx_succ]
    cases fIdx k m 0 with
    | none => rfl
    | some q => rfl
theorem mset_nil {α : Type} {k : Int} {v : α} : mset [] k v = [(k, v)] := rfl
theorem mget_none {α : Type} : ∀ {m : List (Int × α)} {k : Int}, mget m k = none ↔ k ∉ m.map (·.1)
  | [], k => by simp [mget, fIdx]
  | (k', v) :: m, k => by
    rw [mget_cons]
    by_cases h : k = k'
    · simp [h]
    · rw [if_neg h, mget_none]; simp [h]
theorem mset_keys {α : Type} : ∀ {m : List (Int × α)} {k x : Int} {v : α}, x ∈ (mset m k v).map (·.1) ↔ x = k ∨ x ∈ m.map (·.1)
  | [], k, x, v => by simp [mset_nil]
  | (k', v') :: m, k, x, v => by
    rw [mset_cons]
    by_cases h : k = k'
    · subst h; simp
    · rw [if_neg h, List.map_cons, List.mem_cons, mset_keys, List.map_cons, List.mem_cons]
      constructor
      · rintro (h | h | h)
        · exact .inr (.inl h)
        · exact .inl h
        · exact .inr (.inr h)
      · rintro (h | h | h)
        · exact .inr (.inl h)
        · exact .inl h
        · exact .inr (.inr h)
theorem mset_nodup {α : Type} : ∀ {m : List (Int × α)} {k : Int} {v : α}, (m.map (·.1)).Nodup → ((mset m k v).map (·.1)).Nodup
  | [], k, v, _ => by simp [mset_nil]
  | (k', v') :: m, k, v, h => by
    rw [List.map_cons, List.nodup_cons] at h
    rw [mset_cons]
    by_cases e : k = k'
    · subst e; rw [if_pos rfl, List.map_cons, List.nodup_cons]; exact h
    · rw [if_neg e, List.map_cons, List.nodup_cons]
      refine ⟨fun hm => ?_, mset_nodup h.2⟩
      rcases mset_keys.1 hm with hm | hm
      · exact e hm.symm
      · exact h.1 hm
theorem mset_other {α : Type} : ∀ {m : List (Int × α)} {k : Int} {v : α} {p : Int × α}, (m.map (·.1)).Nodup → p ∈ mset m k v → p = (k, v) ∨ p ∈ m ∧ p.1 ≠ k
  | [], k, v, p, _, hp => by simp [mset_nil] at hp; exact .inl hp
  | (k', v') :: m, k, v, p, h, hp => by
    rw [List.map_cons, List.nodup_cons] at h
    rw [mset_cons] at hp
    by_cases e : k = k'
    · subst e
      rw [if_pos rfl] at hp
      rcases List.mem_cons.1 hp with hp | hp
      · exact .inl hp
      · exact .inr ⟨List.mem_cons_of_mem _ hp, fun e => h.1 (by rw [← e]; exact List.mem_map.2 ⟨p, hp, rfl⟩)⟩
    · rw [if_neg e] at hp
      rcases List.mem_cons.1 hp with hp | hp
      · subst hp; exact .inr ⟨by simp, fun h => e h.symm⟩
      · rcases mset_other h.2 hp with h1 | ⟨h1, h2⟩
        · exact .inl h1
        · exact .inr ⟨List.mem_cons_of_mem _ h1, h2⟩
theorem popN_or {b i : Nat} (h : b < 2 ^ i) : popN (b ||| 2 ^ i) = popN b + 1 := by
  have e : b ||| 2 ^ i = b + 2 ^ i := by
    have := Nat.two_pow_add_eq_or_of_lt h 1
    rw [Nat.mul_one] at this
    rw [Nat.or_comm, ← this, Nat.add_comm]
  rw [e]; exact popN_add i b h
/-- The map of what is left, told by what it counts. -/
structure LkI (L : List Made) (f : Nat) (m : List (Int × Nat)) : Prop where
  nd : (m.map (·.1)).Nodup
  pop : ∀ p ∈ m, popN p.2 = leftN L f p.1 ∧ p.2 < 2 ^ L.length
  key : ∀ v, v ∈ m.map (·.1) ↔ ∃ x ∈ L, tg x.look (f : Int) = v
theorem leftN_app {L : List Made} {x : Made} {f : Nat} {v : Int} : leftN (L ++ [x]) f v = leftN L f v + if tg x.look (f : Int) = v then 1 else 0 := by
  unfold leftN
  rw [List.filter_append, List.length_append]
  by_cases h : tg x.look (f : Int) = v <;> simp [h]
theorem leftN_zero {L : List Made} {f : Nat} {v : Int} (h : ¬ ∃ x ∈ L, tg x.look (f : Int) = v) : leftN L f v = 0 := by
  unfold leftN
  rw [List.length_eq_zero_iff, List.filter_eq_nil_iff]
  intro x hx e; exact h ⟨x, hx, by simpa using e⟩
theorem LkI.app {L : List Made} {f : Nat} {m : List (Int × Nat)} (h : LkI L f m) (x : Made) : LkI (L ++ [x]) f (mset m (tg x.look (f : Int)) ((mget m (tg x.look (f : Int))).getD 0 ||| 2 ^ L.length)) := by
  have hb : popN ((mget m (tg x.look (f : Int))).getD 0) = leftN L f (tg x.look (f : Int)) ∧ (mget m (tg x.look (f : Int))).getD 0 < 2 ^ L.length := by
    cases hg : mget m (tg x.look (f : Int)) with
    | none =>
      have hn := mget_none.1 hg
      rw [h.key] at hn
      rw [leftN_zero hn]
      exact ⟨popN_zero, Nat.two_pow_pos _⟩
    | some b => exact h.pop _ (mget_mem hg)
  have hlt : (2 : Nat) ^ L.length < 2 ^ (L.length + 1) := by rw [Nat.pow_succ]; have := Nat.one_le_two_pow (n := L.length); omega
  refine ⟨mset_nodup h.nd, fun p hp => ?_, fun v => ?_⟩
  · rw [leftN_app, List.length_append, List.length_singleton]
    rcases mset_other h.nd hp with rfl | ⟨h1, h2⟩
    · refine ⟨?_, Nat.or_lt_two_pow (by omega) hlt⟩
      rw [popN_or hb.2, hb.1, if_pos rfl]
    · have := h.pop p h1
      rw [if_neg (fun e => h2 e.symm)]
      exact ⟨this.1, by omega⟩
  · rw [mset_keys, h.key]
    constructor
    · rintro (rfl | ⟨y, hy, e⟩)
      · exact ⟨x, by simp, rfl⟩
      · exact ⟨y, by simp [hy], e⟩
    · rintro ⟨y, hy, e⟩
      rcases List.mem_append.1 hy with hy | hy
      · exact .inr ⟨y, hy, e⟩
      · simp at hy; subst hy; exact .inl e.symm
theorem looks_inv {L : List Made} {f : Nat} (hl : L.length ≤ 16) : ∀ i, i ≤ L.length → LkI (L.take i) f ((L.zipIdx.take i).foldl (lookS (2 ^ L.length - 1) (f : Int)) [])
  | 0, _ => ⟨by simp, by simp, by simp⟩
  | i + 1, hi => by
    have hz : i < L.zipIdx.length := by rw [List.length_zipIdx]; omega
    have hzi : L.zipIdx[i] = (L[i], i) := by simp
    have ih := looks_inv (f := f) hl i (by omega)
    rw [foldl_take _ _ _ _ hz, hzi]
    have ht : (2 ^ L.length - 1).testBit i = true := by rw [Nat.testBit_two_pow_sub_one]; simp; omega
    have hS : ∀ m, lookS (2 ^ L.length - 1) (f : Int) m (L[i], i) = mset m (tg L[i].look (f : Int)) ((mget m (tg L[i].look (f : Int))).getD 0 ||| 2 ^ i) := fun m => by
      show (if (2 ^ L.length - 1).testBit i then _ else _) = _
      rw [ht, if_pos rfl]
    rw [hS, List.take_succ_eq_append_getElem (by omega)]
    have := ih.app L[i]
    rwa [List.length_take, Nat.min_eq_left (by omega)] at this
theorem looks_spec {L : List Made} {f : Nat} (hl : L.length ≤ 16) : LkI L f (looksM (2 ^ L.length - 1) L (f : Int)) := by
  have := looks_inv (f := f) hl L.length (Nat.le_refl _)
  rwa [List.take_length, List.take_of_length_le (by rw [List.length_zipIdx]; omega)] at this
/-- The greatest number of truths that a look leaves. -/
def worstN (L : List Made) (f : Nat) : Nat := max (max (leftN L f 1) (leftN L f 2)) (leftN L f 3)
theorem nextN_worst {L : List Made} {f : Nat} (hl : L.length ≤ 16) (hv : ∀ x ∈ L, 1 ≤ tg x.look (f : Int) ∧ tg x.look (f : Int) ≤ 3) : nextN L (f : Int) = worstN L f := by
  have hI := looks_spec (f := f) hl
  unfold nextN maxPop
  generalize looksM (2 ^ L.length - 1) L (f : Int) = m at hI ⊢
  apply Nat.le_antisymm
  · rcases foldl_max_mem (l := m.map fun p => popN p.2) (b := 0) with h | h
    · rw [h]; omega
    · obtain ⟨p, hp, he⟩ := List.mem_map.1 h
      rw [← he, (hI.pop p hp).1]
      obtain ⟨x, hx, e⟩ := (hI.key p.1).1 (List.mem_map.2 ⟨p, hp, rfl⟩)
      have := hv x hx
      rw [e] at this
      unfold worstN
      rcases (by omega : p.1 = 1 ∨ p.1 = 2 ∨ p.1 = 3) with h | h | h <;> rw [h] <;> omega
  · have key : ∀ v, leftN L f v ≤ (m.map fun p => popN p.2).foldl max 0 := fun v => by
      by_cases h : ∃ x ∈ L, tg x.look (f : Int) = v
      · obtain ⟨p, hp, e⟩ := List.mem_map.1 ((hI.key v).2 h)
        rw [← e, ← (hI.pop p hp).1]
        exact foldl_max_le (.inl (List.mem_map.2 ⟨p, hp, rfl⟩))
      · rw [leftN_zero h]; omega
    unfold worstN
    have h1 := key 1
    have h2 := key 2
    have h3 := key 3
    omega
end Go.Proofs
