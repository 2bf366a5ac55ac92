/- Texts of a proof: lemmas. -/
import Derived.Test.YthejgnlikaiddaaDoorPW1
set_option linter.unusedSimpArgs false
set_option linter.unusedVariables false
set_option maxRecDepth 100000
namespace Go.Proofs
open Go Go.Mu

theorem compact_upto {l : List Int} (hs : l.Pairwise (· ≤ ·)) : ∀ m, m ≤ l.length → (Lib.compactUpTo l.toArray m).Pairwise (· < ·) ∧ ∀ x, x ∈ Lib.compactUpTo l.toArray m ↔ x ∈ l.take m
  | 0, _ => by simp [Lib.compactUpTo]
  | m + 1, hm => by
    obtain ⟨h1, h2⟩ := compact_upto hs m (by omega)
    rw [Lib.compactUpTo_succ]
    have hg : ∀ j (h : j < l.length), l.toArray[j]! = l[j] := fun j h => by rw [getElem!_pos l.toArray j (by simpa using h)]; simp
    rw [hg m (by omega)]
    have htk : l.take (m + 1) = l.take m ++ [l[m]] := List.take_succ_eq_append_getElem (by omega)
    cases hk : Lib.keeps l.toArray m
    · rw [if_neg (by simp), List.append_nil]
      refine ⟨h1, fun x => ?_⟩
      rw [h2 x, htk, List.mem_append, List.mem_singleton]
      constructor
      · exact .inl
      · rintro (h | rfl)
        · exact h
        · unfold Lib.keeps at hk
          have hk := of_decide_eq_false hk
          have hm0 : m ≠ 0 := fun e => hk (.inl e)
          have he : l.toArray[m]! = l.toArray[m - 1]! := Classical.byContradiction fun e => hk (.inr e)
          rw [hg m (by omega), hg (m - 1) (by omega)] at he
          rw [he, List.mem_take_iff_getElem]
          exact ⟨m - 1, by omega, rfl⟩
    · rw [if_pos rfl]
      refine ⟨List.pairwise_append.2 ⟨h1, by simp, fun a ha b hb => ?_⟩, fun x => by rw [List.mem_append, h2 x, htk, List.mem_append]⟩
      rw [List.mem_singleton] at hb; subst hb
      obtain ⟨j, hj, rfl⟩ := List.mem_take_iff_getElem.1 ((h2 a).1 ha)
      have hj2 : j < m := by omega
      unfold Lib.keeps at hk
      have hk := of_decide_eq_true hk
      have hne : l.toArray[m]! ≠ l.toArray[m - 1]! := by rcases hk with e | e; omega; exact e
      rw [hg m (by omega), hg (m - 1) (by omega)] at hne
      have hp := List.pairwise_iff_getElem.1 hs
      have e1 : l[j] ≤ l[m - 1] := by
        by_cases e : j = m - 1
        · subst e; exact Int.le_refl _
        · exact hp j (m - 1) (by omega) (by omega) (by omega)
      have e2 : l[m - 1] ≤ l[m] := hp (m - 1) m (by omega) (by omega) (by omega)
      omega
theorem sortL_le (l : List Int) : (sortL l).Pairwise (· ≤ ·) := by
  unfold sortL
  refine (List.pairwise_mergeSort (le := fun x y : Int => decide (x ≤ y)) (fun a b c h1 h2 => by simp at *; omega) (fun a b => by simp; omega) _).imp fun h => by simpa using h
theorem valuesZ_lt {α : Type} {num : α → Int} {l : List α} : (valuesZ num l).Pairwise (· < ·) := (compact_upto (sortL_le _) _ (Nat.le_refl _)).1
theorem valuesZ_mem {α : Type} {num : α → Int} {l : List α} {x : Int} : x ∈ valuesZ num l ↔ ∃ m ∈ l, num m = x := by
  unfold valuesZ compactZ
  rw [(compact_upto (sortL_le _) _ (Nat.le_refl _)).2 x, List.take_length]
  unfold sortL
  rw [List.mem_mergeSort, List.mem_map]
theorem valuesZ_ne {α : Type} {num : α → Int} {l : List α} (h : l ≠ []) : valuesZ num l ≠ [] := by
  obtain ⟨t, ht⟩ := List.exists_mem_of_ne_nil _ h
  exact List.ne_nil_of_mem (valuesZ_mem.2 ⟨t, ht, rfl⟩)
theorem sorted_ext {a b : List Int} (ha : a.Pairwise (· < ·)) (hb : b.Pairwise (· < ·)) (h : ∀ x, x ∈ a ↔ x ∈ b) : a = b := by
  induction a generalizing b with
  | nil =>
    cases b with
    | nil => rfl
    | cons y b => exact absurd ((h y).2 (by simp)) (by simp)
  | cons x a ih =>
    cases b with
    | nil => exact absurd ((h x).1 (by simp)) (by simp)
    | cons y b =>
      rw [List.pairwise_cons] at ha hb
      have hxy : x = y := by
        have h1 := (h x).1 (by simp)
        have h2 := (h y).2 (by simp)
        rcases List.mem_cons.1 h1 with e | h1
        · exact e
        · rcases List.mem_cons.1 h2 with e | h2
          · exact e.symm
          · have := hb.1 x h1; have := ha.1 y h2; omega
      subst hxy
      rw [ih ha.2 hb.2 fun z => ?_]
      constructor
      · intro hz
        have := (h z).1 (by simp [hz])
        rcases List.mem_cons.1 this with e | e
        · subst e; have := ha.1 z hz; omega
        · exact e
      · intro hz
        have := (h z).2 (by simp [hz])
        rcases List.mem_cons.1 this with e | e
        · subst e; have := hb.1 z hz; omega
        · exact e
theorem valuesZ_len {α : Type} {num : α → Int} {l : List α} : (valuesZ num l).length ≤ l.length := by
  unfold valuesZ compactZ Lib.compactUpTo
  rw [List.length_map]
  refine Nat.le_trans (List.length_filter_le _ _) ?_
  rw [List.length_range, sortL_len, List.length_map]; exact Nat.le_refl _
end Go.Proofs
