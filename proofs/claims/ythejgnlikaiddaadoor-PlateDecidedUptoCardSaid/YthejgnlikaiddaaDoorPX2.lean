/- Texts of a proof: lemmas. -/
import Derived.Test.YthejgnlikaiddaaDoorPX1
set_option linter.unusedSimpArgs false
set_option linter.unusedVariables false
set_option maxRecDepth 100000
namespace Go.Proofs
open Go Go.Mu

/-- Equal neighbours once. -/
def dedS (out : List Int) (x : Int) : List Int := if out.getLast? = some x then out else out ++ [x]
def dedL (xs : List Int) : List Int := xs.foldl dedS []
theorem dedL_app {xs : List Int} {x : Int} : dedL (xs ++ [x]) = dedS (dedL xs) x := by unfold dedL; rw [List.foldl_append]; rfl
theorem last_max : ∀ {l : List Int} {z : Int}, l.Pairwise (· < ·) → l.getLast? = some z → ∀ x ∈ l, x ≤ z
  | [], z, _, h, x, hx => by simp at hx
  | [a], z, _, h, x, hx => by simp at h hx; omega
  | a :: b :: l, z, hp, h, x, hx => by
    rw [List.pairwise_cons] at hp
    have h' : (b :: l).getLast? = some z := by simpa [List.getLast?_cons_cons] using h
    have ih := last_max hp.2 h'
    rcases List.mem_cons.1 hx with rfl | hx
    · have := hp.1 b (by simp); have := ih b (by simp); omega
    · exact ih x hx
theorem dedL_spec' : ∀ (n : Nat) {xs : List Int}, xs.length = n → xs.Pairwise (· ≤ ·) → (dedL xs).Pairwise (· < ·) ∧ ∀ y, y ∈ dedL xs ↔ y ∈ xs
  | 0, xs, e, _ => by rw [List.length_eq_zero_iff.1 e]; simp [dedL]
  | n + 1, xs, e, h => by
    obtain ⟨ys, x, rfl⟩ : ∃ ys x, xs = ys ++ [x] := ⟨xs.dropLast, xs.getLast (fun h => by rw [h] at e; cases e), (List.dropLast_concat_getLast _).symm⟩
    obtain ⟨h1, _, h2⟩ := List.pairwise_append.1 h
    obtain ⟨i1, i2⟩ := dedL_spec' n (xs := ys) (by simpa using e) h1
    rw [dedL_app]
    unfold dedS
    by_cases hl : (dedL ys).getLast? = some x
    · rw [if_pos hl]
      refine ⟨i1, fun y => ?_⟩
      rw [i2 y, List.mem_append, List.mem_singleton]
      constructor
      · exact .inl
      · rintro (h | rfl)
        · exact h
        · exact (i2 y).1 (List.mem_of_getLast? hl)
    · rw [if_neg hl]
      refine ⟨List.pairwise_append.2 ⟨i1, by simp, fun a ha b hb => ?_⟩, fun y => by rw [List.mem_append, i2 y, List.mem_append]⟩
      rw [List.mem_singleton] at hb; subst hb
      obtain ⟨z, hz⟩ : ∃ z, (dedL ys).getLast? = some z := by
        cases e : dedL ys with
        | nil => rw [e] at ha; simp at ha
        | cons c l => exact ⟨_, List.getLast?_eq_some_getLast (by simp)⟩
      have e1 := last_max i1 hz a ha
      have e2 := h2 z ((i2 z).1 (List.mem_of_getLast? hz)) b (by simp)
      have e3 : z ≠ b := fun e => hl (by rw [hz, e])
      omega
theorem dedL_spec {xs : List Int} (h : xs.Pairwise (· ≤ ·)) : (dedL xs).Pairwise (· < ·) ∧ ∀ y, y ∈ dedL xs ↔ y ∈ xs := dedL_spec' _ rfl h
theorem all_asc (c : Cat) : (allMade c).Pairwise fun a b => a.model < b.model ∨ a.model = b.model ∧ a.year < b.year := by
  unfold allMade
  rw [List.pairwise_flatMap]
  constructor
  · intro i hi
    unfold madesOf
    rw [List.pairwise_map]
    refine List.pairwise_lt_range.imp fun {a b} h => .inr ⟨rfl, ?_⟩
    simp only [madeOf]; omega
  · refine List.pairwise_lt_range.imp fun {a b} h x hx y hy => .inl ?_
    obtain ⟨k, _, rfl⟩ := List.mem_map.1 hx
    obtain ⟨k', _, rfl⟩ := List.mem_map.1 hy
    simp only [madeOf]; omega
theorem truths_asc (c : Cat) (o : Old) : (truthsM c o).Pairwise fun a b => a.model < b.model ∨ a.model = b.model ∧ a.year < b.year := (all_asc c).filter _
theorem models_eq (c : Cat) (o : Old) : dedL ((truthsM c o).map Made.model) = valuesZ Made.model (truthsM c o) := by
  have h : ((truthsM c o).map Made.model).Pairwise (· ≤ ·) := by
    rw [List.pairwise_map]; exact (truths_asc c o).imp fun h => by omega
  obtain ⟨h1, h2⟩ := dedL_spec h
  exact sorted_ext h1 valuesZ_lt fun x => by rw [h2 x, valuesZ_mem, List.mem_map]
end Go.Proofs
