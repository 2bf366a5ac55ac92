/- Texts of a proof: lemmas. -/
import Derived.Test.YthejgnlikaiddaaDoorPNA
set_option linter.unusedSimpArgs false
set_option linter.unusedVariables false
set_option maxRecDepth 100000
namespace Go.Proofs
open Go Go.Mu

theorem modN_pos {T : List Made} (h : T ≠ []) : 0 < modN T := List.length_pos_iff.2 (valuesZ_ne h)
theorem modN_nil : modN [] = 0 := by
  have h := @valuesZ_len Made Made.model []
  unfold modN; simpa using h
theorem foldS_zero {g : List Made → Nat} {T : List Made} : ∀ {F : List Int}, F.foldl (needS g T) 0 = 0
  | [] => rfl
  | f :: F => by rw [List.foldl_cons]; unfold needS; rw [if_pos (.inl rfl)]; exact foldS_zero
/-- The least number is that of some feature. -/
theorem foldS_iff {g : List Made → Nat} {T : List Made} : ∀ {F : List Int} {b n : Nat}, 0 < b → (F.foldl (needS g T) b ≤ n ↔ b ≤ n ∨ ∃ f ∈ F, (valF f T).length ≠ 1 ∧ worstF g T f + 1 ≤ n)
  | [], b, n, _ => by simp
  | f :: F, b, n, hb => by
    rw [List.foldl_cons]
    have e : needS g T b f = if b = 0 ∨ (valF f T).length = 1 then b else min b (worstF g T f + 1) := rfl
    rw [e]
    by_cases h1 : (valF f T).length = 1
    · rw [if_pos (.inr h1)]
      rw [show F.foldl (needS g T) b ≤ n ↔ _ from foldS_iff hb]
      constructor
      · rintro (h | ⟨f', hf', h⟩)
        · exact .inl h
        · exact .inr ⟨f', List.mem_cons_of_mem _ hf', h⟩
      · rintro (h | ⟨f', hf', h⟩)
        · exact .inl h
        · rcases List.mem_cons.1 hf' with rfl | hf'
          · exact absurd h1 h.1
          · exact .inr ⟨f', hf', h⟩
    · rw [if_neg (by omega)]
      rw [show F.foldl (needS g T) (min b (worstF g T f + 1)) ≤ n ↔ _ from foldS_iff (by omega)]
      constructor
      · rintro (h | ⟨f', hf', h⟩)
        · by_cases h2 : b ≤ n
          · exact .inl h2
          · exact .inr ⟨f, by simp, h1, by omega⟩
        · exact .inr ⟨f', List.mem_cons_of_mem _ hf', h⟩
      · rintro (h | ⟨f', hf', h⟩)
        · exact .inl (by omega)
        · rcases List.mem_cons.1 hf' with rfl | hf'
          · exact .inl (by omega)
          · exact .inr ⟨f', hf', h⟩
theorem need_iff {F : List Int} {T : List Made} {n : Nat} (hT : T ≠ []) (hn : n < 5) : needL F T ≤ n ↔ modN T = 1 ∨ ∃ f ∈ F, (valF f T).length ≠ 1 ∧ worstF (needL F) T f + 1 ≤ n := by
  rw [needL_eq hT]
  by_cases hm : modN T = 1
  · rw [if_pos hm, foldS_zero]; simp [hm]
  · rw [if_neg hm, foldS_iff (by omega)]
    constructor
    · rintro (h | h)
      · omega
      · exact .inr h
    · rintro (h | h)
      · exact absurd h hm
      · exact .inr h
theorem worst_le {g : List Made → Nat} {T : List Made} {f : Int} {n : Nat} : worstF g T f ≤ n ↔ ∀ v ∈ valF f T, g (partL T f v) ≤ n := by
  unfold worstF
  constructor
  · intro h v hv
    have : g (partL T f v) ≤ _ := foldl_max_le (l := (valF f T).map fun v => g (partL T f v)) (b := 0) (.inl (List.mem_map.2 ⟨v, hv, rfl⟩))
    omega
  · intro h
    rcases foldl_max_mem (l := (valF f T).map fun v => g (partL T f v)) (b := 0) with h1 | h1
    · omega
    · obtain ⟨v, hv, e⟩ := List.mem_map.1 h1
      rw [← e]; exact h v hv
theorem part_const {T : List Made} {f v : Int} (h : v ∈ valF f T) : (valF f (partL T f v)).length = 1 := by
  have : valF f (partL T f v) = [v] := sorted_ext valuesZ_lt (List.pairwise_singleton _ _) fun x => by
    rw [valF_mem, List.mem_singleton]
    constructor
    · rintro ⟨m, hm, rfl⟩; exact of_decide_eq_true (List.mem_filter.1 hm).2
    · rintro rfl; obtain ⟨m, hm, e⟩ := valF_mem.1 h; exact ⟨m, List.mem_filter.2 ⟨hm, decide_eq_true e⟩, e⟩
  rw [this]; rfl
theorem const_part {T : List Made} {f g v : Int} (h : (valF f T).length = 1) (hv : v ∈ valF g T) : (valF f (partL T g v)).length = 1 := by
  obtain ⟨x, hx⟩ := List.length_eq_one_iff.1 h
  have hall : ∀ m ∈ T, tg m.look f = x := fun m hm => by
    have : tg m.look f ∈ valF f T := valF_mem.2 ⟨m, hm, rfl⟩
    rw [hx] at this; simpa using this
  obtain ⟨m, hm⟩ := List.exists_mem_of_ne_nil _ (partL_ne hv)
  have : valF f (partL T g v) = [x] := sorted_ext valuesZ_lt (List.pairwise_singleton _ _) fun y => by
    rw [valF_mem, List.mem_singleton]
    constructor
    · rintro ⟨m, hm, rfl⟩; exact hall m (List.mem_filter.1 hm).1
    · rintro rfl; exact ⟨m, hm, hall m (List.mem_filter.1 hm).1⟩
  rw [this]; rfl
theorem part_self {T : List Made} {f v : Int} (h : (valF f T).length = 1) (hv : v ∈ valF f T) : partL T f v = T := by
  obtain ⟨x, hx⟩ := List.length_eq_one_iff.1 h
  rw [hx] at hv
  have hvx : v = x := by simpa using hv
  unfold partL
  refine List.filter_eq_self.2 fun m hm => ?_
  have : tg m.look f ∈ valF f T := valF_mem.2 ⟨m, hm, rfl⟩
  rw [hx] at this
  have e : tg m.look f = x := by simpa using this
  exact decide_eq_true (by rw [e, hvx])
theorem part_nil {T : List Made} {f v : Int} (h : v ∉ valF f T) : partL T f v = [] := by
  unfold partL
  rw [List.filter_eq_nil_iff]
  intro m hm e
  exact h (valF_mem.2 ⟨m, hm, of_decide_eq_true e⟩)
/-- The features that are left: all others are the same in all truths. -/
structure OkOp (c : Cat) (F O : List Int) (T : List Made) : Prop where
  sub : ∀ f ∈ O, f ∈ F
  rng : ∀ f ∈ F, 0 ≤ f ∧ f < c.features
  cst : ∀ f ∈ F, f ∉ O → (valF f T).length = 1
theorem OkOp.next {c : Cat} {F O : List Int} {T : List Made} (h : OkOp c F O T) {i : Nat} (hi : i < O.length) {v : Int} (hv : v ∈ valF O[i] T) : OkOp c F (O.take i ++ O.drop (i + 1)) (partL T O[i] v) := by
  refine ⟨fun f hf => ?_, h.rng, fun f hf hn => ?_⟩
  · rcases List.mem_append.1 hf with hf | hf
    · exact h.sub f (List.mem_of_mem_take hf)
    · exact h.sub f (List.mem_of_mem_drop hf)
  · by_cases e : f = O[i]
    · subst e; exact part_const hv
    · refine const_part (h.cst f hf fun hm => hn ?_) hv
      obtain ⟨k, hk, rfl⟩ := List.mem_iff_getElem.1 hm
      rcases Nat.lt_trichotomy k i with h1 | h1 | h1
      · exact List.mem_append_left _ (List.mem_iff_getElem.2 ⟨k, by rw [List.length_take]; omega, by rw [List.getElem_take]⟩)
      · subst h1; exact absurd rfl e
      · exact List.mem_append_right _ (List.mem_iff_getElem.2 ⟨k - (i + 1), by rw [List.length_drop]; omega, by rw [List.getElem_drop]; congr 1; omega⟩)
/-- With all features that are left it is decided, or never. -/
theorem need_open {c : Cat} {F : List Int} : ∀ (k : Nat) (T : List Made) (O : List Int), O.length ≤ k → T ≠ [] → OkOp c F O T → needL F T < 5 → needL F T ≤ O.length
  | 0, T, O, hk, hne, hO, h5 => by
    obtain rfl : O = [] := List.length_eq_zero_iff.1 (by omega)
    have h := (need_iff hne h5).1 (Nat.le_refl _)
    rcases h with h | ⟨f, hf, h1, _⟩
    · have := (need_iff (F := F) (n := 0) hne (by omega)).2 (.inl h); simpa using this
    · exact absurd (hO.cst f hf (by simp)) h1
  | k + 1, T, O, hk, hne, hO, h5 => by
    have h := (need_iff hne h5).1 (Nat.le_refl _)
    rcases h with h | ⟨f, hf, h1, h⟩
    · have := (need_iff (F := F) (n := 0) hne (by omega)).2 (.inl h); omega
    · have hfo : f ∈ O := by
        apply Classical.byContradiction
        intro hno; exact h1 (hO.cst f hf hno)
      obtain ⟨i, hi, rfl⟩ := List.mem_iff_getElem.1 hfo
      have hl : (O.take i ++ O.drop (i + 1)).length = O.length - 1 := by rw [List.length_append, List.length_take, List.length_drop]; omega
      have hw : worstF (needL F) T O[i] ≤ O.length - 1 := worst_le.2 fun v hv => by
        have h6 := worst_le.1 (Nat.le_refl (worstF (needL F) T O[i])) v hv
        have := need_open k _ _ (by omega) (partL_ne hv) (hO.next hi hv) (by omega)
        omega
      by_cases hO5 : O.length < 5
      · exact (need_iff hne hO5).2 (.inr ⟨O[i], hf, h1, by omega⟩)
      · omega
end Go.Proofs
