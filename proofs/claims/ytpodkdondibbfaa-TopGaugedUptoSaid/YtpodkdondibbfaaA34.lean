/- Texts of a proof: lemmas. -/
import Derived.Test.YtpodkdondibbfaaA33
set_option linter.unusedSimpArgs false
set_option linter.unusedVariables false
set_option maxRecDepth 100000
namespace Go.Proofs
open Go Go.Mu

/-- The first one of the least. -/
theorem leastL_spec (num : Rd → Int) (l : List Rd) (hl : l ≠ []) : ∃ i, ∃ h : i < l.length, leastL num l = (l[i], num l[i]) ∧ (∀ j (h' : j < l.length), num l[i] ≤ num l[j]) ∧ (∀ j (h' : j < l.length), j < i → num l[i] < num l[j]) := by
  have key : ∀ (rest p : List Rd) (i : Nat) (h : i < p.length), (∀ j (h' : j < p.length), num p[i] ≤ num p[j]) → (∀ j (h' : j < p.length), j < i → num p[i] < num p[j]) →
      ∃ i2, ∃ h2 : i2 < (p ++ rest).length, rest.foldl (leastS num) (p[i], num p[i]) = ((p ++ rest)[i2], num (p ++ rest)[i2]) ∧ (∀ j (h' : j < (p ++ rest).length), num (p ++ rest)[i2] ≤ num (p ++ rest)[j]) ∧ (∀ j (h' : j < (p ++ rest).length), j < i2 → num (p ++ rest)[i2] < num (p ++ rest)[j]) := by
    intro rest
    induction rest with
    | nil =>
      intro p i h h1 h2
      simp only [List.append_nil, List.foldl_nil]
      exact ⟨i, h, rfl, h1, h2⟩
    | cons y rest ih =>
      intro p i h h1 h2
      have hpe : p ++ y :: rest = (p ++ [y]) ++ rest := by simp
      have hg : ∀ j (hj : j < (p ++ [y]).length), (p ++ [y])[j] = if h : j < p.length then p[j] else y := fun j hj => by
        rw [List.getElem_append]
        split
        · rfl
        · simp at hj; simp
      rw [List.foldl_cons]
      by_cases hc : num y < num p[i]
      · have e : leastS num (p[i], num p[i]) y = (y, num y) := by simp [leastS, hc]
        rw [e]
        have hy : (p ++ [y])[p.length]'(by simp) = y := by simp
        have := ih (p ++ [y]) p.length (by simp) (fun j hj => by
          rw [hy, hg j hj]
          split
          · have := h1 j (by assumption); omega
          · omega) (fun j hj hlt => by
          rw [hy, hg j hj, dif_pos hlt]
          have := h1 j hlt; omega)
        rw [hy] at this
        simpa only [hpe] using this
      · have e : leastS num (p[i], num p[i]) y = (p[i], num p[i]) := by simp [leastS, hc]
        rw [e]
        have hy : (p ++ [y])[i]'(by simp; omega) = p[i] := by rw [hg i (by simp; omega), dif_pos h]
        have := ih (p ++ [y]) i (by simp; omega) (fun j hj => by
          rw [hy, hg j hj]
          split
          · exact h1 j (by assumption)
          · omega) (fun j hj hlt => by
          rw [hy, hg j hj, dif_pos (by omega)]
          exact h2 j (by omega) hlt)
        rw [hy] at this
        simpa only [hpe] using this
  obtain ⟨x, l, rfl⟩ : ∃ x l', l = x :: l' := by cases l with | nil => exact absurd rfl hl | cons a b => exact ⟨a, b, rfl⟩
  have := key l [x] 0 (by simp) (fun j h' => by simp at h'; subst h'; simp) (fun j h' h => by omega)
  simpa [leastL] using this
theorem byGatesL_ck {m : Nat} {gs : List Int} (hm : m ≤ 3) (hg : ∀ s ∈ gs, 1 ≤ s ∧ s ≤ 20) : ∀ r ∈ byGatesL m gs, ckR r m = 0 := by
  intro r hr
  simp only [byGatesL, gCC, gBB, gHH, gC, gBs, gHs, gB, gH, List.mem_append, List.mem_flatMap, List.mem_map, List.mem_range] at hr
  rcases hr with ⟨a, ha, s, hs, rfl⟩ | ⟨a, ha, b, hb, s, hs, rfl⟩ | ⟨a, ha, b, hb, rfl⟩
  · have := hg s hs
    simp only [ckR]; grind
  · have := hg s hs
    simp only [ckR]; grind
  · simp only [ckR]; grind
theorem byGatesL_sub {m : Nat} {gs gs' : List Int} (h : ∀ s ∈ gs, s ∈ gs') : ∀ r ∈ byGatesL m gs, r ∈ byGatesL m gs' := by
  intro r hr
  simp only [byGatesL, gCC, gBB, gHH, gC, gBs, gHs, gB, gH, List.mem_append, List.mem_flatMap, List.mem_map, List.mem_range] at hr ⊢
  rcases hr with ⟨a, ha, s, hs, rfl⟩ | ⟨a, ha, b, hb, s, hs, rfl⟩ | ⟨a, ha, b, hb, rfl⟩
  · exact .inl ⟨a, ha, s, h s hs, rfl⟩
  · exact .inr (.inl ⟨a, ha, b, hb, s, h s hs, rfl⟩)
  · exact .inr (.inr ⟨a, ha, b, hb, rfl⟩)
theorem gates_two {gs : List Int} (h : ckGates gs = 0) (hl : gs.length ≤ 2) : (∃ a, gs = [a] ∧ 1 ≤ a ∧ a ≤ 20) ∨ ∃ a b, gs = [a, b] ∧ 1 ≤ a ∧ a < b ∧ b ≤ 20 := by
  obtain ⟨h1, _, h3⟩ := ckGates_ok h
  match gs, h, hl, h1, h3 with
  | [a], h, _, _, h3 => exact .inl ⟨a, rfl, h3 a (by simp)⟩
  | [a, b], h, _, _, h3 =>
    have e0 : tg [a, b] 0 = a := rfl
    have e1 : tg [a, b] 1 = b := rfl
    simp [ckGates, firstE, ckG, List.range_succ, e0, e1] at h
    have := h3 a (by simp)
    have := h3 b (by simp)
    refine .inr ⟨a, b, rfl, by omega, ?_, by omega⟩
    grind
theorem gates_more {gs : List Int} (h : ckGates gs = 0) (hl : gs.length ≤ 2) {x : Int} (hx : tg gs ((gs.length : Int) - 1) + 1 ≤ x ∧ x ≤ 20) : ckGates (gs ++ [x]) = 0 := by
  rcases gates_two h hl with ⟨a, rfl, h1, h2⟩ | ⟨a, b, rfl, h1, h2, h3⟩
  · have e : tg [a] 0 = a := rfl
    have e0 : tg [a, x] 0 = a := rfl
    have e1 : tg [a, x] 1 = x := rfl
    simp [e] at hx
    simp [ckGates, firstE, ckG, List.range_succ, e0, e1]; grind
  · have e : tg [a, b] 1 = b := rfl
    have e0 : tg [a, b, x] 0 = a := rfl
    have e1 : tg [a, b, x] 1 = b := rfl
    have e2 : tg [a, b, x] 2 = x := rfl
    simp [e] at hx
    simp [ckGates, firstE, ckG, List.range_succ, e0, e1, e2]; grind
/-- Of an ear that is made of numbers something is asked. -/
theorem EarP.ask {m n w : Int} {e : Ear} {T : List Int} (h : EarP m n w e T) {x : Int} (hx : x = 0) : askL e x = (truthsL e, 0) := by
  unfold askL
  rw [if_neg (by rw [h.ck]; simp), if_neg (by simp [hx])]
  exact h.known.1
theorem EarP.best {m n w : Int} {e : Ear} {T : List Int} (h : EarP m n w e T) {gs : List Int} (hg : ckGates gs = 0) :
    ∃ i, ∃ hi : i < (byGatesL e.tones.length gs).length, bestL e gs = (((byGatesL e.tones.length gs)[i], worstL (byGatesL e.tones.length gs)[i] e.slack (truthsL e)), 0) ∧
      (∀ j (h' : j < (byGatesL e.tones.length gs).length), worstL (byGatesL e.tones.length gs)[i] e.slack (truthsL e) ≤ worstL (byGatesL e.tones.length gs)[j] e.slack (truthsL e)) ∧
      (∀ j (h' : j < (byGatesL e.tones.length gs).length), j < i → worstL (byGatesL e.tones.length gs)[i] e.slack (truthsL e) < worstL (byGatesL e.tones.length gs)[j] e.slack (truthsL e)) := by
  obtain ⟨g1, g2, g3⟩ := ckGates_ok hg
  have hne := byGatesL_ne (m := e.tones.length) (by have := h.len; have := h.lo; omega) g1
  obtain ⟨i, hi, h1, h2, h3⟩ := leastL_spec (fun r => worstL r e.slack (truthsL e)) _ hne
  refine ⟨i, hi, ?_, h2, h3⟩
  unfold bestL
  rw [h.ask hg, if_pos rfl]
  unfold bestOf
  rw [h1]
theorem EarP.worst {m n w : Int} {e : Ear} {T : List Int} (h : EarP m n w e T) {r : Rd} (hr : ckR r e.tones.length = 0) : worstOf e r = (worstL r e.slack (truthsL e), 0) := by
  unfold worstOf
  rw [h.ask hr, if_pos rfl]
end Go.Proofs
