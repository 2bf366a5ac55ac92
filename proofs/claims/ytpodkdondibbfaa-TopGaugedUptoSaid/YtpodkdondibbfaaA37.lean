/- Texts of a proof: lemmas. -/
import Derived.Test.YtpodkdondibbfaaA34
set_option linter.unusedSimpArgs false
set_option linter.unusedVariables false
set_option maxRecDepth 100000
namespace Go.Proofs
open Go Go.Mu

def cntW (w : List (Int × Int) × Int) (c : Int) : Int := (mget w.1 c).getD 0
theorem cntW_step {w : List (Int × Int) × Int} {k c : Int} : cntW (stepW w k) c = if c = k then cntW w k + 1 else cntW w c := by
  unfold cntW stepW
  simp only [mget_mset']
  split <;> rfl
def invW (w : List (Int × Int) × Int) : Prop := (∀ c, 0 ≤ cntW w c ∧ cntW w c ≤ w.2) ∧ (w.2 = 0 ∨ ∃ c, cntW w c = w.2)
theorem invW_step {w : List (Int × Int) × Int} (h : invW w) (k : Int) : invW (stepW w k) := by
  have h2 : (stepW w k).2 = if w.2 < cntW w k + 1 then cntW w k + 1 else w.2 := rfl
  have hk := h.1 k
  refine ⟨fun c => ?_, ?_⟩
  · have := h.1 c
    rw [cntW_step, h2]
    split <;> split <;> omega
  · by_cases hc : w.2 < cntW w k + 1
    · right; exact ⟨k, by rw [cntW_step, if_pos rfl, h2, if_pos hc]⟩
    · rw [h2, if_neg hc]
      rcases h.2 with h0 | ⟨c, h0⟩
      · left; exact h0
      · right
        refine ⟨c, ?_⟩
        rw [cntW_step]
        split
        · rename_i e; subst e; omega
        · exact h0
theorem foldW {ks : List Int} : ∀ {w : List (Int × Int) × Int}, ks.Nodup → invW w → invW (ks.foldl stepW w) ∧ ∀ c, cntW (ks.foldl stepW w) c = cntW w c + if c ∈ ks then 1 else 0 := by
  induction ks with
  | nil => intro w _ h; exact ⟨h, fun c => by simp⟩
  | cons k ks ih =>
    intro w hn h
    rw [List.nodup_cons] at hn
    obtain ⟨h1, h2⟩ := ih (w := stepW w k) hn.2 (invW_step h k)
    refine ⟨h1, fun c => ?_⟩
    rw [List.foldl_cons, h2, cntW_step]
    by_cases e : c = k
    · subst e; simp [hn.1]
    · simp [e]
theorem foldWs {r : Rd} {sl : Int} : ∀ {l : List (List Int)} {w : List (Int × Int) × Int}, invW w → invW (l.foldl (worstS r sl) w) ∧ ∀ c, cntW (l.foldl (worstS r sl) w) c = cntW w c + (outO r sl l c).length := by
  intro l
  induction l with
  | nil => intro w h; exact ⟨h, fun c => by simp [outO]⟩
  | cons t l ih =>
    intro w h
    obtain ⟨g1, g2⟩ := foldW (showsL_nodup r sl t) h
    obtain ⟨h1, h2⟩ := ih (w := worstS r sl w t) g1
    refine ⟨h1, fun c => ?_⟩
    rw [List.foldl_cons, h2]
    show cntW ((showsL r sl t).foldl stepW w) c + _ = _
    rw [g2]
    unfold outO
    rw [List.filter_cons]
    by_cases e : c ∈ showsL r sl t
    · simp [e]; omega
    · simp [e]
theorem worst_spec (r : Rd) (sl : Int) (l : List (List Int)) : (∀ c, ((outO r sl l c).length : Int) ≤ worstL r sl l) ∧ (worstL r sl l = 0 ∨ ∃ c, ((outO r sl l c).length : Int) = worstL r sl l) := by
  have h0 : invW ([], 0) := ⟨fun c => by simp [cntW, mget, fIdx], .inl rfl⟩
  obtain ⟨h1, h2⟩ := foldWs (r := r) (sl := sl) (l := l) h0
  have hz : ∀ c, cntW ([], 0) c = 0 := fun c => by simp [cntW, mget, fIdx]
  refine ⟨fun c => ?_, ?_⟩
  · have := (h1.1 c).2
    rw [h2, hz] at this
    simpa [worstL] using this
  · rcases h1.2 with h | ⟨c, h⟩
    · exact .inl h
    · right; refine ⟨c, ?_⟩
      rw [h2, hz] at h
      simpa [worstL] using h
theorem worst_le (r : Rd) (sl : Int) (l : List (List Int)) : worstL r sl l ≤ l.length := by
  rcases (worst_spec r sl l).2 with h | ⟨c, h⟩
  · omega
  · have : (outO r sl l c).length ≤ l.length := List.length_filter_le _ _
    omega
theorem worst_nonneg (r : Rd) (sl : Int) (l : List (List Int)) : 0 ≤ worstL r sl l := by
  have := (worst_spec r sl l).1 0
  omega
/-- A span: the least and the greatest number. -/
theorem spanL_spec {num : List Int → Int} {l : List (List Int)} (hl : l ≠ []) : (∀ t ∈ l, (spanL num l).lo ≤ num t ∧ num t ≤ (spanL num l).hi) ∧ (∃ t ∈ l, num t = (spanL num l).lo) ∧ (∃ t ∈ l, num t = (spanL num l).hi) := by
  have key : ∀ (l p : List (List Int)) (y : Rng), ((∀ t ∈ p, y.lo ≤ num t ∧ num t ≤ y.hi) ∧ (∃ t ∈ p, num t = y.lo) ∧ (∃ t ∈ p, num t = y.hi)) →
      ((∀ t ∈ p ++ l, (l.foldl (spanS num) y).lo ≤ num t ∧ num t ≤ (l.foldl (spanS num) y).hi) ∧ (∃ t ∈ p ++ l, num t = (l.foldl (spanS num) y).lo) ∧ (∃ t ∈ p ++ l, num t = (l.foldl (spanS num) y).hi)) := by
    intro l
    induction l with
    | nil => intro p y h; simpa using h
    | cons t l ih =>
      intro p y ⟨h1, ⟨a, ha, ha2⟩, ⟨b, hb, hb2⟩⟩
      have e : p ++ t :: l = (p ++ [t]) ++ l := by simp
      rw [e]
      refine ih (p ++ [t]) (spanS num y t) ⟨fun u hu => ?_, ?_, ?_⟩
      · rcases List.mem_append.1 hu with hu | hu
        · have := h1 u hu
          simp only [spanS, mn, mx]; split <;> split <;> omega
        · simp at hu; subst hu
          simp only [spanS, mn, mx]; split <;> split <;> omega
      · simp only [spanS, mn]
        split
        · exact ⟨t, by simp, rfl⟩
        · exact ⟨a, by simp [ha], ha2⟩
      · simp only [spanS, mx]
        split
        · exact ⟨t, by simp, rfl⟩
        · exact ⟨b, by simp [hb], hb2⟩
  obtain ⟨t, l, rfl⟩ : ∃ t l', l = t :: l' := by cases l with | nil => exact absurd rfl hl | cons a b => exact ⟨a, b, rfl⟩
  have := key l [t] (spanS num ⟨num t, num t⟩ t) ⟨fun u hu => by simp at hu; subst hu; simp [spanS, mn, mx], ⟨t, by simp, by simp [spanS, mn]⟩, ⟨t, by simp, by simp [spanS, mx]⟩⟩
  simpa [spanL] using this
/-- Fewer truths are spread less. -/
theorem span_sub {num : List Int → Int} {l l' : List (List Int)} (hl : l' ≠ []) (h : ∀ t ∈ l', t ∈ l) : (spanL num l).lo ≤ (spanL num l').lo ∧ (spanL num l').hi ≤ (spanL num l).hi := by
  have hn : l ≠ [] := by
    obtain ⟨t, ht⟩ := List.exists_mem_of_ne_nil _ hl
    intro e; have := h t ht; rw [e] at this; cases this
  obtain ⟨h1, _, _⟩ := spanL_spec (num := num) hn
  obtain ⟨_, ⟨a, ha, ha2⟩, ⟨b, hb, hb2⟩⟩ := spanL_spec (num := num) hl
  have := h1 a (h a ha)
  have := h1 b (h b hb)
  omega
theorem isR_slacker {r : Rd} {s1 s2 : Int} {t : List Int} (h : s1 ≤ s2) (hr : isR r s1 t = true) : isR r s2 t = true := by
  unfold isR at hr ⊢
  split
  · rename_i hk
    rw [if_pos hk] at hr
    have := of_decide_eq_true hr
    exact decide_eq_true (by omega)
  · rename_i hk
    rw [if_neg hk] at hr
    exact hr
end Go.Proofs
