/- Texts of a proof: lemmas. -/
import Derived.Test.YtbkjffpembflcaaGreatIA
import Derived.Test.YtbkjffpembflcaaGreatBC
set_option linter.unusedSimpArgs false
set_option linter.unusedVariables false
namespace Go.Proofs
open Go Go.Mu

/-- What all truths say: the tones of the tongues alone. -/
structure AllP (e : Ear) (R : List (List Int)) : Prop where
  ne : R ≠ []
  rl : R.length ≤ 9261
  ok : ∀ t ∈ R, t.length = e.tones.length ∧ ∀ i (h : i < e.tones.length), e.tones[i].lo ≤ tg t i ∧ tg t i ≤ e.tones[i].hi
  vals : ∀ i, i < e.tones.length → valuesL e i = (valsL (fun t => tg t i) R, 0)
  tones : tonesL e = ((List.range e.tones.length).map fun (i : Nat) => spanL (fun t => tg t i) R, 0)
  within : ∀ i, i < e.tones.length → ∀ q : Rng, q.lo ≤ q.hi → withinL e i q = (verd (R.filter (qis i q)).length R.length, 0)
  higher : ∀ i j, i < e.tones.length → j < e.tones.length → i ≠ j → higherL e i j = (verd (R.filter fun t => decide (tg t j < tg t i)).length R.length, 0)
  beats : ∀ i j, i < e.tones.length → j < e.tones.length → i ≠ j → ∀ s, 1 ≤ s → s ≤ 20 → beatsL e i j s = (spanL (fun t => dist (tg t i) (tg t j) * s / 100) R, 0)
theorem askL_known {e : Ear} (hc : ck e = 0) (hn : truthsL e ≠ []) {w : Int} (hw : w = 0) : askL e w = (truthsL e, 0) := by
  unfold askL knownL
  rw [if_neg (by simp [hc]), if_neg (by simp [hw]), if_neg (by simp [hc]), if_neg hn]
theorem allP {e : Ear} (hc : ck e = 0) (hn : truthsR e ≠ []) : AllP e (truthsR e) := by
  have he := okE_of_ck hc
  have hL : truthsL e ≠ [] := fun h => hn (truthsR_nil.2 h)
  have htk : ∀ i, i < e.tones.length → ∀ t, tg (t.take e.tones.length) i = tg t i := fun i hi t => tg_take (by omega) (by omega)
  have hR : truthsR e = (truthsL e).map (List.take e.tones.length) := rfl
  refine ⟨hn, truthsR_len he, ?_, ?_, ?_, ?_, ?_, ?_⟩
  · intro t ht
    refine ⟨(truthsR_ok he t ht).1, fun i h => ?_⟩
    rw [hR] at ht
    obtain ⟨u, hu, rfl⟩ := List.mem_map.1 ht
    rw [htk i h]
    have := truths_tone he hu h
    simpa [List.getD, List.getElem?_eq_getElem h] using this
  · intro i hi
    have h0 : oneE e i = 0 := by unfold oneE; rw [if_pos (by omega)]
    unfold valuesL
    rw [askL_known hc hL h0]
    simp only [↓reduceIte]
    unfold valsL
    rw [hR, List.map_map]
    congr 3
    exact List.map_congr_left fun t _ => (htk i hi t).symm
  · have hk : knownL e = (truthsL e, 0) := by unfold knownL; rw [if_neg (by simp [hc]), if_neg hL]
    unfold tonesL
    rw [if_pos (by rw [hk])]
    congr 1
    refine List.map_congr_left fun i hi => ?_
    exact (spanR _ _ hL fun t => htk i (by simpa using hi) t).symm
  · intro i hi q hq
    have h0 : ckWant e.tones.length i q = 0 := by unfold ckWant; rw [if_neg (by omega), if_neg (by omega)]
    unfold withinL
    rw [askL_known hc hL h0]
    simp only [↓reduceIte]
    rw [truthsR_length, rcount (e := e) (qis i q) (qis i q) fun t => by simp only [qis, htk i hi]]
  · intro i j hi hj hij
    have h0 : ckTwo e.tones.length i j = 0 := by unfold ckTwo; rw [if_neg (by omega), if_neg (by omega)]
    unfold higherL
    rw [askL_known hc hL h0]
    simp only [↓reduceIte]
    rw [truthsR_length, rcount (e := e) (fun t => decide (tg t j < tg t i)) (fun t => decide (tg t j < tg t i)) fun t => by simp only [htk i hi, htk j hj]]
  · intro i j hi hj hij s h1 h2
    have h1 : ckTwo e.tones.length i j = 0 := by unfold ckTwo; rw [if_neg (by omega), if_neg (by omega)]
    have h0 : ckBeats e.tones.length i j s = 0 := by unfold ckBeats; rw [if_pos h1, if_pos (by omega)]
    unfold beatsL
    rw [askL_known hc hL h0]
    simp only [↓reduceIte]
    rw [spanR (fun t => dist (tg t i) (tg t j) * s / 100) (fun t => dist (tg t i) (tg t j) * s / 100) hL fun t => by simp only [htk i hi, htk j hj]]
/-- The values below a bound, ascending. -/
def belowL (V : List Int) (t : Int) : List Int := V.filter fun x => decide (x < t)
theorem below_notin {V : List Int} {t : Int} : t ∉ belowL V t := by simp [belowL]
theorem below_succ {V : List Int} (hV : V.Pairwise (· < ·)) (t : Int) : belowL V (t + 1) = if t ∈ V then belowL V t ++ [t] else belowL V t := by
  induction V with
  | nil => simp [belowL]
  | cons x V ih =>
    rw [List.pairwise_cons] at hV
    have ih := ih hV.2
    unfold belowL at ih ⊢
    simp only [List.filter_cons]
    rcases Int.lt_trichotomy x t with h | h | h
    · have h1 : x < t + 1 := by omega
      have h2 : ¬ t = x := by omega
      simp only [h, h1, decide_true, ↓reduceIte, List.mem_cons, h2, false_or]
      rw [ih]
      split <;> rfl
    · subst h
      have h1 : x < x + 1 := by omega
      have h2 : ∀ u, u ≤ x + 1 → V.filter (fun y => decide (y < u)) = [] := fun u hu => by
        rw [List.filter_eq_nil_iff]; intro y hy; have := hV.1 y hy; simp; omega
      simp only [h1, Int.lt_irrefl, decide_true, decide_false, ↓reduceIte, List.mem_cons, true_or]
      rw [h2 _ (by omega), h2 _ (by omega)]
      rfl
    · have h1 : ¬ x < t + 1 := by omega
      have h2 : ¬ t = x := by omega
      have h3 : ¬ x < t := by omega
      have h4 : t ∉ V := fun hm => by have := hV.1 t hm; omega
      have h5 : ∀ u, u ≤ x → V.filter (fun y => decide (y < u)) = [] := fun u hu => by
        rw [List.filter_eq_nil_iff]; intro y hy; have := hV.1 y hy; simp; omega
      simp only [h1, h3, decide_false, Bool.false_eq_true, ↓reduceIte, List.mem_cons, h2, h4, or_self]
      rw [h5 _ (by omega), h5 _ (by omega)]
theorem below_all {V : List Int} {t : Int} (h : ∀ x ∈ V, x < t) : belowL V t = V := by
  unfold belowL; exact List.filter_eq_self.2 fun x hx => by simpa using h x hx
theorem below_none {V : List Int} {t : Int} (h : ∀ x ∈ V, t ≤ x) : belowL V t = [] := by
  unfold belowL; rw [List.filter_eq_nil_iff]; intro x hx; have := h x hx; simp; omega
/-- What is met at a tone once some truths are looked at. -/
def metL (V : List Int) (f : List Int → Int) (R : List (List Int)) (t : Int) (k : Nat) : List Int := if ∃ u ∈ R.take k, f u = t then belowL V t ++ [t] else belowL V t
theorem metL_zero {V : List Int} {f : List Int → Int} {R : List (List Int)} {t : Int} : metL V f R t 0 = belowL V t := by simp [metL]
theorem metL_succ {V : List Int} {f : List Int → Int} {R : List (List Int)} {t : Int} {k : Nat} (h : k < R.length) : metL V f R t (k + 1) = if f R[k] = t ∧ t ∉ metL V f R t k then metL V f R t k ++ [t] else metL V f R t k := by
  unfold metL
  have e : (∃ u ∈ R.take (k + 1), f u = t) ↔ (∃ u ∈ R.take k, f u = t) ∨ f R[k] = t := by
    rw [List.take_succ_eq_append_getElem h]
    constructor
    · rintro ⟨u, hu, h⟩
      rcases List.mem_append.1 hu with hu | hu
      · exact .inl ⟨u, hu, h⟩
      · simp at hu; subst hu; exact .inr h
    · rintro (⟨u, hu, h⟩ | h)
      · exact ⟨u, List.mem_append_left _ hu, h⟩
      · exact ⟨_, List.mem_append_right _ (List.mem_singleton.2 rfl), h⟩
  have hb := below_notin (V := V) (t := t)
  by_cases h1 : ∃ u ∈ R.take k, f u = t
  · rw [if_pos (e.2 (.inl h1)), if_pos h1, if_neg (by simp)]
  · by_cases h2 : f R[k] = t
    · rw [if_pos (e.2 (.inr h2)), if_neg h1, if_pos ⟨h2, hb⟩]
    · rw [if_neg (fun h => (e.1 h).elim h1 h2), if_neg h1, if_neg (fun h => h2 h.1)]
theorem metL_end {f : List Int → Int} {R : List (List Int)} {t : Int} : metL (valsL f R) f R t R.length = belowL (valsL f R) (t + 1) := by
  rw [below_succ valsL_lt]
  unfold metL
  rw [List.take_length]
  have : (∃ u ∈ R, f u = t) ↔ t ∈ valsL f R := valsL_mem.symm
  simp only [this]
theorem metL_len {V : List Int} {f : List Int → Int} {R : List (List Int)} {t : Int} {k : Nat} : (metL V f R t k).length ≤ V.length + 1 := by
  have : (belowL V t).length ≤ V.length := List.length_filter_le _ _
  unfold metL; split <;> simp <;> omega
theorem valsL_len (f : List Int → Int) (R : List (List Int)) : (valsL f R).length ≤ R.length := by
  have h2 := firstsL_len (R.map f)
  rw [List.length_map] at h2
  unfold valsL; rw [sortL_len]; exact h2
/-- Beats begin beyond all that there are. -/
theorem spanL_far {f : List Int → Int} {R : List (List Int)} (hR : R ≠ []) (h : ∀ t ∈ R, 0 ≤ f t ∧ f t ≤ 99999) : R.foldl (spanS f) ⟨99999, 0⟩ = spanL f R := by
  cases R with
  | nil => exact absurd rfl hR
  | cons t R =>
    unfold spanL
    simp only [List.headD_cons, List.foldl_cons]
    have := h t (by simp)
    congr 1
    simp only [spanS, Rng.mk.injEq, mn, mx]
    constructor <;> split <;> split <;> omega
theorem foldl_take_succ {α β : Type} {g : α → β → α} {x : α} {l : List β} {i : Nat} (h : i < l.length) : (l.take (i + 1)).foldl g x = g ((l.take i).foldl g x) l[i] := by
  rw [List.take_succ_eq_append_getElem h, List.foldl_append]; rfl
theorem span_bound {f : List Int → Int} : ∀ {R : List (List Int)} (x : Rng), (0 ≤ x.lo ∧ x.lo ≤ 99999 ∧ 0 ≤ x.hi ∧ x.hi ≤ 99999) → (∀ t ∈ R, 0 ≤ f t ∧ f t ≤ 99999) → 0 ≤ (R.foldl (spanS f) x).lo ∧ (R.foldl (spanS f) x).lo ≤ 99999 ∧ 0 ≤ (R.foldl (spanS f) x).hi ∧ (R.foldl (spanS f) x).hi ≤ 99999
  | [], x, h, _ => h
  | t :: R, x, h, hR => by
    rw [List.foldl_cons]
    have := hR t (by simp)
    exact span_bound _ (by simp only [spanS, mn, mx]; split <;> split <;> omega) fun u hu => hR u (by simp [hu])
end Go.Proofs
