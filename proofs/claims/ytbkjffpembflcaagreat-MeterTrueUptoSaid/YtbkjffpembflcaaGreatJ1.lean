/- Texts of a proof: lemmas. -/
import Derived.Test.YtbkjffpembflcaaGreatIA
import Derived.Test.YtbkjffpembflcaaGreatFA
set_option linter.unusedSimpArgs false
set_option linter.unusedVariables false
namespace Go.Proofs
open Go Go.Mu

theorem verd_right {p : List Int → Bool} {L : List (List Int)} {t : List Int} (ht : t ∈ L) : verd (L.filter p).length L.length = 3 ∨ (verd (L.filter p).length L.length = 1 ∧ p t = true) ∨ (verd (L.filter p).length L.length = 2 ∧ p t = false) := by
  have hL : L ≠ [] := List.ne_nil_of_mem ht
  have h := verd_all (p := p) hL
  by_cases ha : L.all p = true
  · rw [if_pos ha] at h
    exact .inr (.inl ⟨h, List.all_eq_true.1 ha t ht⟩)
  · rw [if_neg ha] at h
    by_cases hb : L.any p = true
    · rw [if_pos hb] at h; exact .inl h
    · rw [if_neg hb] at h
      refine .inr (.inr ⟨h, ?_⟩)
      cases hp : p t
      · rfl
      · exact absurd (List.any_eq_true.2 ⟨t, ht, hp⟩) hb
theorem keepL_nil {rs : List Rd} : ∀ {n : Nat}, n ≤ rs.length → keepL [] rs n = rs.take n
  | 0, _ => by simp [keepL_zero]
  | n + 1, h => by
    rw [keepL_succ (by omega), keepL_nil (by omega), List.take_succ_eq_append_getElem (by omega)]
    simp
theorem without_nil (e : Ear) : without e [] = e := by
  unfold without
  rw [keepL_nil (Nat.le_refl _), List.take_length]
theorem fewL_true {e : Ear} (h : ck e = 0) (hn : truthsL e ≠ []) : fewL e = [[]] := by
  have hm : mayL (without e []) = true := by
    rw [without_nil]; unfold mayL
    cases hT : truthsL e with
    | nil => exact absurd hT hn
    | cons a b => simp
  have h0 : fewAt e 0 = [[]] := by
    unfold fewAt
    simp only [comb, List.filter_cons, List.filter_nil, hm, ↓reduceIte]
  rw [fewL_eq (k := 0) (fun j hj => by omega) (by omega) (by rw [h0]; simp), h0]
/-- What is said of an ear that is made of numbers, and of the tones that are true. -/
structure TrueP (e : Ear) (T : List Int) (A : List Rng) (V : Nat → List Int) (W : Nat → Rng → Int) (H : Nat → Nat → Int) (B : Nat → Nat → Int → Rng) (n : Int) : Prop where
  tones : tonesL e = (A, 0)
  len : A.length = T.length
  inA : ∀ i, i < T.length → ∃ lo hi, A[i]? = some ⟨lo, hi⟩ ∧ lo ≤ tg T i ∧ tg T i ≤ hi
  fls : falseL e = ([], 0)
  dbt : doubtL e = (List.replicate e.rds.length 2, 0)
  tru : truthsN e = (n, 0)
  pos : 1 ≤ n
  vals : ∀ i, i < T.length → valuesL e i = (V i, 0)
  vlen : ∀ i, (V i).length ≤ 9261
  inV : ∀ i, i < T.length → tg T i ∈ V i
  within : ∀ i, i < T.length → ∀ q : Rng, q.lo ≤ q.hi → withinL e i q = (W i q, 0)
  right : ∀ i, i < T.length → ∀ q : Rng, W i q = 3 ∨ (W i q = 1 ∧ q.lo ≤ tg T i ∧ tg T i ≤ q.hi) ∨ (W i q = 2 ∧ ¬ (q.lo ≤ tg T i ∧ tg T i ≤ q.hi))
  self : ∀ i, i < T.length → higherL e i i = (0, 4) ∧ ∀ s, 1 ≤ s → s ≤ 20 → beatsL e i i s = (⟨0, 0⟩, 4)
  higher : ∀ i j, i < T.length → j < T.length → i ≠ j → higherL e i j = (H i j, 0)
  hright : ∀ i j, H i j = 3 ∨ (H i j = 1 ∧ tg T j < tg T i) ∨ (H i j = 2 ∧ ¬ tg T j < tg T i)
  beats : ∀ i j, i < T.length → j < T.length → i ≠ j → ∀ s, 1 ≤ s → s ≤ 20 → beatsL e i j s = (B i j s, 0)
  inB : ∀ i j s, (B i j s).lo ≤ dist (tg T i) (tg T j) * s / 100 ∧ dist (tg T i) (tg T j) * s / 100 ≤ (B i j s).hi
theorem EarP.trueP {m n w : Int} {e : Ear} {T : List Int} (h : EarP m n w e T) : ∃ A V W H B N, TrueP e T A V W H B N := by
  have hc := h.ck
  have he := okE_of_ck hc
  have hkn := h.known
  have hn := hkn.2
  have htm := h.truth
  have hlen := h.len
  have hfl := fewL_true hc hn
  refine ⟨(List.range e.tones.length).map fun (i : Nat) => spanL (fun t => tg t i) (truthsL e), fun i => valsL (fun t => tg t i) (truthsL e), fun i q => verd ((truthsL e).filter (qis i q)).length (truthsL e).length, fun i j => verd ((truthsL e).filter fun t => decide (tg t j < tg t i)).length (truthsL e).length, fun i j s => spanL (fun t => dist (tg t i) (tg t j) * s / 100) (truthsL e), (truthsL e).length, ?_⟩
  constructor
  · unfold tonesL; rw [if_pos (by rw [hkn.1])]
  · simp [hlen]
  · intro i hi
    have s1 := (spanL_spec (num := fun t => tg t i) hn).1 _ htm
    simp only [tg_pad] at s1
    exact ⟨(spanL (fun t => tg t i) (truthsL e)).lo, (spanL (fun t => tg t i) (truthsL e)).hi, by rw [List.getElem?_map, List.getElem?_range (by omega)]; rfl, s1⟩
  · unfold falseL; rw [if_pos hc, hfl]; rfl
  · unfold doubtL
    rw [if_pos hc, hfl]
    congr 1
    refine List.ext_getElem (by simp) fun i h1 h2 => ?_
    simp [hasN, verd]
  · unfold truthsN; rw [if_pos hc]
  · have := List.length_pos_iff.2 hn; omega
  · exact fun i hi => h.values (by omega)
  · intro i
    have := truthsL_len he
    have h2 := firstsL_len ((truthsL e).map fun t => tg t i)
    rw [List.length_map] at h2
    unfold valsL; rw [sortL_len]; omega
  · exact fun i hi => valsL_mem.2 ⟨_, htm, tg_pad T i⟩
  · exact fun i hi q hq => h.within (by omega) hq
  · intro i hi q
    have := verd_right (p := qis i q) htm
    simpa only [qis, tg_pad, decide_eq_true_eq, decide_eq_false_iff_not] using this
  · intro i hi
    have h1 : ckTwo e.tones.length i i = 4 := by unfold ckTwo; rw [if_neg (by omega), if_pos rfl]
    have ha : ∀ w, w ≠ 0 → askL e w = ([], w) := fun w hw => by
      unfold askL; rw [if_neg (by simp [hc]), if_pos hw]
    refine ⟨?_, fun s s1 s2 => ?_⟩
    · unfold higherL; rw [h1, ha 4 (by decide)]; rfl
    · have h2 : ckBeats e.tones.length i i s = 4 := by unfold ckBeats; rw [h1]; rfl
      unfold beatsL; rw [h2, ha 4 (by decide)]; rfl
  · exact fun i j hi hj hij => h.higher (by omega) (by omega) hij
  · intro i j
    have := verd_right (p := fun t => decide (tg t j < tg t i)) htm
    simpa only [tg_pad, decide_eq_true_eq, decide_eq_false_iff_not] using this
  · exact fun i j hi hj hij s s1 s2 => h.beats (by omega) (by omega) hij ⟨s1, s2⟩
  · intro i j s
    have s1 := (spanL_spec (num := fun t => dist (tg t i) (tg t j) * s / 100) hn).1 _ htm
    simpa only [tg_pad] using s1
end Go.Proofs
