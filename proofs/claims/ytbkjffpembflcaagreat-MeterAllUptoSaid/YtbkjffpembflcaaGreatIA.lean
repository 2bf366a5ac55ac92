/- Texts of a proof: lemmas. -/
import Derived.Test.YtbkjffpembflcaaGreatIB
import Derived.Test.YtbkjffpembflcaaGreatAN
import Derived.Test.YtbkjffpembflcaaGreatA34
set_option linter.unusedSimpArgs false
set_option linter.unusedVariables false
namespace Go.Proofs
open Go Go.Mu

/-- The numbers that truths have, ascending. -/
def valsL (f : List Int → Int) (L : List (List Int)) : List Int := sortL (firstsL (L.map f))
theorem valsL_mem {f : List Int → Int} {L : List (List Int)} {x : Int} : x ∈ valsL f L ↔ ∃ t ∈ L, f t = x := by
  unfold valsL sortL firstsL
  rw [List.mem_mergeSort, addN_mem]
  simp
theorem valsL_ne {f : List Int → Int} {L : List (List Int)} (h : L ≠ []) : valsL f L ≠ [] := by
  obtain ⟨t, ht⟩ := List.exists_mem_of_ne_nil _ h
  exact List.ne_nil_of_mem (valsL_mem.2 ⟨t, ht, rfl⟩)
theorem valsL_le {f : List Int → Int} {L : List (List Int)} : (valsL f L).Pairwise (· ≤ ·) := by
  unfold valsL sortL
  refine (List.pairwise_mergeSort (le := fun x y : Int => decide (x ≤ y)) (fun a b c h1 h2 => by simp at *; omega) (fun a b => by simp; omega) _).imp fun h => by simpa using h
theorem valsL_nodup {f : List Int → Int} {L : List (List Int)} : (valsL f L).Nodup :=
  (List.mergeSort_perm _ _).nodup_iff.2 (addN_nodup _ _ List.nodup_nil)
theorem valsL_lt {f : List Int → Int} {L : List (List Int)} : (valsL f L).Pairwise (· < ·) := by
  have h1 := valsL_le (f := f) (L := L)
  have h2 := valsL_nodup (f := f) (L := L)
  exact (h1.and h2).imp fun h => by omega
theorem sorted_ext {a b : List Int} (ha : a.Pairwise (· < ·)) (hb : b.Pairwise (· < ·)) (h : ∀ x, x ∈ a ↔ x ∈ b) : a = b := by
  induction a generalizing b with
  | nil =>
    cases b with
    | nil => rfl
    | cons y b => exact absurd ((h y).2 (by simp)) (by simp)
  | cons x a ih =>
    cases b with
    | nil => exact absurd ((h x).1 (by simp)) (by simp)
    | cons y b =>
      rw [List.pairwise_cons] at ha hb
      have hxy : x = y := by
        have h1 := (h x).1 (by simp)
        have h2 := (h y).2 (by simp)
        rcases List.mem_cons.1 h1 with h1 | h1
        · exact h1
        · rcases List.mem_cons.1 h2 with h2 | h2
          · exact h2.symm
          · have := hb.1 _ h1; have := ha.1 _ h2; omega
      subst hxy
      congr 1
      refine ih ha.2 hb.2 fun z => ?_
      have hz := h z
      simp only [List.mem_cons] at hz
      constructor
      · intro hm
        rcases hz.1 (.inr hm) with rfl | h3
        · have := ha.1 _ hm; omega
        · exact h3
      · intro hm
        rcases hz.2 (.inr hm) with rfl | h3
        · have := hb.1 _ hm; omega
        · exact h3
theorem verd_all {α : Type} {p : α → Bool} {L : List α} (h : L ≠ []) : verd (L.filter p).length L.length = if L.all p then 1 else if L.any p then 3 else 2 := by
  have hl : L.length ≠ 0 := fun e => h (List.length_eq_zero_iff.1 e)
  unfold verd
  by_cases ha : L.all p = true
  · rw [if_pos ha, if_pos]
    rw [List.filter_eq_self.2 fun a hm => List.all_eq_true.1 ha a hm]
  · rw [if_neg ha]
    have : ¬ (L.filter p).length = L.length := fun e => ha (List.all_eq_true.2 fun a hm => by
      have := List.filter_eq_self.1 (List.filter_sublist.eq_of_length e) a hm
      exact this)
    rw [if_neg this]
    by_cases hn : L.any p = true
    · rw [if_pos hn, if_neg]
      obtain ⟨a, hm, hp⟩ := List.any_eq_true.1 hn
      intro e
      exact absurd (List.length_eq_zero_iff.1 e) (List.ne_nil_of_mem (List.mem_filter.2 ⟨hm, hp⟩))
    · rw [if_neg hn, if_pos]
      rw [List.length_eq_zero_iff, List.filter_eq_nil_iff]
      intro a hm hp
      exact hn (List.any_eq_true.2 ⟨a, hm, hp⟩)
theorem verd_vals {f : List Int → Int} {q : Int → Bool} {L : List (List Int)} (h : L ≠ []) : verd (L.filter fun t => q (f t)).length L.length = verd ((valsL f L).filter q).length (valsL f L).length := by
  rw [verd_all h, verd_all (valsL_ne h)]
  have h1 : (L.all fun t => q (f t)) = (valsL f L).all q := by
    rw [Bool.eq_iff_iff, List.all_eq_true, List.all_eq_true]
    exact ⟨fun H x hx => by obtain ⟨t, ht, rfl⟩ := valsL_mem.1 hx; exact H t ht, fun H t ht => H _ (valsL_mem.2 ⟨t, ht, rfl⟩)⟩
  have h2 : (L.any fun t => q (f t)) = (valsL f L).any q := by
    rw [Bool.eq_iff_iff, List.any_eq_true, List.any_eq_true]
    exact ⟨fun ⟨t, ht, hq⟩ => ⟨_, valsL_mem.2 ⟨t, ht, rfl⟩, hq⟩, fun ⟨x, hx, hq⟩ => by obtain ⟨t, ht, rfl⟩ := valsL_mem.1 hx; exact ⟨t, ht, hq⟩⟩
  rw [h1, h2]
theorem pw_first {l : List Int} (h : l.Pairwise (· < ·)) (h0 : 0 < l.length) : ∀ x ∈ l, l[0] ≤ x := fun x hx => by
  obtain ⟨j, hj, rfl⟩ := List.mem_iff_getElem.1 hx
  rcases Nat.eq_zero_or_pos j with rfl | hp
  · exact Int.le_refl _
  · exact Int.le_of_lt (List.pairwise_iff_getElem.1 h 0 j h0 hj hp)
theorem pw_last {l : List Int} (h : l.Pairwise (· < ·)) (h0 : l.length - 1 < l.length) : ∀ x ∈ l, x ≤ l[l.length - 1] := fun x hx => by
  obtain ⟨j, hj, rfl⟩ := List.mem_iff_getElem.1 hx
  by_cases e : j = l.length - 1
  · subst e; exact Int.le_refl _
  · exact Int.le_of_lt (List.pairwise_iff_getElem.1 h j (l.length - 1) hj h0 (by omega))
theorem span_vals {f : List Int → Int} {L : List (List Int)} (h : L ≠ []) (h0 : 0 < (valsL f L).length) : spanL f L = ⟨(valsL f L)[0], (valsL f L)[(valsL f L).length - 1]⟩ := by
  obtain ⟨s1, ⟨t1, m1, e1⟩, ⟨t2, m2, e2⟩⟩ := spanL_spec (num := f) h
  have hp := valsL_lt (f := f) (L := L)
  have a1 := pw_first hp h0 _ (valsL_mem.2 ⟨t1, m1, e1⟩)
  have a2 := pw_last hp (by omega) _ (valsL_mem.2 ⟨t2, m2, e2⟩)
  obtain ⟨u1, n1, g1⟩ := valsL_mem.1 (List.getElem_mem h0)
  obtain ⟨u2, n2, g2⟩ := valsL_mem.1 (List.getElem_mem (show (valsL f L).length - 1 < (valsL f L).length by omega))
  have b1 := (s1 u1 n1).1
  have b2 := (s1 u2 n2).2
  rw [g1] at b1
  rw [g2] at b2
  have c1 := Int.le_antisymm b1 a1
  have c2 := Int.le_antisymm a2 b2
  generalize spanL f L = s at *
  obtain ⟨lo, hi⟩ := s
  simp only at c1 c2
  rw [c1, c2]
theorem valsL_congr {f g : List Int → Int} {L : List (List Int)} (h : ∀ t ∈ L, f t = g t) : valsL f L = valsL g L := by
  unfold valsL; rw [List.map_congr_left h]
end Go.Proofs
set_option linter.unusedSimpArgs false
set_option linter.unusedVariables false
namespace Go.Proofs
open Go Go.Mu

theorem EarP.values {m n w : Int} {e : Ear} {T : List Int} (h : EarP m n w e T) {i : Nat} (hi : i < e.tones.length) : valuesL e i = (valsL (fun t => tg t i) (truthsL e), 0) := by
  have h0 : oneE e i = 0 := by unfold oneE; rw [if_pos (by omega)]
  have := h.ask h0
  unfold valuesL
  rw [this]; rfl
theorem EarP.higher {m n w : Int} {e : Ear} {T : List Int} (h : EarP m n w e T) {i j : Nat} (hi : i < e.tones.length) (hj : j < e.tones.length) (hij : i ≠ j) :
    higherL e i j = (verd ((truthsL e).filter fun t => decide (tg t j < tg t i)).length (truthsL e).length, 0) := by
  have h0 : ckTwo e.tones.length i j = 0 := by unfold ckTwo; rw [if_neg (by omega), if_neg (by omega)]
  have := h.ask h0
  unfold higherL
  rw [this]; rfl
theorem EarP.beats {m n w : Int} {e : Ear} {T : List Int} (h : EarP m n w e T) {i j : Nat} (hi : i < e.tones.length) (hj : j < e.tones.length) (hij : i ≠ j) {s : Int} (hs : 1 ≤ s ∧ s ≤ 20) :
    beatsL e i j s = (spanL (fun t => dist (tg t i) (tg t j) * s / 100) (truthsL e), 0) := by
  have h1 : ckTwo e.tones.length i j = 0 := by unfold ckTwo; rw [if_neg (by omega), if_neg (by omega)]
  have h0 : ckBeats e.tones.length i j s = 0 := by unfold ckBeats; rw [if_pos h1, if_pos hs]
  have := h.ask h0
  unfold beatsL
  rw [this]; rfl
theorem EarP.within {m n w : Int} {e : Ear} {T : List Int} (h : EarP m n w e T) {i : Nat} (hi : i < e.tones.length) {q : Rng} (hq : q.lo ≤ q.hi) :
    withinL e i q = (verd ((truthsL e).filter (qis i q)).length (truthsL e).length, 0) := by
  have h0 : ckWant e.tones.length i q = 0 := by unfold ckWant; rw [if_neg (by omega), if_neg (by omega)]
  have := h.ask h0
  unfold withinL
  rw [this]; rfl
theorem ends_always {f g : List Int → Int} {L : List (List Int)} (hL : L ≠ []) (h : verd (L.filter fun t => decide (g t < f t)).length L.length = 1) : verd (L.filter fun t => decide (f t < g t)).length L.length = 2 := by
  rw [verd_all hL] at h ⊢
  have ha : (L.all fun t => decide (g t < f t)) = true := by
    apply Classical.byContradiction; intro hn; rw [if_neg hn] at h; split at h <;> cases h
  rw [List.all_eq_true] at ha
  have hb : ¬ (L.any fun t => decide (f t < g t)) = true := fun hn => by
    obtain ⟨t, ht, hp⟩ := List.any_eq_true.1 hn
    have := ha t ht
    simp at this hp; omega
  have hc : ¬ (L.all fun t => decide (f t < g t)) = true := fun hn => by
    obtain ⟨t, ht⟩ := List.exists_mem_of_ne_nil _ hL
    exact hb (List.any_eq_true.2 ⟨t, ht, List.all_eq_true.1 hn t ht⟩)
  rw [if_neg hc, if_neg hb]
theorem verd_never {α : Type} {p : α → Bool} {L : List α} (hL : L ≠ []) (h : verd (L.filter p).length L.length = 2) : ∀ t ∈ L, p t = false := by
  rw [verd_all hL] at h
  intro t ht
  cases hp : p t
  · rfl
  · have : L.any p = true := List.any_eq_true.2 ⟨t, ht, hp⟩
    rw [this] at h
    split at h <;> cases h
theorem ends_never {f g : List Int → Int} {L : List (List Int)} (hL : L ≠ []) (h : verd (L.filter fun t => decide (g t < f t)).length L.length = 2) (h' : verd (L.filter fun t => decide (f t < g t)).length L.length = 2) : ∀ t ∈ L, f t = g t := fun t ht => by
  have := verd_never hL h t ht
  have := verd_never hL h' t ht
  simp at *; omega
theorem truths_tone {e : Ear} (he : OkE e) {t : List Int} (ht : t ∈ truthsL e) {i : Nat} (hi : i < e.tones.length) : (e.tones.getD i default).lo ≤ tg t i ∧ tg t i ≤ (e.tones.getD i default).hi := by
  have hl := he.len
  rw [truthsL_filter, List.mem_filter, mem_allC hl] at ht
  have := ht.1.2 i (by omega)
  rwa [if_pos hi] at this
/-- What the ends of an ear's tones are. -/
structure EndsP (e : Ear) (A : List Rng) (V : Nat → List Int) (H : Nat → Nat → Int) (B : Nat → Nat → Rng) : Prop where
  tones : tonesL e = (A, 0)
  len : A.length = e.tones.length
  vals : ∀ i, i < e.tones.length → valuesL e i = (V i, 0)
  vlen : ∀ i, i < e.tones.length → 0 < (V i).length ∧ (V i).length ≤ 9261
  ends : ∀ i, i < e.tones.length → A[i]? = some ⟨tg (V i) 0, tg (V i) ((V i).length - 1 : Int)⟩
  bnd : ∀ i, i < e.tones.length → 1 ≤ tg (V i) 0 ∧ tg (V i) 0 ≤ tg (V i) ((V i).length - 1 : Int) ∧ tg (V i) ((V i).length - 1 : Int) ≤ 99990
  within : ∀ i, i < e.tones.length → ∀ q : Rng, q.lo ≤ q.hi → withinL e i q = (verd ((V i).filter fun x => decide (q.lo ≤ x ∧ x ≤ q.hi)).length (V i).length, 0)
  higher : ∀ i j, i < e.tones.length → j < e.tones.length → i ≠ j → higherL e i j = (H i j, 0)
  beats : ∀ i j, i < e.tones.length → j < e.tones.length → i ≠ j → beatsL e i j 20 = (B i j, 0)
  always : ∀ i j, H i j = 1 → H j i = 2
  never : ∀ i j, H i j = 2 → H j i = 2 → B i j = ⟨0, 0⟩ ∧ V i = V j
theorem firstsL_len (l : List Int) : (firstsL l).length ≤ l.length := by
  have := addN_len l []
  simpa [firstsL] using this
theorem EarP.ends {m n w : Int} {e : Ear} {T : List Int} (h : EarP m n w e T) (hw : w ≤ 10) : ∃ A V H B, EndsP e A V H B := by
  have he := okE_of_ck h.ck
  have hkn := h.known
  have hn := hkn.2
  have hlen : ∀ f : List Int → Int, (valsL f (truthsL e)).length ≤ 9261 := fun f => by
    have := truthsL_len he
    have h2 := firstsL_len ((truthsL e).map f)
    rw [List.length_map] at h2
    unfold valsL; rw [sortL_len]; omega
  have hpos : ∀ f : List Int → Int, 0 < (valsL f (truthsL e)).length := fun f => List.length_pos_iff.2 (valsL_ne hn)
  have hsp : ∀ f : List Int → Int, spanL f (truthsL e) = ⟨tg (valsL f (truthsL e)) 0, tg (valsL f (truthsL e)) ((valsL f (truthsL e)).length - 1 : Int)⟩ := fun f => by
    have h0 := hpos f
    rw [span_vals hn h0]
    have e1 : ((valsL f (truthsL e)).length - 1 : Int) = (((valsL f (truthsL e)).length - 1 : Nat) : Int) := by omega
    have e0 : (0 : Int) = ((0 : Nat) : Int) := rfl
    rw [e1, tgE (by omega)]
    conv => rhs; rw [e0]
    rw [tgE h0]
  refine ⟨(List.range e.tones.length).map fun (i : Nat) => spanL (fun t => tg t i) (truthsL e), fun i => valsL (fun t => tg t i) (truthsL e), fun i j => verd ((truthsL e).filter fun t => decide (tg t j < tg t i)).length (truthsL e).length, fun i j => spanL (fun t => dist (tg t i) (tg t j) * 20 / 100) (truthsL e), ?_⟩
  constructor
  · unfold tonesL; rw [if_pos (by rw [hkn.1])]
  · simp
  · exact fun i hi => h.values hi
  · exact fun i hi => ⟨hpos _, hlen _⟩
  · intro i hi
    rw [List.getElem?_map, List.getElem?_range hi]
    simp only [Option.map_some]
    rw [hsp]
  · intro i hi
    have hs := hsp fun t => tg t i
    obtain ⟨s1, ⟨t1, m1, e1⟩, ⟨t2, m2, e2⟩⟩ := spanL_spec (num := fun t => tg t i) hn
    have b1 := truths_tone he m1 hi
    have b2 := truths_tone he m2 hi
    have b3 := (s1 t1 m1).2
    have hiT : i < T.length := by rw [← h.len]; exact hi
    have hr := h.rng i hiT hi
    have hb := h.bd T[i] (List.getElem_mem hiT)
    have hg : e.tones.getD i default = e.tones[i] := by simp [List.getD, List.getElem?_eq_getElem hi]
    rw [hg] at b1 b2
    rw [hs] at e1 e2 b3
    simp only at e1 e2 b3
    omega
  · intro i hi q hq
    rw [h.within hi hq, ← verd_vals hn]
    rfl
  · exact fun i j hi hj hij => h.higher hi hj hij
  · exact fun i j hi hj hij => h.beats hi hj hij (by omega)
  · exact fun i j hv => ends_always (f := fun t => tg t i) (g := fun t => tg t j) hn hv
  · intro i j h1 h2
    have hq := ends_never (f := fun t => tg t i) (g := fun t => tg t j) hn h1 h2
    refine ⟨?_, valsL_congr hq⟩
    obtain ⟨s1, ⟨t1, m1, e1⟩, ⟨t2, m2, e2⟩⟩ := spanL_spec (num := fun t => dist (tg t i) (tg t j) * 20 / 100) hn
    generalize spanL (fun t => dist (tg t i) (tg t j) * 20 / 100) (truthsL e) = s at e1 e2 ⊢
    have z1 := hq t1 m1
    have z2 := hq t2 m2
    rw [z1] at e1
    rw [z2] at e2
    obtain ⟨lo, hi⟩ := s
    simp only [dist] at e1 e2
    simp at e1 e2
    subst e1 e2
    rfl
end Go.Proofs
