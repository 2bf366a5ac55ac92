/- Texts of a proof: lemmas. -/
import Derived.Test.YthejgnlikaiddaaDoorPZM
import Derived.Test.YthejgnlikaiddaaDoorPX1
set_option linter.unusedSimpArgs false
set_option linter.unusedVariables false
set_option maxRecDepth 100000
namespace Go.Proofs
open Go Go.Mu

/-! About how many features somebody has to find out: plain part. -/
def valF (f : Int) (T : List Made) : List Int := valuesZ (fun m : Made => tg m.look f) T
def partL (T : List Made) (f v : Int) : List Made := T.filter fun m => decide (tg m.look f = v)
def modN (T : List Made) : Nat := (valuesZ Made.model T).length
def worstF (g : List Made → Nat) (T : List Made) (f : Int) : Nat := ((valF f T).map fun v => g (partL T f v)).foldl max 0
def needS (g : List Made → Nat) (T : List Made) (b : Nat) (f : Int) : Nat := if b = 0 ∨ (valF f T).length = 1 then b else min b (worstF g T f + 1)
def needF : Nat → List Int → List Made → Nat
  | 0, _, _ => 0
  | n + 1, F, T => F.foldl (needS (needF n F) T) (if modN T = 1 then 0 else 5)
def needL (F : List Int) (T : List Made) : Nat := needF T.length F T
theorem valF_mem {f : Int} {T : List Made} {v : Int} : v ∈ valF f T ↔ ∃ m ∈ T, tg m.look f = v := valuesZ_mem
theorem partL_ne {T : List Made} {f v : Int} (h : v ∈ valF f T) : partL T f v ≠ [] := by
  obtain ⟨m, hm, e⟩ := valF_mem.1 h
  exact List.ne_nil_of_mem (List.mem_filter.2 ⟨hm, decide_eq_true e⟩)
theorem partL_lt {T : List Made} {f v : Int} (hl : (valF f T).length ≠ 1) (h : v ∈ valF f T) : (partL T f v).length < T.length := by
  rcases Nat.lt_or_ge (partL T f v).length T.length with h1 | h1
  · exact h1
  · exfalso
    have hle : (partL T f v).length ≤ T.length := List.length_filter_le _ _
    have heq : (partL T f v).length = T.length := by omega
    have hall : ∀ m ∈ T, tg m.look f = v := fun m hm => of_decide_eq_true ((List.length_filter_eq_length_iff.1 heq) m hm)
    apply hl
    have : valF f T = [v] := sorted_ext valuesZ_lt (List.pairwise_singleton _ _) fun x => by
      rw [valF_mem, List.mem_singleton]
      constructor
      · rintro ⟨m, hm, rfl⟩; exact hall m hm
      · rintro rfl; obtain ⟨m, hm, e⟩ := valF_mem.1 h; exact ⟨m, hm, e⟩
    rw [this]; rfl
theorem worstF_congr {g g' : List Made → Nat} {T : List Made} {f : Int} (h : ∀ v ∈ valF f T, g (partL T f v) = g' (partL T f v)) : worstF g T f = worstF g' T f := by
  unfold worstF; rw [List.map_congr_left h]
theorem needS_congr {g g' : List Made → Nat} {T : List Made} {F : List Int} (h : ∀ f ∈ F, (valF f T).length ≠ 1 → ∀ v ∈ valF f T, g (partL T f v) = g' (partL T f v)) : ∀ b, F.foldl (needS g T) b = F.foldl (needS g' T) b := by
  induction F with
  | nil => intro b; rfl
  | cons f F ih =>
    intro b
    rw [List.foldl_cons, List.foldl_cons]
    have e : needS g T b f = needS g' T b f := by
      unfold needS
      by_cases h1 : b = 0 ∨ (valF f T).length = 1
      · rw [if_pos h1, if_pos h1]
      · rw [if_neg h1, if_neg h1, worstF_congr (h f (by simp) fun e => h1 (.inr e))]
    rw [e]; exact ih (fun f' hf' => h f' (List.mem_cons_of_mem _ hf')) _
theorem needF_eq {F : List Int} : ∀ n (T : List Made), T ≠ [] → T.length ≤ n → needF n F T = needF T.length F T := by
  intro n
  induction n using Nat.strongRecOn with
  | _ n ih =>
    intro T hT hn
    obtain ⟨k, hk⟩ : ∃ k, T.length = k + 1 := ⟨T.length - 1, by have := List.length_pos_iff.2 hT; omega⟩
    rw [hk]
    obtain ⟨n, rfl⟩ : ∃ n', n = n' + 1 := ⟨n - 1, by omega⟩
    simp only [needF]
    refine needS_congr (fun f _ hl v hv => ?_) _
    have h1 := partL_lt hl hv
    have h2 := partL_ne hv
    rw [ih n (by omega) _ h2 (by omega)]
    by_cases hkn : k = n
    · subst hkn; rw [ih k (by omega) _ h2 (by omega)]
    · rw [ih k (by omega) _ h2 (by omega)]
theorem needL_eq {F : List Int} {T : List Made} (hT : T ≠ []) : needL F T = F.foldl (needS (needL F) T) (if modN T = 1 then 0 else 5) := by
  obtain ⟨k, hk⟩ : ∃ k, T.length = k + 1 := ⟨T.length - 1, by have := List.length_pos_iff.2 hT; omega⟩
  unfold needL
  rw [hk]
  simp only [needF]
  refine needS_congr (fun f _ hl v hv => ?_) _
  have h1 := partL_lt hl hv
  exact needF_eq k _ (partL_ne hv) (by omega)
theorem needS_le {g : List Made → Nat} {T : List Made} {F : List Int} : ∀ b, b ≤ 5 → F.foldl (needS g T) b ≤ 5 := by
  induction F with
  | nil => intro b hb; exact hb
  | cons f F ih =>
    intro b hb
    rw [List.foldl_cons]
    refine ih _ ?_
    unfold needS; split
    · exact hb
    · omega
theorem needL_le {F : List Int} {T : List Made} : needL F T ≤ 5 := by
  by_cases hT : T = []
  · subst hT; exact Nat.zero_le _
  · rw [needL_eq hT]; exact needS_le _ (by split <;> omega)
/-- The truths that a number's bits choose. -/
def selL (L : List Made) (now : Nat) : List Made := (L.zipIdx.filter fun q => now.testBit q.2).map (·.1)
theorem zip_mem {L : List Made} {q : Made × Nat} (h : q ∈ L.zipIdx) : ∃ h2 : q.2 < L.length, L[q.2] = q.1 := by
  obtain ⟨i, hi, rfl⟩ := List.mem_iff_getElem.1 h
  rw [List.length_zipIdx] at hi
  exact ⟨by simpa using hi, by simp⟩
theorem selL_whole {L : List Made} : selL L (2 ^ L.length - 1) = L := by
  unfold selL
  rw [List.filter_eq_self.2 fun q hq => by obtain ⟨h, _⟩ := zip_mem hq; rw [Nat.testBit_two_pow_sub_one]; simpa using h]
  simp [List.zipIdx_map_fst]
theorem selL_len {L : List Made} {now : Nat} : (selL L now).length ≤ L.length := by
  unfold selL
  rw [List.length_map]
  refine Nat.le_trans (List.length_filter_le _ _) ?_
  rw [List.length_zipIdx]; exact Nat.le_refl _
/-- The map of what is left, told by bits. -/
structure LkG (L : List Made) (now : Nat) (f : Int) (k : Nat) (m : List (Int × Nat)) : Prop where
  nd : (m.map (·.1)).Nodup
  bit : ∀ p ∈ m, p.2 < 2 ^ k ∧ ∀ i (h : i < L.length), p.2.testBit i = (decide (i < k) && now.testBit i && decide (tg L[i].look f = p.1))
  key : ∀ v, v ∈ m.map (·.1) ↔ ∃ i, ∃ h : i < L.length, i < k ∧ now.testBit i = true ∧ tg L[i].look f = v
theorem LkG.step {L : List Made} {now : Nat} {f : Int} {k : Nat} {m : List (Int × Nat)} (h : LkG L now f k m) (hk : k < L.length) : LkG L now f (k + 1) (lookS now f m (L[k], k)) := by
  have hlt : (2 : Nat) ^ k < 2 ^ (k + 1) := by rw [Nat.pow_succ]; have := Nat.one_le_two_pow (n := k); omega
  unfold lookS
  simp only
  cases hb : now.testBit k
  · rw [if_neg (by simp)]
    refine ⟨h.nd, fun p hp => ⟨by have := (h.bit p hp).1; omega, fun i hi => ?_⟩, fun v => ?_⟩
    · rw [(h.bit p hp).2 i hi]
      by_cases e : i = k
      · subst e; simp [hb]
      · rw [show decide (i < k + 1) = decide (i < k) by rw [Bool.eq_iff_iff]; simp; omega]
    · rw [h.key]
      constructor
      · rintro ⟨i, hi, h1, h2, h3⟩; exact ⟨i, hi, by omega, h2, h3⟩
      · rintro ⟨i, hi, h1, h2, h3⟩
        by_cases e : i = k
        · subst e; rw [hb] at h2; cases h2
        · exact ⟨i, hi, by omega, h2, h3⟩
  · rw [if_pos rfl]
    have hg : (mget m (tg L[k].look f)).getD 0 < 2 ^ k ∧ ∀ i (hi : i < L.length), ((mget m (tg L[k].look f)).getD 0).testBit i = (decide (i < k) && now.testBit i && decide (tg L[i].look f = tg L[k].look f)) := by
      cases hgm : mget m (tg L[k].look f) with
      | none =>
        have hn := mget_none.1 hgm
        rw [h.key] at hn
        refine ⟨Nat.two_pow_pos _, fun i hi => ?_⟩
        simp only [Option.getD_none, Nat.zero_testBit]
        symm
        rw [Bool.eq_false_iff]
        intro hc
        simp only [Bool.and_eq_true, decide_eq_true_eq] at hc
        exact hn ⟨i, hi, hc.1.1, hc.1.2, hc.2⟩
      | some b => exact h.bit _ (mget_mem hgm)
    refine ⟨mset_nodup h.nd, fun p hp => ?_, fun v => ?_⟩
    · rcases mset_other h.nd hp with rfl | ⟨h1, h2⟩
      · refine ⟨Nat.or_lt_two_pow (by omega) hlt, fun i hi => ?_⟩
        simp only
        rw [Nat.testBit_or, hg.2 i hi, Nat.testBit_two_pow]
        by_cases e : i = k
        · subst e; simp [hb]
        · rw [show decide (i < k + 1) = decide (i < k) by rw [Bool.eq_iff_iff]; simp; omega, show decide (k = i) = false from decide_eq_false (fun e' => e e'.symm), Bool.or_false]
      · refine ⟨by have := (h.bit p h1).1; omega, fun i hi => ?_⟩
        rw [(h.bit p h1).2 i hi]
        by_cases e : i = k
        · subst e; rw [show decide (tg L[i].look f = p.1) = false from decide_eq_false (fun e' => h2 e'.symm)]; simp
        · rw [show decide (i < k + 1) = decide (i < k) by rw [Bool.eq_iff_iff]; simp; omega]
    · rw [mset_keys, h.key]
      constructor
      · rintro (rfl | ⟨i, hi, h1, h2, h3⟩)
        · exact ⟨k, hk, by omega, hb, rfl⟩
        · exact ⟨i, hi, by omega, h2, h3⟩
      · rintro ⟨i, hi, h1, h2, h3⟩
        by_cases e : i = k
        · subst e; exact .inl h3.symm
        · exact .inr ⟨i, hi, by omega, h2, h3⟩
theorem looksG_inv {L : List Made} {now : Nat} {f : Int} : ∀ i, i ≤ L.length → LkG L now f i ((L.zipIdx.take i).foldl (lookS now f) [])
  | 0, _ => ⟨by simp, by simp, fun v => by simp⟩
  | i + 1, hi => by
    have hz : i < L.zipIdx.length := by rw [List.length_zipIdx]; omega
    have hzi : L.zipIdx[i] = (L[i], i) := by simp
    have ih := looksG_inv (L := L) (now := now) (f := f) i (by omega)
    rw [foldl_take _ _ _ _ hz, hzi]
    exact ih.step (by omega)
theorem looksG {L : List Made} {now : Nat} {f : Int} : LkG L now f L.length (looksM now L f) := by
  have := looksG_inv (L := L) (now := now) (f := f) L.length (Nat.le_refl _)
  have e : L.zipIdx.take L.length = L.zipIdx := List.take_of_length_le (Nat.le_of_eq List.length_zipIdx)
  rwa [e] at this
theorem selL_mem {L : List Made} {now : Nat} {x : Made} : x ∈ selL L now ↔ ∃ i, ∃ h : i < L.length, now.testBit i = true ∧ L[i] = x := by
  unfold selL
  rw [List.mem_map]
  constructor
  · rintro ⟨q, hq, rfl⟩
    obtain ⟨h1, h2⟩ := List.mem_filter.1 hq
    obtain ⟨h3, h4⟩ := zip_mem h1
    exact ⟨q.2, h3, h2, h4⟩
  · rintro ⟨i, h, hb, rfl⟩
    refine ⟨(L[i], i), List.mem_filter.2 ⟨?_, hb⟩, rfl⟩
    exact List.mem_iff_getElem.2 ⟨i, by rw [List.length_zipIdx]; exact h, by simp⟩
/-- Each part that the map has is the part of the list. -/
theorem looksG_part {L : List Made} {now : Nat} {f : Int} {p : Int × Nat} (hp : p ∈ looksM now L f) : selL L p.2 = partL (selL L now) f p.1 := by
  have h := (looksG (L := L) (now := now) (f := f)).bit p hp
  unfold selL partL
  rw [List.filter_map, List.filter_filter]
  congr 1
  refine List.filter_congr fun q hq => ?_
  obtain ⟨h3, h4⟩ := zip_mem hq
  rw [h.2 q.2 h3, h4, decide_eq_true h3]
  simp [Bool.and_comm]
theorem looksG_keys {L : List Made} {now : Nat} {f v : Int} : v ∈ (looksM now L f).map (·.1) ↔ v ∈ valF f (selL L now) := by
  rw [(looksG (L := L) (now := now) (f := f)).key, valF_mem]
  constructor
  · rintro ⟨i, hi, _, hb, rfl⟩; exact ⟨L[i], selL_mem.2 ⟨i, hi, hb, rfl⟩, rfl⟩
  · rintro ⟨m, hm, rfl⟩
    obtain ⟨i, hi, hb, rfl⟩ := selL_mem.1 hm
    exact ⟨i, hi, hi, hb, rfl⟩
theorem nodup_len {a b : List Int} (ha : a.Nodup) (hb : b.Nodup) (h : ∀ x, x ∈ a ↔ x ∈ b) : a.length = b.length := by
  exact ((List.perm_ext_iff_of_nodup ha hb).2 h).length_eq
theorem sorted_nodup {l : List Int} (h : l.Pairwise (· < ·)) : l.Nodup := h.imp fun h => by omega
theorem looksG_len {L : List Made} {now : Nat} {f : Int} : (looksM now L f).length = (valF f (selL L now)).length := by
  have h := nodup_len (looksG (L := L) (now := now) (f := f)).nd (sorted_nodup (valuesZ_lt (num := fun m : Made => tg m.look f) (l := selL L now))) (fun x => looksG_keys)
  rwa [List.length_map] at h
/-- The worst part, over the map. -/
theorem worst_map {L : List Made} {now : Nat} {f : Int} {g : List Made → Nat} : ((looksM now L f).map fun p => g (selL L p.2)).foldl max 0 = worstF g (selL L now) f := by
  have hG := looksG (L := L) (now := now) (f := f)
  unfold worstF
  apply Nat.le_antisymm
  · rcases foldl_max_mem (l := (looksM now L f).map fun p => g (selL L p.2)) (b := 0) with h | h
    · rw [h]; exact Nat.zero_le _
    · obtain ⟨p, hp, he⟩ := List.mem_map.1 h
      rw [← he, looksG_part hp]
      exact foldl_max_le (.inl (List.mem_map.2 ⟨p.1, looksG_keys.1 (List.mem_map.2 ⟨p, hp, rfl⟩), rfl⟩))
  · rcases foldl_max_mem (l := (valF f (selL L now)).map fun v => g (partL (selL L now) f v)) (b := 0) with h | h
    · rw [h]; exact Nat.zero_le _
    · obtain ⟨v, hv, he⟩ := List.mem_map.1 h
      obtain ⟨p, hp, rfl⟩ := List.mem_map.1 (looksG_keys.2 hv)
      rw [← he, ← looksG_part hp]
      exact foldl_max_le (.inl (List.mem_map.2 ⟨p, hp, rfl⟩))
end Go.Proofs
