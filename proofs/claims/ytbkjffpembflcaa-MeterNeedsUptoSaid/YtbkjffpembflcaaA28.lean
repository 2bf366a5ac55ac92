/- Texts of a proof: lemmas. -/
import Derived.Test.YtbkjffpembflcaaA27
set_option linter.unusedSimpArgs false
set_option linter.unusedVariables false
set_option maxRecDepth 100000
namespace Go.Proofs
open Go Go.Mu

/-- Whether readings are true of some tones. -/
def fitsR (sl : Int) (rs : List Rd) (t : List Int) : Bool := rs.all fun r => isR r sl t
/-- All tones of tongues. -/
def allC (ts : List Rng) : List (List Int) := truthsL ⟨0, ts, []⟩
theorem allT_filter (sl sl' : Int) (ts : List Rng) (rs : List Rd) : ∀ (m : Nat) (t : List Int) (a : Nat), allT ⟨sl, ts, rs⟩ m t a = (allT ⟨sl', ts, []⟩ m t a).filter (fitsR sl rs)
  | 0, t, a => by
    simp only [allT, List.all_nil, if_true]
    by_cases h : (rs.all fun r => isR r sl t) = true
    · rw [if_pos h]; simp [fitsR, h]
    · rw [if_neg h]; simp [fitsR, h]
  | m + 1, t, a => by
    simp only [allT, List.filter_flatMap]
    congr 1
    funext k
    exact allT_filter sl sl' ts rs m _ _
theorem truthsL_filter (e : Ear) : truthsL e = (allC e.tones).filter (fitsR e.slack e.rds) := allT_filter e.slack 0 e.tones e.rds _ _ _
theorem fitsR_append {sl : Int} {a b : List Rd} {t : List Int} : fitsR sl (a ++ b) t = (fitsR sl a t && fitsR sl b t) := by simp [fitsR]
/-- One reading more. -/
theorem truthsL_more (sl : Int) (ts : List Rng) (rs : List Rd) (r : Rd) : truthsL ⟨sl, ts, rs ++ [r]⟩ = (truthsL ⟨sl, ts, rs⟩).filter (isR r sl) := by
  rw [truthsL_filter, truthsL_filter, List.filter_filter]
  congr 1
  funext t
  rw [fitsR_append, Bool.and_comm]
  congr 1
  simp [fitsR]
theorem tg_setI {t : List Int} {a : Nat} {x : Int} (h : a < t.length) (i : Nat) : tg (setI t a x) i = if i = a then x else tg t i := by
  simp only [tg, setI, List.getD, Int.toNat_natCast, List.getElem?_set]
  by_cases e : a = i
  · subst e; simp [h]
  · rw [if_neg e, if_neg (fun h => e h.symm)]
/-- Which tones are gone through. -/
theorem mem_allT (ts : List Rng) : ∀ (m : Nat) (t : List Int) (a : Nat), a + m = ts.length → ts.length ≤ t.length → ∀ u, u ∈ allT ⟨0, ts, []⟩ m t a ↔ u.length = t.length ∧ ∀ i, (h : i < t.length) → if a ≤ i ∧ i < ts.length then (ts.getD i default).lo ≤ tg u i ∧ tg u i ≤ (ts.getD i default).hi else tg u i = tg t i
  | 0, t, a, ha, hl, u => by
    simp only [allT, List.all_nil, if_true, List.mem_singleton]
    constructor
    · rintro rfl
      refine ⟨rfl, fun i h => ?_⟩
      rw [if_neg (by omega)]
    · rintro ⟨h1, h2⟩
      apply List.ext_getElem h1
      intro i h3 h4
      have := h2 i h4
      rw [if_neg (by omega), tgE h3, tgE h4] at this
      exact this
  | m + 1, t, a, ha, hl, u => by
    simp only [allT, List.mem_flatMap, List.mem_range]
    have hat : a < t.length := by omega
    constructor
    · rintro ⟨k, hk, hu⟩
      obtain ⟨h1, h2⟩ := (mem_allT ts m _ (a + 1) (by omega) (by rw [setI_len]; exact hl) u).1 hu
      rw [setI_len] at h1
      refine ⟨h1, fun i h => ?_⟩
      have := h2 i (by rw [setI_len]; exact h)
      rw [tg_setI hat] at this
      by_cases e : i = a
      · subst e
        rw [if_neg (by omega), if_pos rfl] at this
        rw [if_pos (by omega)]
        omega
      · rw [if_neg e] at this
        by_cases h3 : a ≤ i ∧ i < ts.length
        · rw [if_pos h3]; rw [if_pos (by omega)] at this; exact this
        · rw [if_neg h3]; rw [if_neg (by omega)] at this; exact this
    · rintro ⟨h1, h2⟩
      have h3 := h2 a hat
      rw [if_pos (by omega)] at h3
      refine ⟨(tg u a - (ts.getD a default).lo).toNat, by omega, ?_⟩
      rw [Int.toNat_of_nonneg (by omega)]
      refine (mem_allT ts m _ (a + 1) (by omega) (by rw [setI_len]; exact hl) u).2 ⟨by rw [setI_len]; exact h1, fun i h => ?_⟩
      rw [setI_len] at h
      have := h2 i h
      rw [tg_setI hat]
      by_cases e : i = a
      · subst e; rw [if_neg (by omega), if_pos rfl]; omega
      · rw [if_neg e]
        by_cases h3 : a ≤ i ∧ i < ts.length
        · rw [if_pos h3] at this; rw [if_pos (by omega)]; exact this
        · rw [if_neg h3] at this; rw [if_neg (by omega)]; exact this
theorem mem_allC {ts : List Rng} (hl : ts.length ≤ 3) (u : List Int) : u ∈ allC ts ↔ u.length = 3 ∧ ∀ i, i < 3 → if i < ts.length then (ts.getD i default).lo ≤ tg u i ∧ tg u i ≤ (ts.getD i default).hi else tg u i = 0 := by
  unfold allC truthsL
  rw [mem_allT ts ts.length [0, 0, 0] 0 (by omega) hl u]
  have hz : ∀ i, i < 3 → tg [0, 0, 0] (i : Nat) = 0 := fun i h => by
    rcases (by omega : i = 0 ∨ i = 1 ∨ i = 2) with rfl | rfl | rfl <;> rfl
  constructor
  · rintro ⟨h1, h2⟩
    refine ⟨h1, fun i h => ?_⟩
    have := h2 i h
    rw [hz i h] at this
    by_cases h3 : i < ts.length
    · rw [if_pos h3]; rw [if_pos ⟨Nat.zero_le _, h3⟩] at this; exact this
    · rw [if_neg h3]; rw [if_neg (by omega)] at this; exact this
  · rintro ⟨h1, h2⟩
    refine ⟨h1, fun i h => ?_⟩
    have := h2 i h
    rw [hz i h]
    by_cases h3 : i < ts.length
    · rw [if_pos h3] at this; rw [if_pos ⟨Nat.zero_le _, h3⟩]; exact this
    · rw [if_neg h3] at this; rw [if_neg (by omega)]; exact this
/-- Tones for all places. -/
def padT (T : List Int) : List Int := T ++ List.replicate (3 - T.length) 0
theorem tg_pad (T : List Int) (i : Int) : tg (padT T) i = tg T i := by
  unfold tg padT
  simp only [List.getD, List.getElem?_append, List.getElem?_replicate]
  split
  · rfl
  · rename_i h
    rw [List.getElem?_eq_none (by omega)]
    split <;> rfl
theorem isR_pad (r : Rd) (sl : Int) (T : List Int) : isR r sl (padT T) = isR r sl T := by simp only [isR, tg_pad]
/-- What is true is a truth. -/
theorem EarP.truth {m n w : Int} {e : Ear} {T : List Int} (h : EarP m n w e T) : padT T ∈ truthsL e := by
  have he := okE_of_ck h.ck
  have hl := he.len
  have h1 := h.len
  rw [truthsL_filter, List.mem_filter]
  refine ⟨(mem_allC hl _).2 ⟨by simp [padT]; omega, fun i hi => ?_⟩, ?_⟩
  · rw [tg_pad]
    by_cases h3 : i < e.tones.length
    · rw [if_pos h3, tgE (by omega)]
      have := h.rng i (by omega) h3
      simp only [List.getD, List.getElem?_eq_getElem h3, Option.getD_some]
      omega
    · rw [if_neg h3]
      simp only [tg, List.getD, Int.toNat_natCast]
      rw [List.getElem?_eq_none (by omega)]; rfl
  · unfold fitsR
    rw [List.all_eq_true]
    intro r hr
    rw [isR_pad]; exact h.rd r hr
theorem EarP.known {m n w : Int} {e : Ear} {T : List Int} (h : EarP m n w e T) : knownL e = (truthsL e, 0) ∧ truthsL e ≠ [] := by
  have hn : truthsL e ≠ [] := fun hn => by have := h.truth; rw [hn] at this; cases this
  unfold knownL
  rw [if_neg (by rw [h.ck]; simp), if_neg hn]
  exact ⟨rfl, hn⟩

/-- Where a number stands among outcomes. -/
def outG (m : List (Int × List (List Int))) (c : Int) : List (List Int) := (mget m c).getD []
theorem fIdx_shift {α : Type} {c : Int} : ∀ (m : List (Int × α)) (i j : Nat), (fIdx c m i).map (·.2) = (fIdx c m j).map (·.2)
  | [], _, _ => rfl
  | q :: m, i, j => by simp only [fIdx]; split; rfl; exact fIdx_shift m _ _
theorem mget_cons {α : Type} {c k : Int} {v : α} {m : List (Int × α)} : mget ((k, v) :: m) c = if c = k then some v else mget m c := by
  unfold mget
  simp only [fIdx]
  by_cases e : c = k
  · simp [e]
  · rw [if_neg e, if_neg e]; exact fIdx_shift m _ _
theorem mget_app {α : Type} {c k : Int} {v : α} : ∀ {m : List (Int × α)}, mget m k = none → mget (m ++ [(k, v)]) c = if c = k then some v else mget m c
  | [], _ => by simp [mget_cons, mget, fIdx]
  | (k', v') :: m, h => by
    rw [mget_cons] at h
    rw [List.cons_append, mget_cons, mget_cons]
    by_cases e : k = k'
    · rw [if_pos e] at h; cases h
    · rw [if_neg e] at h
      rw [mget_app h]
      by_cases e2 : c = k'
      · rw [if_pos e2, if_pos e2, if_neg (fun e3 => e (e3.symm.trans e2))]
      · rw [if_neg e2, if_neg e2]
theorem mget_set' {α : Type} {c k : Int} {v w : α} : ∀ {m : List (Int × α)} {i j : Nat}, fIdx k m i = some (j, w) → mget (m.set (j - i) (k, v)) c = if c = k then some v else mget m c
  | [], _, _, h => by cases h
  | (k', v') :: m, i, j, h => by
    simp only [fIdx] at h
    by_cases e : k = k'
    · rw [if_pos e] at h
      simp at h
      obtain ⟨rfl, rfl⟩ := h
      subst e
      rw [Nat.sub_self, List.set_cons_zero, mget_cons, mget_cons]
      split <;> rfl
    · rw [if_neg e] at h
      have hj := (fIdx_get h).1
      have ih := mget_set' (c := c) (v := v) h
      obtain ⟨d, rfl⟩ : ∃ d, j = i + 1 + d := ⟨j - (i + 1), by omega⟩
      have e1 : i + 1 + d - i = d + 1 := by omega
      have e2 : i + 1 + d - (i + 1) = d := by omega
      rw [e2] at ih
      rw [e1, List.set_cons_succ, mget_cons, mget_cons, ih]
      by_cases e3 : c = k'
      · rw [if_pos e3, if_pos e3, if_neg (fun e4 => e (e4.symm.trans e3))]
      · rw [if_neg e3, if_neg e3]
theorem mget_mset' {α : Type} {m : List (Int × α)} {k c : Int} {v : α} : mget (mset m k v) c = if c = k then some v else mget m c := by
  unfold mset
  cases hf : fIdx k m 0 with
  | none => exact mget_app (by unfold mget; rw [hf]; rfl)
  | some q => obtain ⟨j, w⟩ := q; exact mget_set' hf
theorem outG_push {t : List Int} {m : List (Int × List (List Int))} {k c : Int} : outG (pushO t m k) c = if c = k then outG m k ++ [t] else outG m c := by
  unfold outG pushO
  rw [mget_mset']
  split <;> rfl
theorem outG_pushes {t : List Int} {c : Int} : ∀ {ks : List Int} {m : List (Int × List (List Int))}, ks.Nodup → outG (ks.foldl (pushO t) m) c = outG m c ++ (if c ∈ ks then [t] else [])
  | [], m, _ => by simp
  | k :: ks, m, h => by
    rw [List.nodup_cons] at h
    rw [List.foldl_cons, outG_pushes h.2, outG_push]
    by_cases e : c = k
    · subst e; simp [h.1]
    · simp [e]
theorem outG_all {r : Rd} {sl c : Int} (hn : ∀ t, (showsL r sl t).Nodup) : ∀ {l : List (List Int)} {m : List (Int × List (List Int))}, outG (l.foldl (outS r sl) m) c = outG m c ++ l.filter fun t => decide (c ∈ showsL r sl t)
  | [], m => by simp
  | t :: l, m => by
    rw [List.foldl_cons, outG_all hn, outS, outG_pushes (hn t), List.filter_cons]
    by_cases e : c ∈ showsL r sl t
    · simp [e]
    · simp [e]
theorem nodup_map_inj {α β : Type} {f : α → β} (hf : ∀ a b, f a = f b → a = b) : ∀ {l : List α}, l.Nodup → (l.map f).Nodup
  | [], _ => List.nodup_nil
  | a :: l, h => by
    rw [List.nodup_cons] at h
    rw [List.map_cons, List.nodup_cons]
    refine ⟨fun hm => ?_, nodup_map_inj hf h.2⟩
    obtain ⟨b, hb, e⟩ := List.mem_map.1 hm
    exact h.1 (hf _ _ e ▸ hb)
theorem showsL_nodup (r : Rd) (sl : Int) (t : List Int) : (showsL r sl t).Nodup := by
  unfold showsL
  split
  · unfold outAt
    exact List.Pairwise.filter _ (nodup_map_inj (fun a b h => by omega) List.nodup_range)
  · split <;> simp
/-- The truths that an outcome leaves. -/
def outO (r : Rd) (sl : Int) (l : List (List Int)) (c : Int) : List (List Int) := l.filter fun t => decide (c ∈ showsL r sl t)
theorem outG_eq (r : Rd) (sl : Int) (l : List (List Int)) (c : Int) : outG (outcomesL r sl l) c = outO r sl l c := by
  unfold outcomesL
  rw [outG_all (showsL_nodup r sl)]; rfl
theorem mset_keys {α : Type} {m : List (Int × α)} {k : Int} {v : α} (h : (m.map (·.1)).Nodup) : ((mset m k v).map (·.1)).Nodup := by
  unfold mset
  cases hf : fIdx k m 0 with
  | none =>
    simp only [List.map_append, List.map_cons, List.map_nil]
    rw [List.nodup_append]
    refine ⟨h, by simp, fun a ha b hb => ?_⟩
    simp at hb; subst hb
    rintro rfl
    obtain ⟨p, hp, rfl⟩ := List.mem_map.1 ha
    exact absurd hf (by
      have : ∀ (m : List (Int × α)) (i : Nat), p ∈ m → fIdx p.1 m i ≠ none := by
        intro m
        induction m with
        | nil => intro i h; cases h
        | cons q m ih =>
          intro i h
          simp only [fIdx]
          split
          · simp
          · rename_i hne
            rcases List.mem_cons.1 h with rfl | h
            · exact absurd rfl hne
            · exact ih _ h
      exact this m 0 hp)
  | some q =>
    obtain ⟨j, w⟩ := q
    have hj := fIdx_get hf
    simp only [Nat.sub_zero] at hj
    have : (m.set j (k, v)).map (·.1) = m.map (·.1) := by
      rw [List.map_set]
      apply List.ext_getElem?
      intro i
      rw [List.getElem?_set]
      by_cases e : j = i
      · subst e
        obtain ⟨h1, h2⟩ := List.getElem?_eq_some_iff.1 hj.2
        simp [h1, h2]
      · simp [e]
    simp only
    rw [this]; exact h
theorem outcomes_keys {r : Rd} {sl : Int} {l : List (List Int)} : ((outcomesL r sl l).map (·.1)).Nodup := by
  unfold outcomesL
  have key : ∀ (l : List (List Int)) (m : List (Int × List (List Int))), (m.map (·.1)).Nodup → ((l.foldl (outS r sl) m).map (·.1)).Nodup := by
    intro l
    induction l with
    | nil => intro m h; exact h
    | cons t l ih =>
      intro m h
      refine ih _ ?_
      unfold outS
      generalize showsL r sl t = ks
      clear ih
      induction ks generalizing m with
      | nil => exact h
      | cons k ks ih => exact ih _ (mset_keys h)
  exact key l [] List.nodup_nil
theorem mget_of_mem {α : Type} : ∀ {m : List (Int × α)} {p : Int × α}, (m.map (·.1)).Nodup → p ∈ m → mget m p.1 = some p.2
  | q :: m, p, h, hp => by
    obtain ⟨k, v⟩ := q
    rw [List.map_cons, List.nodup_cons] at h
    simp only [mget, fIdx]
    rcases List.mem_cons.1 hp with rfl | hp'
    · simp
    · have hne : p.1 ≠ k := fun e => h.1 (e ▸ List.mem_map.2 ⟨p, hp', rfl⟩)
      rw [if_neg hne]
      have ih := mget_of_mem h.2 hp'
      unfold mget at ih
      have hs : ∀ (m : List (Int × α)) (i j : Nat), (fIdx p.1 m i).map (·.2) = (fIdx p.1 m j).map (·.2) := by
        intro m
        induction m with
        | nil => intro i j; rfl
        | cons q m ih => intro i j; simp only [fIdx]; split; rfl; exact ih _ _
      rw [hs m 1 0]; exact ih
/-- WHAT OUTCOMES ARE: of each number that is shown, the truths of which it is. -/
theorem outcomes_iff {r : Rd} {sl : Int} {l : List (List Int)} {p : Int × List (List Int)} : p ∈ outcomesL r sl l ↔ p.2 = outO r sl l p.1 ∧ p.2 ≠ [] := by
  constructor
  · intro h
    have h1 := mget_of_mem outcomes_keys h
    have h2 := outG_eq r sl l p.1
    unfold outG at h2
    rw [h1] at h2
    exact ⟨h2, (outcomes_sub p h).1⟩
  · rintro ⟨h1, h2⟩
    have h3 := outG_eq r sl l p.1
    unfold outG at h3
    cases hg : mget (outcomesL r sl l) p.1 with
    | none => rw [hg] at h3; rw [← h3] at h1; exact absurd h1 h2
    | some v =>
      rw [hg] at h3
      simp only [Option.getD_some] at h3
      have := mget_mem hg
      rw [h3, ← h1] at this
      exact this
theorem outcomes_all {r : Rd} {sl : Int} {l : List (List Int)} {f : List (List Int) → Bool} : ((outcomesL r sl l).all fun p => f p.2) = true ↔ ∀ c, outO r sl l c ≠ [] → f (outO r sl l c) = true := by
  rw [List.all_eq_true]
  constructor
  · intro h c hc
    exact h (c, outO r sl l c) (outcomes_iff.2 ⟨rfl, hc⟩)
  · intro h p hp
    obtain ⟨h1, h2⟩ := outcomes_iff.1 hp
    rw [h1]; exact h p.1 (h1 ▸ h2)
/-- What a count shows. -/
theorem mem_shows_count {r : Rd} {sl c : Int} {t : List Int} (hk : r.kind = 1) (hsl : 0 ≤ sl) (hn : 0 ≤ tg t r.a * r.sec) : c ∈ showsL r sl t ↔ (0 ≤ c ∧ c ≤ 25000) ∧ isR (withS r c) sl t = true := by
  unfold showsL
  rw [if_pos hk]
  unfold outAt
  rw [List.mem_filter, List.mem_map]
  have hi : isR (withS r c) sl t = true ↔ 100 * (c - 1 - sl) < tg t r.a * r.sec ∧ tg t r.a * r.sec < 100 * (c + 1 + sl) := by
    simp only [isR, withS, hk, if_true, decide_eq_true_eq]
  rw [hi]
  generalize tg t r.a * r.sec = n at hn ⊢
  simp only [List.mem_range, cLo, cHi, mx, mn]
  constructor
  · rintro ⟨⟨k, h1, h2⟩, h3⟩
    refine ⟨?_, h3⟩
    split at h1 <;> split at h1 <;> split at h2 <;> omega
  · rintro ⟨h1, h2⟩
    refine ⟨⟨(c - (if 0 < n / 100 - sl - 1 then n / 100 - sl - 1 else 0)).toNat, ?_, ?_⟩, h2⟩
    · split <;> split <;> omega
    · split <;> omega
end Go.Proofs
