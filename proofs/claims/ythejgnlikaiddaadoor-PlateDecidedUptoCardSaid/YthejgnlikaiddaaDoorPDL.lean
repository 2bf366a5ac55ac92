/- Texts of a proof: lemmas. -/
import Derived.Test.YthejgnlikaiddaaDoorPNP
set_option linter.unusedSimpArgs false
set_option linter.unusedVariables false
set_option maxRecDepth 100000
namespace Go.Proofs
open Go Go.Mu

/-! PlateDecided: plain part. -/
theorem changedN_put {x S : List Int} {f : Nat} {v : Int} (hf : f < S.length) (hs : tg S f = 0) : changedN x (S.set f v) = changedN x S + if 0 < v ∧ v ≠ tg x f then 1 else 0 := by
  have h1 : changedN x (S.set f v) = cntN (chg x (S.set f v)) S.length := by
    show cntN (chg x (S.set f v)) (S.set f v).length = _
    rw [List.length_set]
  have h2 : changedN x S = cntN (chg x S) S.length := rfl
  rw [h1, h2, cntN_upd (p := chg x S) (q := chg x (S.set f v)) (f := f) (fun i hi => ?_) ?_ _ hf]
  · have : chg x (S.set f v) f = true ↔ 0 < v ∧ v ≠ tg x f := by
      unfold chg; rw [tg_set hf, if_pos rfl]; simp
    by_cases hc : 0 < v ∧ v ≠ tg x f
    · rw [if_pos hc, if_pos (this.2 hc)]
    · rw [if_neg hc, if_neg (fun e => hc (this.1 e))]
  · unfold chg; rw [hs]; simp
  · unfold chg; rw [tg_set hf, if_neg hi]
/-- What is left if a lost feature is found to look so. -/
theorem truths_put {c : Cat} {S : List Int} {P : ByteArray} {f : Nat} {v : Int} (hf : f < S.length) (hs : tg S f = 0) (hv : 0 < v) : truthsM c ⟨S.set f v, P, 0⟩ = partL (truthsM c ⟨S, P, 0⟩) f v := by
  unfold truthsM partL
  rw [List.filter_filter]
  refine List.filter_congr fun m _ => ?_
  unfold isTrue
  simp only
  rw [changedN_put hf hs]
  by_cases h : tg m.look (f : Int) = v
  · rw [if_neg (fun e => e.2 h.symm), decide_eq_true h]; simp
  · rw [if_pos ⟨hv, fun e => h e.symm⟩, decide_eq_false h]
    have : ¬ (((changedN m.look S + 1 : Nat) : Int) ≤ 0) := by omega
    rw [decide_eq_false this]; simp
theorem lostL_put {S : List Int} {f : Nat} {v : Int} (hf : f < S.length) (hv : v ≠ 0) : lostL (S.set f v) = (lostL S).filter fun x => decide (x ≠ (f : Int)) := by
  unfold lostL
  rw [List.length_set, List.filter_map, List.filter_filter]
  congr 1
  refine List.filter_congr fun i hi => ?_
  rw [tg_set hf]
  by_cases h : i = f
  · subst h; simp [hv]
  · rw [if_neg h]
    have : decide ((i : Int) ≠ (f : Int)) = true := decide_eq_true (by omega)
    simp only [Function.comp, this, Bool.true_and]
/-- A feature that is the same in all truths tells nothing. -/
theorem need_drop {F : List Int} {a : Int} : ∀ (n : Nat) (T : List Made), T.length ≤ n → T ≠ [] → (valF a T).length = 1 → needL (F.filter fun x => decide (x ≠ a)) T = needL F T
  | 0, T, h0, hne, _ => absurd (List.length_eq_zero_iff.1 (by omega)) hne
  | n + 1, T, hl, hne, hc => by
    rw [needL_eq hne, needL_eq hne]
    generalize (if modN T = 1 then 0 else 5) = b
    have key : ∀ (G : List Int) (b : Nat), (G.filter fun x => decide (x ≠ a)).foldl (needS (needL (F.filter fun x => decide (x ≠ a))) T) b = G.foldl (needS (needL F) T) b := fun G => by
      induction G with
      | nil => intro b; rfl
      | cons f G ih =>
        intro b
        by_cases hfa : f = a
        · subst hfa
          rw [List.filter_cons_of_neg (by simp), List.foldl_cons, ih]
          congr 1
          have e : needS (needL F) T b f = if b = 0 ∨ (valF f T).length = 1 then b else min b (worstF (needL F) T f + 1) := rfl
          rw [e, if_pos (.inr hc)]
        · rw [List.filter_cons_of_pos (by simpa using hfa), List.foldl_cons, List.foldl_cons, ih]
          congr 1
          have e1 : needS (needL F) T b f = if b = 0 ∨ (valF f T).length = 1 then b else min b (worstF (needL F) T f + 1) := rfl
          have e2 : needS (needL (F.filter fun x => decide (x ≠ a))) T b f = if b = 0 ∨ (valF f T).length = 1 then b else min b (worstF (needL (F.filter fun x => decide (x ≠ a))) T f + 1) := rfl
          rw [e1, e2]
          by_cases h1 : b = 0 ∨ (valF f T).length = 1
          · rw [if_pos h1, if_pos h1]
          · rw [if_neg h1, if_neg h1, worstF_congr fun v hv => ?_]
            exact need_drop n _ (by have := partL_lt (fun e => h1 (.inr e)) hv; omega) (partL_ne hv) (const_part hc hv)
    exact key F b
/-- What the worst look of a feature needs; 99 if that is never enough. -/
def wD (F : List Int) (T : List Made) (a : Int) : Nat → Nat
  | 0 => 0
  | k + 1 => if partL T a ((k : Int) + 1) = [] then wD F T a k else if 5 ≤ needL F (partL T a ((k : Int) + 1)) then 99 else max (wD F T a k) (needL F (partL T a ((k : Int) + 1)))
theorem wD_spec {F : List Int} {T : List Made} {a : Int} : ∀ k, (wD F T a k = 99 ∧ ∃ v ∈ valF a T, 5 ≤ needL F (partL T a v)) ∨ (wD F T a k ≤ 4 ∧ (∀ i : Nat, i < k → partL T a ((i : Int) + 1) ≠ [] → needL F (partL T a ((i : Int) + 1)) ≤ wD F T a k) ∧ (wD F T a k = 0 ∨ ∃ v ∈ valF a T, needL F (partL T a v) = wD F T a k))
  | 0 => .inr ⟨by simp [wD], fun i h => by omega, .inl rfl⟩
  | k + 1 => by
    have hmem : ∀ v, partL T a v ≠ [] → v ∈ valF a T := fun v h => by
      apply Classical.byContradiction
      intro hn; exact h (part_nil hn)
    have e : wD F T a (k + 1) = if partL T a ((k : Int) + 1) = [] then wD F T a k else if 5 ≤ needL F (partL T a ((k : Int) + 1)) then 99 else max (wD F T a k) (needL F (partL T a ((k : Int) + 1))) := rfl
    rw [e]
    have ih := wD_spec (F := F) (T := T) (a := a) k
    by_cases h1 : partL T a ((k : Int) + 1) = []
    · rw [if_pos h1]
      rcases ih with h | ⟨h2, h3, h4⟩
      · exact .inl h
      · refine .inr ⟨h2, fun i hi hne => ?_, h4⟩
        by_cases hik : i = k
        · subst hik; exact absurd h1 hne
        · exact h3 i (by omega) hne
    · rw [if_neg h1]
      by_cases h5 : 5 ≤ needL F (partL T a ((k : Int) + 1))
      · rw [if_pos h5]; exact .inl ⟨rfl, _, hmem _ h1, h5⟩
      · rw [if_neg h5]
        rcases ih with ⟨h, h'⟩ | ⟨h2, h3, h4⟩
        · exact .inl ⟨by rw [h]; omega, h'⟩
        · refine .inr ⟨by omega, fun i hi hne => ?_, ?_⟩
          · by_cases hik : i = k
            · subst hik; omega
            · have := h3 i (by omega) hne; omega
          · by_cases hm : wD F T a k < needL F (partL T a ((k : Int) + 1))
            · exact .inr ⟨_, hmem _ h1, by omega⟩
            · rw [Nat.max_eq_left (by omega)]; exact h4
theorem wD_all {F : List Int} {T : List Made} {a : Int} (hv : ∀ v ∈ valF a T, v = 1 ∨ v = 2 ∨ v = 3) : (wD F T a 3 = 99 ∧ 5 ≤ worstF (needL F) T a) ∨ (wD F T a 3 = worstF (needL F) T a ∧ worstF (needL F) T a ≤ 4) := by
  rcases wD_spec (F := F) (T := T) (a := a) 3 with ⟨h, v, hm, h5⟩ | ⟨h2, h3, h4⟩
  · exact .inl ⟨h, Nat.le_trans h5 (worst_le.1 (Nat.le_refl _) v hm)⟩
  · refine .inr ?_
    have e : wD F T a 3 = worstF (needL F) T a := by
      apply Nat.le_antisymm
      · rcases h4 with h | ⟨v, hm, h⟩
        · omega
        · rw [← h]; exact worst_le.1 (Nat.le_refl _) v hm
      · refine worst_le.2 fun v hm => ?_
        rcases hv v hm with rfl | rfl | rfl
        · exact h3 0 (by omega) (partL_ne hm)
        · exact h3 1 (by omega) (partL_ne hm)
        · exact h3 2 (by omega) (partL_ne hm)
    exact ⟨e, by omega⟩
/-- The least of that over the first lost features. -/
def dD (S F : List Int) (T : List Made) : Nat → Nat
  | 0 => 99
  | f + 1 => if tg S (f : Int) = 0 then min (dD S F T f) (wD F T (f : Int) 3 + 1) else dD S F T f
theorem dD_spec {S F : List Int} {T : List Made} : ∀ n, (∀ f : Nat, f < n → tg S f = 0 → dD S F T n ≤ wD F T f 3 + 1) ∧ (dD S F T n = 99 ∨ ∃ f : Nat, f < n ∧ tg S f = 0 ∧ dD S F T n = wD F T f 3 + 1)
  | 0 => ⟨fun f h => by omega, .inl rfl⟩
  | n + 1 => by
    obtain ⟨h1, h2⟩ := dD_spec (S := S) (F := F) (T := T) n
    have e : dD S F T (n + 1) = if tg S (n : Int) = 0 then min (dD S F T n) (wD F T (n : Int) 3 + 1) else dD S F T n := rfl
    rw [e]
    by_cases hs : tg S (n : Int) = 0
    · rw [if_pos hs]
      refine ⟨fun f hf hz => ?_, ?_⟩
      · by_cases hfn : f = n
        · subst hfn; omega
        · have := h1 f (by omega) hz; omega
      · by_cases hm : wD F T (n : Int) 3 + 1 < dD S F T n
        · exact .inr ⟨n, by omega, hs, by omega⟩
        · rw [Nat.min_eq_left (by omega)]
          rcases h2 with h | ⟨f, hf, hz, h⟩
          · exact .inl h
          · exact .inr ⟨f, by omega, hz, h⟩
    · rw [if_neg hs]
      refine ⟨fun f hf hz => ?_, ?_⟩
      · by_cases hfn : f = n
        · subst hfn; exact absurd hz hs
        · exact h1 f (by omega) hz
      · rcases h2 with h | ⟨f, hf, hz, h⟩
        · exact .inl h
        · exact .inr ⟨f, by omega, hz, h⟩
theorem mem_lost {S : List Int} {f : Nat} (hf : f < S.length) (hz : tg S f = 0) : (f : Int) ∈ lostL S := by
  unfold lostL
  exact List.mem_map.2 ⟨f, List.mem_filter.2 ⟨List.mem_range.2 hf, decide_eq_true hz⟩, rfl⟩
theorem lost_get {S : List Int} {f : Int} (h : f ∈ lostL S) : ∃ k : Nat, k < S.length ∧ tg S k = 0 ∧ f = k := by
  unfold lostL at h
  obtain ⟨k, hk, rfl⟩ := List.mem_map.1 h
  obtain ⟨h1, h2⟩ := List.mem_filter.1 hk
  exact ⟨k, List.mem_range.1 h1, of_decide_eq_true h2, rfl⟩
/-- The law of PlateDecided. -/
theorem decided_law {c : Cat} {S : List Int} {T : List Made} (hne : T ≠ []) (hm : modN T ≠ 1) (hS : S.length ≤ 4) (hSc : (S.length : Int) = c.features) (hv : ∀ f : Nat, f < S.length → ∀ v ∈ valF f T, v = 1 ∨ v = 2 ∨ v = 3) :
    (needL (lostL S) T < 5 → dD S (lostL S) T S.length = needL (lostL S) T) ∧ (5 ≤ needL (lostL S) T → 99 ≤ dD S (lostL S) T S.length) := by
  obtain ⟨h1, h2⟩ := dD_spec (S := S) (F := lostL S) (T := T) S.length
  have hll : (lostL S).length ≤ 4 := by unfold lostL; rw [List.length_map]; exact Nat.le_trans (List.length_filter_le _ _) (by simpa using hS)
  have hop : OkOp c (lostL S) (lostL S) T := ⟨fun f h => h, fun f h => by obtain ⟨k, hk, _, rfl⟩ := lost_get h; omega, fun f h hn => absurd h hn⟩
  have hself : ∀ f : Nat, (valF f T).length = 1 → worstF (needL (lostL S)) T f = needL (lostL S) T := fun f h => by
    obtain ⟨v, hvv⟩ := List.length_eq_one_iff.1 h
    have hvm : v ∈ valF (f : Int) T := by rw [hvv]; simp
    have hp := part_self h hvm
    apply Nat.le_antisymm
    · refine worst_le.2 fun w hw => ?_
      rw [part_self h hw]; exact Nat.le_refl _
    · have := worst_le.1 (Nat.le_refl (worstF (needL (lostL S)) T f)) v hvm
      rwa [hp] at this
  generalize hn : needL (lostL S) T = n at hself
  have hlow : ∀ f : Nat, f < S.length → tg S f = 0 → n < 5 → n ≤ wD (lostL S) T f 3 + 1 := fun f hf hz h5 => by
    rcases wD_all (F := lostL S) (hv f hf) with ⟨e, _⟩ | ⟨e, h4⟩
    · omega
    · rw [e]
      by_cases hc : (valF (f : Int) T).length = 1
      · rw [hself f hc]; omega
      · apply Classical.byContradiction
        intro hlt
        have := (need_iff (F := lostL S) (n := n - 1) hne (by omega)).2 (.inr ⟨f, mem_lost hf hz, hc, by omega⟩)
        omega
  refine ⟨fun h5 => ?_, fun h5 => ?_⟩
  · have hle : dD S (lostL S) T S.length ≤ n := by
      rcases (need_iff (F := lostL S) (n := n) hne h5).1 (by omega) with h | ⟨f, hf, hc, h⟩
      · exact absurd h hm
      · obtain ⟨k, hk, hz, rfl⟩ := lost_get hf
        have := h1 k hk hz
        rcases wD_all (F := lostL S) (hv k hk) with ⟨e, h6⟩ | ⟨e, h4⟩
        · omega
        · omega
    rcases h2 with h | ⟨f, hf, hz, h⟩
    · omega
    · have := hlow f hf hz h5; omega
  · rcases h2 with h | ⟨f, hf, hz, h⟩
    · omega
    · rw [h]
      rcases wD_all (F := lostL S) (hv f hf) with ⟨e, _⟩ | ⟨e, h4⟩
      · omega
      · exfalso
        by_cases hc : (valF (f : Int) T).length = 1
        · have := hself f hc; omega
        · have hfm := mem_lost hf hz
          obtain ⟨i, hi, hif⟩ := List.mem_iff_getElem.1 hfm
          have hw3 : worstF (needL (lostL S)) T f ≤ 3 := worst_le.2 fun v hvv => by
            have h6 := worst_le.1 (Nat.le_refl (worstF (needL (lostL S)) T f)) v hvv
            have hvv' : v ∈ valF (lostL S)[i] T := by rw [hif]; exact hvv
            have hnx := hop.next hi hvv'
            rw [hif] at hnx
            have hl : ((lostL S).take i ++ (lostL S).drop (i + 1)).length = (lostL S).length - 1 := by rw [List.length_append, List.length_take, List.length_drop]; omega
            have := need_open _ _ _ (Nat.le_refl _) (partL_ne hvv) hnx (by omega)
            omega
          have := (need_iff (F := lostL S) (n := 4) hne (by omega)).2 (.inr ⟨f, hfm, hc, by omega⟩)
          omega
end Go.Proofs
