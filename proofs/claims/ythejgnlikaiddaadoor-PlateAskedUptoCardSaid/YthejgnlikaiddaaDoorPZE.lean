/- Texts of a proof: lemmas. -/
import Derived.Test.YthejgnlikaiddaaDoorPZE0
set_option linter.unusedSimpArgs false
set_option linter.unusedVariables false
set_option maxRecDepth 100000
namespace Go.Proofs
open Go Go.Mu

theorem leastL_app {α : Type} [Inhabited α] {num : α → Int} {l : List α} {x : α} (h : l ≠ []) : leastL num (l ++ [x]) = leastS num (leastL num l) x := by
  obtain ⟨y, l, rfl⟩ : ∃ y l', l = y :: l' := by cases l with | nil => exact absurd rfl h | cons a b => exact ⟨a, b, rfl⟩
  show (l ++ [x]).foldl (leastS num) (y, num y) = leastS num (l.foldl (leastS num) (y, num y)) x
  rw [List.foldl_append]; rfl
theorem leastL_congr {α : Type} [Inhabited α] {num num' : α → Int} {l : List α} (hl : l ≠ []) (h : ∀ x ∈ l, num x = num' x) : leastL num l = leastL num' l := by
  obtain ⟨y, l, rfl⟩ : ∃ y l', l = y :: l' := by cases l with | nil => exact absurd rfl hl | cons a b => exact ⟨a, b, rfl⟩
  show l.foldl (leastS num) (y, num y) = l.foldl (leastS num') (y, num' y)
  rw [h y (by simp)]
  have key : ∀ (l : List α) (b : α × Int), (∀ x ∈ l, num x = num' x) → l.foldl (leastS num) b = l.foldl (leastS num') b := by
    intro l
    induction l with
    | nil => intros; rfl
    | cons z l ih =>
      intro b h
      rw [List.foldl_cons, List.foldl_cons]
      have : leastS num b z = leastS num' b z := by unfold leastS; rw [h z (by simp)]
      rw [this]; exact ih _ fun x hx => h x (by simp [hx])
  exact key l _ fun x hx => h x (by simp [hx])
def lostP (S : List Int) (a : Nat) : List Int := ((List.range a).filter fun (f : Nat) => decide (tg S f = 0)).map fun (f : Nat) => (f : Int)
theorem lostP_succ {S : List Int} {a : Nat} : lostP S (a + 1) = lostP S a ++ if tg S (a : Int) = 0 then [(a : Int)] else [] := by
  simp only [lostP, List.range_succ, List.filter_append, List.map_append]
  by_cases h : tg S (a : Int) = 0 <;> simp [h]
/-- The best lost feature so far. -/
def bestP (T : List Made) (S : List Int) (a : Nat) : Int × Int := if lostP S a = [] then (-1, 0) else leastL (fun f => (worstN T f.toNat : Int)) (lostP S a)
theorem bestP_skip {T : List Made} {S : List Int} {a : Nat} (h : tg S (a : Int) ≠ 0) : bestP T S (a + 1) = bestP T S a := by
  unfold bestP; rw [lostP_succ, if_neg h, List.append_nil]
theorem lostP_mem {S : List Int} {a : Nat} {x : Int} (h : x ∈ lostP S a) : 0 ≤ x ∧ x < a := by
  unfold lostP at h
  obtain ⟨k, hk, rfl⟩ := List.mem_map.1 h
  have := List.mem_range.1 (List.mem_filter.1 hk).1
  omega
theorem bestP_step {T : List Made} {S : List Int} {a : Nat} (h : tg S (a : Int) = 0) : bestP T S (a + 1) = if (bestP T S a).1 < 0 ∨ (worstN T a : Int) < (bestP T S a).2 then ((a : Int), (worstN T a : Int)) else bestP T S a := by
  unfold bestP
  rw [lostP_succ, if_pos h]
  by_cases hl : lostP S a = []
  · rw [hl, if_pos rfl, if_neg (by simp), if_pos (by simp)]; rfl
  · rw [if_neg hl, if_neg (by simp), leastL_app hl]
    have hm := (leastL_spec (num := fun f : Int => (worstN T f.toNat : Int)) hl).1
    have := lostP_mem hm
    unfold leastS
    simp only [Int.toNat_natCast]
    by_cases hc : (worstN T a : Int) < (leastL (fun f : Int => (worstN T f.toNat : Int)) (lostP S a)).2
    · rw [if_pos hc, if_pos (.inr hc)]
    · rw [if_neg hc, if_neg (by rintro (h | h); omega; exact hc h)]
theorem bestP_bound {T : List Made} {S : List Int} {a : Nat} (hT : T.length ≤ 16) : -1 ≤ (bestP T S a).1 ∧ (bestP T S a).1 < (a : Int) + 1 ∧ 0 ≤ (bestP T S a).2 ∧ (bestP T S a).2 ≤ 16 := by
  unfold bestP
  by_cases hl : lostP S a = []
  · rw [if_pos hl]; simp only; omega
  · rw [if_neg hl]
    obtain ⟨h1, h2, _⟩ := leastL_spec (num := fun f : Int => (worstN T f.toNat : Int)) hl
    have := lostP_mem h1
    have h3 : ∀ f v, leftN T f v ≤ 16 := fun f v => Nat.le_trans leftN_le hT
    have h4 : ∀ f, worstN T f ≤ 16 := fun f => by unfold worstN; have := h3 f 1; have := h3 f 2; have := h3 f 3; omega
    have := h4 (leastL (fun f : Int => (worstN T f.toNat : Int)) (lostP S a)).1.toNat
    omega
def wN (T : List Made) (f : Nat) : Nat → Nat
  | 0 => 0
  | i + 1 => max (wN T f i) (leftN T f ((i + 1 : Nat) : Int))
theorem worstN_w {T : List Made} {f : Nat} : worstN T f = wN T f 3 := by
  unfold worstN
  simp only [wN]
  show max (max (leftN T f 1) (leftN T f 2)) (leftN T f 3) = max (max (max 0 (leftN T f 1)) (leftN T f 2)) (leftN T f 3)
  omega
theorem look_vals {c : Cat} {m : Made} (hC : OkC c) (hm : m ∈ allMade c) {f : Nat} (hf : (f : Int) < c.features) : 1 ≤ tg m.look (f : Int) ∧ tg m.look (f : Int) ≤ 3 := by
  obtain ⟨a, k, ha, hk, rfl⟩ := all_mem hm
  have hgd : c.models.getD a default = c.models[a] := by simp [List.getD, List.getElem?_eq_getElem ha]
  rw [hgd] at hk ⊢
  have hM := hC.model _ (List.getElem_mem ha)
  have hll := hM.look _ (List.getElem_mem hk)
  have hg1 : (c.models[a]).looks.getD k [] = (c.models[a]).looks[k] := by simp [List.getD, List.getElem?_eq_getElem hk]
  have hfe := hC.features
  rw [made_look, hg1, tg_pad (by omega), tgE (by have := hll.1; omega)]
  exact hll.2 _ (List.getElem_mem _)
theorem next_best {c : Cat} {S : List Int} {P : ByteArray} {ch : Int} (hC : OkC c) (hO : OkO c ⟨S, P, ch⟩) (hne : truthsM c ⟨S, P, ch⟩ ≠ []) :
    nextM c ⟨S, P, ch⟩ = if (bestP (truthsM c ⟨S, P, ch⟩) S S.length).1 < 0 then (0, 0, 11) else ((bestP (truthsM c ⟨S, P, ch⟩) S S.length).1, (bestP (truthsM c ⟨S, P, ch⟩) S S.length).2, 0) := by
  have hk := known_val (ck_of_okO hC hO) hne
  have hlen := truthsM_len (o := ⟨S, P, ch⟩) hC
  have hso := hO.seen.1
  simp only at hso
  have e : lostL S = lostP S S.length := rfl
  unfold nextM bestP
  rw [hk, if_pos rfl, e]
  by_cases hl : lostP S S.length = []
  · rw [if_pos hl, if_pos hl, if_pos (by simp)]
  · rw [if_neg hl, if_neg hl]
    have hm := (leastL_spec (num := fun f : Int => (worstN (truthsM c ⟨S, P, ch⟩) f.toNat : Int)) hl).1
    have h2 := lostP_mem hm
    rw [if_neg (by omega)]
    have hc : leastL (fun f => (nextN (truthsM c ⟨S, P, ch⟩) f : Int)) (lostP S S.length) = leastL (fun f : Int => (worstN (truthsM c ⟨S, P, ch⟩) f.toNat : Int)) (lostP S S.length) := leastL_congr hl fun x hx => by
      have h3 := lostP_mem hx
      obtain ⟨n, rfl⟩ : ∃ n : Nat, x = n := ⟨x.toNat, by omega⟩
      rw [Int.toNat_natCast, nextN_worst hlen fun y hy => look_vals hC (mem_truths.1 hy).1 (by omega)]
    rw [hc]
theorem leftN_any {L : List Made} {f : Nat} {v : Int} : L.any (fun m => decide (tg m.look (f : Int) = v)) = false ↔ leftN L f v = 0 := by
  unfold leftN
  rw [List.length_eq_zero_iff, List.filter_eq_nil_iff, List.any_eq_false]
end Go.Proofs
