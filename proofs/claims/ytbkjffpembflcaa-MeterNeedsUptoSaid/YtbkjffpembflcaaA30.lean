/- Texts of a proof: lemmas. -/
import Derived.Test.YtbkjffpembflcaaA29
set_option linter.unusedSimpArgs false
set_option linter.unusedVariables false
set_option maxRecDepth 100000
namespace Go.Proofs
open Go Go.Mu

theorem decL_rd1 {t : Tok} {l : List Rd} {k a b s x y : Int} : decL 6 decRd (.list t 6 (l.map Rd.av ++ [.agg [.int .i64 k, .int .i64 a, .int .i64 b, .int .i64 s, .int .i64 x, .int .i64 y]])) = some (l ++ [⟨k, a, b, s, ⟨x, y⟩⟩]) := by
  have := decL_self (n := 6) (d := decRd) (f := Rd.av) decRd_av (t := t) (l := l ++ [⟨k, a, b, s, ⟨x, y⟩⟩])
  rw [List.map_append] at this
  exact this
theorem getD_eq {α : Type} [Inhabited α] {l : List α} {i : Nat} (h : i < l.length) : l.getD i default = l[i] := by simp [List.getD, List.getElem?_eq_getElem h]
/-- A count that shows one number, beside an ear's readings. -/
theorem tones_count {e : Ear} (hc : ck e = 0) {x s c : Int} (hx : 0 ≤ x ∧ x < e.tones.length) (hs : 1 ≤ s ∧ s ≤ 20) (hcc : 0 ≤ c ∧ c ≤ 25000) (hr : e.rds.length ≤ 5) :
    (outO ⟨1, x, 0, s, ⟨0, 0⟩⟩ e.slack (truthsL e) c = [] ∧ (tonesL ⟨e.slack, e.tones, e.rds ++ [⟨1, x, 0, s, ⟨c, c⟩⟩]⟩).2 = 9) ∨
    (outO ⟨1, x, 0, s, ⟨0, 0⟩⟩ e.slack (truthsL e) c ≠ [] ∧ ∃ tl, tonesL ⟨e.slack, e.tones, e.rds ++ [⟨1, x, 0, s, ⟨c, c⟩⟩]⟩ = (tl, 0) ∧ tl.length = e.tones.length ∧ tl.getD x.toNat default = spanL (fun t => tg t x) (outO ⟨1, x, 0, s, ⟨0, 0⟩⟩ e.slack (truthsL e) c)) := by
  have he := okE_of_ck hc
  have htr : truthsL ⟨e.slack, e.tones, e.rds ++ [⟨1, x, 0, s, ⟨c, c⟩⟩]⟩ = outO ⟨1, x, 0, s, ⟨0, 0⟩⟩ e.slack (truthsL e) c := by
    rw [truthsL_more]
    unfold outO
    refine List.filter_congr fun t ht => ?_
    have hsm := (truthsL_ok he t ht).2
    have htg := small_tg hsm x
    rw [Bool.eq_iff_iff, decide_eq_true_eq, mem_shows_count rfl he.sl.1 (Int.mul_nonneg htg.1 (by simp only; omega))]
    exact ⟨fun h => ⟨hcc, h⟩, fun h => h.2⟩
  have hck : ck ⟨e.slack, e.tones, e.rds ++ [⟨1, x, 0, s, ⟨c, c⟩⟩]⟩ = 0 := by
    have h1 : ckR ⟨1, x, 0, s, ⟨c, c⟩⟩ e.tones.length = 0 := by simp only [ckR]; grind
    have h2 := firstE_all (f := fun r => ckR r e.tones.length) (l := e.rds) (by simp only [ck] at hc; grind)
    have h3 : firstE (fun r => ckR r e.tones.length) (e.rds ++ [⟨1, x, 0, s, ⟨c, c⟩⟩]) = 0 := firstE_zero fun i hi => by
      rcases List.mem_append.1 (List.getElem_mem hi) with hm | hm
      · exact h2 _ hm
      · simp at hm; rw [hm]; exact h1
    simp only [ck] at hc ⊢
    rw [h3, List.length_append]
    simp only [List.length_cons, List.length_nil]
    grind
  by_cases hO : outO ⟨1, x, 0, s, ⟨0, 0⟩⟩ e.slack (truthsL e) c = []
  · refine .inl ⟨hO, ?_⟩
    rw [hO] at htr
    simp [tonesL, knownL, hck, htr]
  · refine .inr ⟨hO, (List.range e.tones.length).map fun (i : Nat) => spanL (fun t => tg t i) (outO ⟨1, x, 0, s, ⟨0, 0⟩⟩ e.slack (truthsL e) c), ?_, by simp, ?_⟩
    · simp [tonesL, knownL, hck, htr, hO]
    · rw [getD_eq (by simp; omega)]
      simp only [List.getElem_map, List.getElem_range, Int.toNat_of_nonneg hx.1]
/-- What a count leaves is known well enough. -/
def okC (e : Ear) (x width s c : Int) : Bool := decide (outO ⟨1, x, 0, s, ⟨0, 0⟩⟩ e.slack (truthsL e) c = []) || decide ((spanL (fun t => tg t x) (outO ⟨1, x, 0, s, ⟨0, 0⟩⟩ e.slack (truthsL e) c)).hi - (spanL (fun t => tg t x) (outO ⟨1, x, 0, s, ⟨0, 0⟩⟩ e.slack (truthsL e) c)).lo ≤ width)
def fineU (e : Ear) (x width s c0 : Int) (i : Nat) : Bool := (List.range i).all fun k : Nat => okC e x width s (c0 + k)
theorem fineU_succ {e : Ear} {x width s c0 : Int} {i : Nat} : fineU e x width s c0 (i + 1) = (fineU e x width s c0 i && okC e x width s (c0 + i)) := by
  simp [fineU, List.range_succ]
/-- All that can be shown lies between these ends. -/
theorem fineU_all {e : Ear} (hc : ck e = 0) {x width s c0 q1 q2 : Int} {n : Nat} (hx : 0 ≤ x ∧ x < e.tones.length) (hs : 1 ≤ s ∧ s ≤ 20) (hsl : e.slack ≤ 1)
    (h1 : q1 = (e.tones.getD x.toNat default).lo * s / 100) (h2 : q2 = (e.tones.getD x.toNat default).hi * s / 100) (h3 : c0 = if 0 < q1 - 3 then q1 - 3 else 0) (h4 : c0 + n = q2 + 5) : fineU e x width s c0 n = gateS e.slack (truthsL e) x width s := by
  have he := okE_of_ck hc
  have key : ∀ c, outO ⟨1, x, 0, s, ⟨0, 0⟩⟩ e.slack (truthsL e) c ≠ [] → c0 ≤ c ∧ c < c0 + n := by
    intro c h
    obtain ⟨t, ht⟩ := List.exists_mem_of_ne_nil _ h
    unfold outO at ht
    rw [List.mem_filter, decide_eq_true_eq] at ht
    obtain ⟨ht, hm⟩ := ht
    have hsm := (truthsL_ok he t ht).2
    have htg := small_tg hsm x
    rw [mem_shows_count rfl he.sl.1 (Int.mul_nonneg htg.1 (by simp only; omega))] at hm
    obtain ⟨hc1, hm⟩ := hm
    simp only [isR, withS, if_true] at hm
    replace hm := of_decide_eq_true hm
    rw [truthsL_filter, List.mem_filter] at ht
    have hb := ((mem_allC he.len t).1 ht.1).2 x.toNat (by have := he.len; omega)
    rw [if_pos (by omega), Int.toNat_of_nonneg hx.1] at hb
    have m1 := Int.mul_le_mul_of_nonneg_right hb.1 (c := s) (by omega)
    have m2 := Int.mul_le_mul_of_nonneg_right hb.2 (c := s) (by omega)
    have hsl0 := he.sl
    generalize tg t x * s = N at *
    generalize (e.tones.getD x.toNat default).lo * s = A at *
    generalize (e.tones.getD x.toNat default).hi * s = B at *
    split at h3 <;> omega
  rw [Bool.eq_iff_iff]
  unfold gateS
  rw [outcomes_all (f := fun l => decide ((spanL (fun t => tg t x) l).hi - (spanL (fun t => tg t x) l).lo ≤ width))]
  unfold fineU
  rw [List.all_eq_true]
  constructor
  · intro h c hc
    obtain ⟨k1, k2⟩ := key c hc
    have := h (c - c0).toNat (by simp; omega)
    rw [Int.toNat_of_nonneg (by omega)] at this
    have e1 : c0 + (c - c0) = c := by omega
    rw [e1] at this
    unfold okC at this
    rcases Bool.or_eq_true _ _ ▸ this with h' | h'
    · exact absurd (by simpa using h') hc
    · exact h'
  · intro h k hk
    unfold okC
    by_cases hO : outO ⟨1, x, 0, s, ⟨0, 0⟩⟩ e.slack (truthsL e) (c0 + k) = []
    · rw [hO]; rfl
    · rw [Bool.or_eq_true]; exact .inr (h _ hO)
/-- What Gate answers of an ear that is made of numbers. -/
theorem gate_cases {m n w : Int} {e : Ear} {T : List Int} (h : EarP m n w e T) {x width : Int} (hx : 0 ≤ x ∧ x < e.tones.length) (hw : 0 ≤ width) :
    (∃ k : Nat, k < 20 ∧ gateL e x width = ((k : Int) + 1, 0) ∧ gateS e.slack (truthsL e) x width (k + 1) = true ∧ ∀ j : Nat, j < k → gateS e.slack (truthsL e) x width (j + 1) = false) ∨
    (gateL e x width = (0, 11) ∧ ∀ j : Nat, j < 20 → gateS e.slack (truthsL e) x width (j + 1) = false) := by
  have hk := h.known
  have hW : gateW e.tones.length x width = 0 := by unfold gateW; rw [if_pos (by omega), if_neg (by omega)]
  have hask : askL e (gateW e.tones.length x width) = (truthsL e, 0) := by unfold askL; rw [if_neg (by rw [h.ck]; simp), hW, if_neg (by simp)]; exact hk.1
  unfold gateL
  rw [hask]
  simp only [if_true]
  cases hf : (List.range 20).find? (fun k : Nat => gateS e.slack (truthsL e) x width (k + 1)) with
  | some k =>
    rw [List.find?_range_eq_some] at hf
    refine .inl ⟨k, by simpa using hf.2.1, rfl, hf.1, fun j hj => ?_⟩
    have := hf.2.2 j hj
    simpa using this
  | none =>
    rw [List.find?_eq_none] at hf
    refine .inr ⟨rfl, fun j hj => ?_⟩
    have := hf j (by simpa using hj)
    simpa using this
end Go.Proofs
