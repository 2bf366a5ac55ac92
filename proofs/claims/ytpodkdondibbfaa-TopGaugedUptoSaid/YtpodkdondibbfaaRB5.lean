/- Texts of a proof: lemmas. -/
import Derived.Test.YtpodkdondibbfaaRB4
import Derived.Test.YtpodkdondibbfaaA37
set_option linter.unusedSimpArgs false
set_option linter.unusedVariables false
set_option maxRecDepth 100000
namespace Go.Proofs
open Go Go.Mu

/-- An ear of one tongue. -/
theorem one_tones {n : Int} {e : Ear} {x0 : Int} (h : EarP 1 n 6 e [x0]) : ∃ x, tonesL e = ([x], 0) ∧ x = spanL (fun t => tg t (0 : Nat)) (truthsL e) ∧ x0 - 6 ≤ x.lo ∧ x.lo ≤ x.hi ∧ x.hi ≤ x0 + 6 := by
  obtain ⟨h1, h2⟩ := h.known
  have hl : e.tones.length = 1 := h.len
  refine ⟨_, ?_, rfl, ?_⟩
  · unfold tonesL
    rw [h1, hl]
    rfl
  · have hr := h.rng 0 (by simp) (by omega)
    simp only [List.getElem_cons_zero] at hr
    have hmem : ∀ t ∈ truthsL e, x0 - 6 ≤ tg t (0 : Nat) ∧ tg t (0 : Nat) ≤ x0 + 6 := fun t ht => by
      rw [truthsL_filter, List.mem_filter] at ht
      have := ((mem_allC (by omega) t).1 ht.1).2 0 (by omega)
      rw [if_pos (by omega)] at this
      have hg : e.tones.getD 0 default = e.tones[0] := by simp [List.getD, List.getElem?_eq_getElem (show 0 < e.tones.length by omega)]
      rw [hg] at this
      omega
    obtain ⟨s1, ⟨a, ha, ha2⟩, ⟨b, hb, hb2⟩⟩ := spanL_spec (num := fun t => tg t (0 : Nat)) h2
    have m1 := hmem a ha
    have m2 := hmem b hb
    have m3 := s1 a ha
    omega
/-- One reading more. -/
theorem one_more {n : Int} {e : Ear} {x0 : Int} (h : EarP 1 n 6 e [x0]) (hn : n ≤ 5) {r : Rd} (hr : ckR r 1 = 0) (hi : isR r e.slack [x0] = true) :
    EarP 1 (n + 1) 6 ⟨e.slack, e.tones, e.rds ++ [r]⟩ [x0] ∧ withL e r = (⟨e.slack, e.tones, e.rds ++ [r]⟩, 0) ∧
      inR (spanL (fun t => tg t (0 : Nat)) (truthsL e)) (spanL (fun t => tg t (0 : Nat)) (truthsL ⟨e.slack, e.tones, e.rds ++ [r]⟩)) := by
  have hl : e.tones.length = 1 := h.len
  have hrn := h.rn
  have hck : ck ⟨e.slack, e.tones, e.rds ++ [r]⟩ = 0 := ck_more h.ck (by rw [hl]; exact hr) (by omega)
  have hE : EarP 1 (n + 1) 6 ⟨e.slack, e.tones, e.rds ++ [r]⟩ [x0] := ⟨hck, h.len, h.lo, h.hi, by simp only [List.length_append, List.length_singleton]; omega, h.sl, h.rng, h.bd, fun q hq => by
    rcases List.mem_append.1 hq with hq | hq
    · exact h.rd q hq
    · simp at hq; subst hq; exact hi⟩
  have hne := hE.known.2
  refine ⟨hE, ?_, ?_⟩
  · unfold withL
    rw [if_neg (by rw [h.ck]; simp), if_neg (by rw [hl, show ((1 : Nat) : Int) = 1 from rfl, hr]; simp), if_neg (by omega), if_neg]
    unfold mayL
    cases ht : truthsL ⟨e.slack, e.tones, e.rds ++ [r]⟩ with
    | nil => exact absurd ht hne
    | cons a l => simp
  · refine span_sub hne fun t ht => ?_
    rw [truthsL_more] at ht
    exact (List.mem_filter.1 ht).1
end Go.Proofs
