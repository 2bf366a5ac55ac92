/- Texts of a proof: lemmas. -/
import Derived.Test.YtbkjffpembflcaaA36
set_option linter.unusedSimpArgs false
set_option linter.unusedVariables false
set_option maxRecDepth 100000
namespace Go.Proofs
open Go Go.Mu

theorem within1_v {σ : List AObj} {ra rb : Nat} {x : Int} {w : Rng} (hg : hget σ ra = some (.cells [.int .i64 x])) (hh : hget σ rb = some (.cells [.int .i64 w.lo, .int .i64 w.hi])) (hx : 0 ≤ x ∧ x ≤ 2) {t : List Int} (ht : t.length = 3) : ClV Try.prog 96 [] [.ptr ra 0, .ptr rb 0] σ [tav t] (.bool (qis x w t)) := by
  intro σ' hl hs Q hq
  have hg' : ∀ l, hget (σ' ++ l) ra = some (.cells [.int .i64 x]) := fun l => by rw [hget_app (by have := hget_lt hg; omega), hs _ (hget_lt hg)]; exact hg
  have hh' : ∀ l, hget (σ' ++ l) rb = some (.cells [.int .i64 w.lo, .int .i64 w.hi]) := fun l => by rw [hget_app (by have := hget_lt hh; omega), hs _ (hget_lt hh)]; exact hh
  simp only [List.nil_append, List.cons_append]
  refine ACalls.clean_ev (E := Try.E 13 Try.ord96 fs1) (Try.envOK 13 Try.ord96 fs1 fs1_ok) (.bool _) (hq) Try.kp96 Try.func96 rfl (by kernel_rfl) (by simp [Try.E]) (Callable.of Try.func96 (by kernel_rfl) (by kernel_rfl)) (by kernel_rfl) ?_
  simp only [tav]
  simp -implicitDefEqProofs (maxSteps := 2000000) (disch := omega) only [go_sem, reduceCtorEq, Nat.reduceAdd, Nat.reduceSub, Nat.reduceMul, Nat.reduceLT, Nat.reduceLeDiff, Nat.reduceEqDiff, Nat.reduceBEq, Int.reduceToNat, Int.reduceLT, Int.reduceLE, Int.reduceEq, Int.reduceNeg, Int.reduceAdd, Int.reduceSub, Int.reduceMul, ↓reduceIte, Int.reduceBEq, Int.reduceBNe, hg', hh']
  refine ⟨fun h1 h2 => ?_, fun h1 => ?_⟩ <;> simp [qis, *]
/-- Whether a tongue is within a range. -/
def withinL (e : Ear) (x : Int) (w : Rng) : Int × Int :=
  if (askL e (ckWant e.tones.length x w)).2 = 0 then (verd ((truthsL e).filter (qis x w)).length (truthsL e).length, 0) else (0, (askL e (ckWant e.tones.length x w)).2)
theorem within_m (e : Ear) (x : Int) (w : Rng) (h1 : e.tones.length ≤ 4294967296) (h2 : e.rds.length ≤ 4294967296) : PureV Try.prog 31 [e.av, .int .i64 x, w.av] (.tup [.int .i64 (withinL e x w).1, .int .i64 (withinL e x w).2]) := by
  refine PureV.of_ev (E := Try.E 25 Try.ord31 fs18) (Try.envOK 25 Try.ord31 fs18 fs18_ok) (ii_plain) Try.kp31 Try.func31 rfl (by kernel_rfl) (by simp [Try.E]) (Callable.of Try.func31 (by kernel_rfl) (by kernel_rfl)) (by kernel_rfl) ?_
  intro σ
  simp only [Ear.av, Rng.av]
  by_cases hk : (askL e (ckWant e.tones.length x w)).2 = 0
  · obtain ⟨hc, hw, hn, hke⟩ := askL_ok hk
    have he := okE_of_ck hc
    have hlen := he.len
    have hx := ckWant_ok hw
    have htl := truthsL_len he
    have hke' : askL ⟨e.slack, e.tones, e.rds⟩ 0 = (truthsL e, 0) := by rw [hw] at hke; exact hke
    have hd : withinL e x w = (verd ((truthsL e).filter (qis x w)).length (truthsL e).length, 0) := by unfold withinL; rw [if_pos hk]
    rw [hd]
    simp -implicitDefEqProofs (maxSteps := 2000000) (disch := omega) only [go_sem, reduceCtorEq, Nat.reduceAdd, Nat.reduceSub, Nat.reduceMul, Nat.reduceLT, Nat.reduceLeDiff, Nat.reduceEqDiff, Nat.reduceBEq, Int.reduceToNat, Int.reduceLT, Int.reduceLE, Int.reduceEq, Int.reduceNeg, Int.reduceAdd, Int.reduceSub, Int.reduceMul, ↓reduceIte, Int.reduceBEq, Int.reduceBNe, hke', hw, tavs]
    refine verdict_c (qis x w) (truthsL e) (by omega) (fun t ht => (truthsL_ok he t ht).1) (fun t ht => within1_v (x := x) (w := w) (by simp [hget_at]) (by simp [hget_at]) (by omega) (truthsL_ok he t ht).1) _ ?_
    simp -implicitDefEqProofs (maxSteps := 2000000) (disch := omega) only [go_sem, reduceCtorEq, Nat.reduceAdd, Nat.reduceSub, Nat.reduceMul, Nat.reduceLT, Nat.reduceLeDiff, Nat.reduceEqDiff, Nat.reduceBEq, Int.reduceToNat, Int.reduceLT, Int.reduceLE, Int.reduceEq, Int.reduceNeg, Int.reduceAdd, Int.reduceSub, Int.reduceMul, ↓reduceIte, Int.reduceBEq, Int.reduceBNe, hke', tavs]
  · have hk' : ¬ (askL ⟨e.slack, e.tones, e.rds⟩ (ckWant e.tones.length x w)).2 = 0 := hk
    have hd : withinL e x w = (0, (askL ⟨e.slack, e.tones, e.rds⟩ (ckWant e.tones.length x w)).2) := by unfold withinL; rw [if_neg hk]
    rw [hd]
    generalize hq : askL ⟨e.slack, e.tones, e.rds⟩ (ckWant e.tones.length x w) = q at hk'
    simp -implicitDefEqProofs (maxSteps := 2000000) (disch := omega) only [go_sem, reduceCtorEq, Nat.reduceAdd, Nat.reduceSub, Nat.reduceMul, Nat.reduceLT, Nat.reduceLeDiff, Nat.reduceEqDiff, Nat.reduceBEq, Int.reduceToNat, Int.reduceLT, Int.reduceLE, Int.reduceEq, Int.reduceNeg, Int.reduceAdd, Int.reduceSub, Int.reduceMul, ↓reduceIte, Int.reduceBEq, Int.reduceBNe, hq, hk', tavs]
def within_m_s := spec3 tEar tI tRng fun e x w => if e.tones.length ≤ 4294967296 ∧ e.rds.length ≤ 4294967296 then some (.tup [.int .i64 (withinL e x w).1, .int .i64 (withinL e x w).2]) else none
theorem within_m_ok : ∀ xs v, within_m_s xs = some v → PureV Try.prog 31 xs v :=
  spec3_ok fun e x w v h => by have h := someIf h; rw [← h.2]; exact within_m e x w h.1.1 h.1.2
theorem beats1_v {σ : List AObj} {ra rb rs : Nat} {a b s : Int} (hg : hget σ ra = some (.cells [.int .i64 a])) (hh : hget σ rb = some (.cells [.int .i64 b])) (hi : hget σ rs = some (.cells [.int .i64 s])) (ha : 0 ≤ a ∧ a ≤ 2) (hb : 0 ≤ b ∧ b ≤ 2) (hs' : 0 ≤ s ∧ s ≤ 20) {t : List Int} (ht : t.length = 3) (hsm : small t) :
    ClV Try.prog 113 [] [.ptr ra 0, .ptr rb 0, .ptr rs 0] σ [tav t] (.int .i64 (dist (tg t a) (tg t b) * s / 100)) := by
  intro σ' hl hs Q hq
  have hg' : ∀ l, hget (σ' ++ l) ra = some (.cells [.int .i64 a]) := fun l => by rw [hget_app (by have := hget_lt hg; omega), hs _ (hget_lt hg)]; exact hg
  have hh' : ∀ l, hget (σ' ++ l) rb = some (.cells [.int .i64 b]) := fun l => by rw [hget_app (by have := hget_lt hh; omega), hs _ (hget_lt hh)]; exact hh
  have hi' : ∀ l, hget (σ' ++ l) rs = some (.cells [.int .i64 s]) := fun l => by rw [hget_app (by have := hget_lt hi; omega), hs _ (hget_lt hi)]; exact hi
  have hm := mul_le (dist_le (small_tg hsm a) (small_tg hsm b)) hs'
  have hw : IntKind.i64.wrap (dist (tg t a) (tg t b) * s) = dist (tg t a) (tg t b) * s := wrap64 (by omega) (by omega)
  have hd : (dist (tg t a) (tg t b) * s).tdiv 100 = dist (tg t a) (tg t b) * s / 100 := Int.tdiv_eq_ediv_of_nonneg hm.1
  have hw2 : IntKind.i64.wrap (dist (tg t a) (tg t b) * s / 100) = dist (tg t a) (tg t b) * s / 100 := wrap64 (by omega) (by omega)
  simp only [List.nil_append, List.cons_append]
  refine ACalls.clean_ev (E := Try.E 13 Try.ord113 fs4) (Try.envOK 13 Try.ord113 fs4 fs4_ok) (.int _ _) (hq) Try.kp113 Try.func113 rfl (by kernel_rfl) (by simp [Try.E]) (Callable.of Try.func113 (by kernel_rfl) (by kernel_rfl)) (by kernel_rfl) ?_
  simp only [tav]
  simp -implicitDefEqProofs (maxSteps := 2000000) (disch := omega) only [go_sem, reduceCtorEq, Nat.reduceAdd, Nat.reduceSub, Nat.reduceMul, Nat.reduceLT, Nat.reduceLeDiff, Nat.reduceEqDiff, Nat.reduceBEq, Int.reduceToNat, Int.reduceLT, Int.reduceLE, Int.reduceEq, Int.reduceNeg, Int.reduceAdd, Int.reduceSub, Int.reduceMul, ↓reduceIte, Int.reduceBEq, Int.reduceBNe, hg', hh', hi', hsm, hw, hd, hw2]
def ckBeats (m a b s : Int) : Int := if ckTwo m a b = 0 then (if 1 ≤ s ∧ s ≤ 20 then 0 else 1) else ckTwo m a b
/-- How often two tongues beat. -/
def beatsL (e : Ear) (a b s : Int) : Rng × Int :=
  if (askL e (ckBeats e.tones.length a b s)).2 = 0 then (spanL (fun t => dist (tg t a) (tg t b) * s / 100) (truthsL e), 0) else (⟨0, 0⟩, (askL e (ckBeats e.tones.length a b s)).2)
theorem beats_m (e : Ear) (a b s : Int) (h1 : e.tones.length ≤ 4294967296) (h2 : e.rds.length ≤ 4294967296) : PureV Try.prog 46 [e.av, .int .i64 a, .int .i64 b, .int .i64 s] (.tup [(beatsL e a b s).1.av, .int .i64 (beatsL e a b s).2]) := by
  refine PureV.of_ev (E := Try.E 37 (fun _ => ([], [])) fs18) (Try.envOK 37 (fun _ => ([], [])) fs18 fs18_ok) (.tup (by simp; exact ⟨Rng.plain _, .int⟩)) Try.kp46 Try.func46 rfl (by kernel_rfl) (by simp [Try.E]) (Callable.of Try.func46 (by kernel_rfl) (by kernel_rfl)) (by kernel_rfl) ?_
  intro σ
  simp only [Ear.av]
  by_cases hk : (askL e (ckBeats e.tones.length a b s)).2 = 0
  · obtain ⟨hc, hw, hn, hke⟩ := askL_ok hk
    have he := okE_of_ck hc
    have hlen := he.len
    have hw2 : ckTwo e.tones.length a b = 0 := by
      unfold ckBeats at hw; split at hw
      · assumption
      · exact absurd hw (by assumption)
    have hs : 1 ≤ s ∧ s ≤ 20 := by
      unfold ckBeats at hw; rw [if_pos hw2] at hw; split at hw
      · assumption
      · cases hw
    obtain ⟨ha, hb, _⟩ := ckTwo_ok hlen hw2
    have htl := truthsL_len he
    have hke' : askL ⟨e.slack, e.tones, e.rds⟩ 0 = (truthsL e, 0) := by rw [hw] at hke; exact hke
    have hd : beatsL e a b s = (spanL (fun t => dist (tg t a) (tg t b) * s / 100) (truthsL e), 0) := by unfold beatsL; rw [if_pos hk]
    rw [hd]
    have hnum : ∀ t ∈ truthsL e, t.length = 3 ∧ small t := truthsL_ok he
    generalize truthsL e = T at htl hke' hn hnum
    simp -implicitDefEqProofs (maxSteps := 2000000) (disch := omega) only [go_sem, reduceCtorEq, Nat.reduceAdd, Nat.reduceSub, Nat.reduceMul, Nat.reduceLT, Nat.reduceLeDiff, Nat.reduceEqDiff, Nat.reduceBEq, Int.reduceToNat, Int.reduceLT, Int.reduceLE, Int.reduceEq, Int.reduceNeg, Int.reduceAdd, Int.reduceSub, Int.reduceMul, ↓reduceIte, Int.reduceBEq, Int.reduceBNe, hke', hw2, tavs]
    refine span_c (fun t => dist (tg t a) (tg t b) * s / 100) T hn (by omega) (fun t ht => (hnum t ht).1) (fun t ht => beats1_v (a := a) (b := b) (s := s) (by simp [hget_at]) (by simp [hget_at]) (by simp [hget_at]) ha hb (by omega) (hnum t ht).1 (hnum t ht).2) _ ?_
    generalize spanL (fun t => dist (tg t a) (tg t b) * s / 100) T = sp
    simp -implicitDefEqProofs (maxSteps := 2000000) (disch := omega) only [go_sem, reduceCtorEq, Nat.reduceAdd, Nat.reduceSub, Nat.reduceMul, Nat.reduceLT, Nat.reduceLeDiff, Nat.reduceEqDiff, Nat.reduceBEq, Int.reduceToNat, Int.reduceLT, Int.reduceLE, Int.reduceEq, Int.reduceNeg, Int.reduceAdd, Int.reduceSub, Int.reduceMul, ↓reduceIte, Int.reduceBEq, Int.reduceBNe, tavs, Rng.av]
  · have hk' : ¬ (askL ⟨e.slack, e.tones, e.rds⟩ (ckBeats e.tones.length a b s)).2 = 0 := hk
    have hd : beatsL e a b s = (⟨0, 0⟩, (askL ⟨e.slack, e.tones, e.rds⟩ (ckBeats e.tones.length a b s)).2) := by unfold beatsL; rw [if_neg hk]
    rw [hd]
    by_cases hw2 : ckTwo e.tones.length a b = 0
    · by_cases hs : 1 ≤ s ∧ s ≤ 20
      · have hv : ckBeats e.tones.length a b s = 0 := by unfold ckBeats; rw [if_pos hw2, if_pos hs]
        rw [hv] at hk' ⊢
        generalize hq : askL ⟨e.slack, e.tones, e.rds⟩ 0 = q at hk'
        simp -implicitDefEqProofs (maxSteps := 2000000) (disch := omega) only [go_sem, reduceCtorEq, Nat.reduceAdd, Nat.reduceSub, Nat.reduceMul, Nat.reduceLT, Nat.reduceLeDiff, Nat.reduceEqDiff, Nat.reduceBEq, Int.reduceToNat, Int.reduceLT, Int.reduceLE, Int.reduceEq, Int.reduceNeg, Int.reduceAdd, Int.reduceSub, Int.reduceMul, ↓reduceIte, Int.reduceBEq, Int.reduceBNe, hq, hk', hw2, tavs, Rng.av]
      · have hv : ckBeats e.tones.length a b s = 1 := by unfold ckBeats; rw [if_pos hw2, if_neg hs]
        rw [hv] at hk' ⊢
        generalize hq : askL ⟨e.slack, e.tones, e.rds⟩ 1 = q at hk'
        have hsd : decide (1 ≤ s ∧ s ≤ 20) = false := decide_eq_false hs
        simp -implicitDefEqProofs (maxSteps := 2000000) (disch := omega) only [go_sem, reduceCtorEq, Nat.reduceAdd, Nat.reduceSub, Nat.reduceMul, Nat.reduceLT, Nat.reduceLeDiff, Nat.reduceEqDiff, Nat.reduceBEq, Int.reduceToNat, Int.reduceLT, Int.reduceLE, Int.reduceEq, Int.reduceNeg, Int.reduceAdd, Int.reduceSub, Int.reduceMul, ↓reduceIte, Int.reduceBEq, Int.reduceBNe, hq, hk', hw2, hsd, tavs, Rng.av]
    · have hv : ckBeats e.tones.length a b s = ckTwo e.tones.length a b := by unfold ckBeats; rw [if_neg hw2]
      rw [hv] at hk' ⊢
      generalize hq : askL ⟨e.slack, e.tones, e.rds⟩ (ckTwo e.tones.length a b) = q at hk'
      simp -implicitDefEqProofs (maxSteps := 2000000) (disch := omega) only [go_sem, reduceCtorEq, Nat.reduceAdd, Nat.reduceSub, Nat.reduceMul, Nat.reduceLT, Nat.reduceLeDiff, Nat.reduceEqDiff, Nat.reduceBEq, Int.reduceToNat, Int.reduceLT, Int.reduceLE, Int.reduceEq, Int.reduceNeg, Int.reduceAdd, Int.reduceSub, Int.reduceMul, ↓reduceIte, Int.reduceBEq, Int.reduceBNe, hq, hk', hw2, tavs, Rng.av]
def beats_m_s := spec4 tEar tI tI tI fun e a b s => if e.tones.length ≤ 4294967296 ∧ e.rds.length ≤ 4294967296 then some (.tup [(beatsL e a b s).1.av, .int .i64 (beatsL e a b s).2]) else none
theorem beats_m_ok : ∀ xs v, beats_m_s xs = some v → PureV Try.prog 46 xs v :=
  spec4_ok fun e a b s v h => by have h := someIf h; rw [← h.2]; exact beats_m e a b s h.1.1 h.1.2
end Go.Proofs
