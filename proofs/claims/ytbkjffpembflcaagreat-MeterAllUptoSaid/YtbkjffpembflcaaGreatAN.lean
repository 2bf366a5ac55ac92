/- Texts of a proof: lemmas. -/
import Derived.Test.YtbkjffpembflcaaGreatA34
import Derived.Test.YtbkjffpembflcaaGreatA36
set_option linter.unusedSimpArgs false
set_option linter.unusedVariables false
set_option maxRecDepth 100000
namespace Go.Proofs
open Go Go.Mu

def cntW (w : List (Int × Int) × Int) (c : Int) : Int := (mget w.1 c).getD 0
theorem cntW_step {w : List (Int × Int) × Int} {k c : Int} : cntW (stepW w k) c = if c = k then cntW w k + 1 else cntW w c := by
  unfold cntW stepW
  simp only [mget_mset']
  split <;> rfl
def invW (w : List (Int × Int) × Int) : Prop := (∀ c, 0 ≤ cntW w c ∧ cntW w c ≤ w.2) ∧ (w.2 = 0 ∨ ∃ c, cntW w c = w.2)
theorem invW_step {w : List (Int × Int) × Int} (h : invW w) (k : Int) : invW (stepW w k) := by
  have h2 : (stepW w k).2 = if w.2 < cntW w k + 1 then cntW w k + 1 else w.2 := rfl
  have hk := h.1 k
  refine ⟨fun c => ?_, ?_⟩
  · have := h.1 c
    rw [cntW_step, h2]
    split <;> split <;> omega
  · by_cases hc : w.2 < cntW w k + 1
    · right; exact ⟨k, by rw [cntW_step, if_pos rfl, h2, if_pos hc]⟩
    · rw [h2, if_neg hc]
      rcases h.2 with h0 | ⟨c, h0⟩
      · left; exact h0
      · right
        refine ⟨c, ?_⟩
        rw [cntW_step]
        split
        · rename_i e; subst e; omega
        · exact h0
theorem foldW {ks : List Int} : ∀ {w : List (Int × Int) × Int}, ks.Nodup → invW w → invW (ks.foldl stepW w) ∧ ∀ c, cntW (ks.foldl stepW w) c = cntW w c + if c ∈ ks then 1 else 0 := by
  induction ks with
  | nil => intro w _ h; exact ⟨h, fun c => by simp⟩
  | cons k ks ih =>
    intro w hn h
    rw [List.nodup_cons] at hn
    obtain ⟨h1, h2⟩ := ih (w := stepW w k) hn.2 (invW_step h k)
    refine ⟨h1, fun c => ?_⟩
    rw [List.foldl_cons, h2, cntW_step]
    by_cases e : c = k
    · subst e; simp [hn.1]
    · simp [e]
theorem foldWs {r : Rd} {sl : Int} : ∀ {l : List (List Int)} {w : List (Int × Int) × Int}, invW w → invW (l.foldl (worstS r sl) w) ∧ ∀ c, cntW (l.foldl (worstS r sl) w) c = cntW w c + (outO r sl l c).length := by
  intro l
  induction l with
  | nil => intro w h; exact ⟨h, fun c => by simp [outO]⟩
  | cons t l ih =>
    intro w h
    obtain ⟨g1, g2⟩ := foldW (showsL_nodup r sl t) h
    obtain ⟨h1, h2⟩ := ih (w := worstS r sl w t) g1
    refine ⟨h1, fun c => ?_⟩
    rw [List.foldl_cons, h2]
    show cntW ((showsL r sl t).foldl stepW w) c + _ = _
    rw [g2]
    unfold outO
    rw [List.filter_cons]
    by_cases e : c ∈ showsL r sl t
    · simp [e]; omega
    · simp [e]
theorem worst_spec (r : Rd) (sl : Int) (l : List (List Int)) : (∀ c, ((outO r sl l c).length : Int) ≤ worstL r sl l) ∧ (worstL r sl l = 0 ∨ ∃ c, ((outO r sl l c).length : Int) = worstL r sl l) := by
  have h0 : invW ([], 0) := ⟨fun c => by simp [cntW, mget, fIdx], .inl rfl⟩
  obtain ⟨h1, h2⟩ := foldWs (r := r) (sl := sl) (l := l) h0
  have hz : ∀ c, cntW ([], 0) c = 0 := fun c => by simp [cntW, mget, fIdx]
  refine ⟨fun c => ?_, ?_⟩
  · have := (h1.1 c).2
    rw [h2, hz] at this
    simpa [worstL] using this
  · rcases h1.2 with h | ⟨c, h⟩
    · exact .inl h
    · right; refine ⟨c, ?_⟩
      rw [h2, hz] at h
      simpa [worstL] using h
theorem worst_le (r : Rd) (sl : Int) (l : List (List Int)) : worstL r sl l ≤ l.length := by
  rcases (worst_spec r sl l).2 with h | ⟨c, h⟩
  · omega
  · have : (outO r sl l c).length ≤ l.length := List.length_filter_le _ _
    omega
theorem worst_nonneg (r : Rd) (sl : Int) (l : List (List Int)) : 0 ≤ worstL r sl l := by
  have := (worst_spec r sl l).1 0
  omega
/-- A span: the least and the greatest number. -/
theorem spanL_spec {num : List Int → Int} {l : List (List Int)} (hl : l ≠ []) : (∀ t ∈ l, (spanL num l).lo ≤ num t ∧ num t ≤ (spanL num l).hi) ∧ (∃ t ∈ l, num t = (spanL num l).lo) ∧ (∃ t ∈ l, num t = (spanL num l).hi) := by
  have key : ∀ (l p : List (List Int)) (y : Rng), ((∀ t ∈ p, y.lo ≤ num t ∧ num t ≤ y.hi) ∧ (∃ t ∈ p, num t = y.lo) ∧ (∃ t ∈ p, num t = y.hi)) →
      ((∀ t ∈ p ++ l, (l.foldl (spanS num) y).lo ≤ num t ∧ num t ≤ (l.foldl (spanS num) y).hi) ∧ (∃ t ∈ p ++ l, num t = (l.foldl (spanS num) y).lo) ∧ (∃ t ∈ p ++ l, num t = (l.foldl (spanS num) y).hi)) := by
    intro l
    induction l with
    | nil => intro p y h; simpa using h
    | cons t l ih =>
      intro p y ⟨h1, ⟨a, ha, ha2⟩, ⟨b, hb, hb2⟩⟩
      have e : p ++ t :: l = (p ++ [t]) ++ l := by simp
      rw [e]
      refine ih (p ++ [t]) (spanS num y t) ⟨fun u hu => ?_, ?_, ?_⟩
      · rcases List.mem_append.1 hu with hu | hu
        · have := h1 u hu
          simp only [spanS, mn, mx]; split <;> split <;> omega
        · simp at hu; subst hu
          simp only [spanS, mn, mx]; split <;> split <;> omega
      · simp only [spanS, mn]
        split
        · exact ⟨t, by simp, rfl⟩
        · exact ⟨a, by simp [ha], ha2⟩
      · simp only [spanS, mx]
        split
        · exact ⟨t, by simp, rfl⟩
        · exact ⟨b, by simp [hb], hb2⟩
  obtain ⟨t, l, rfl⟩ : ∃ t l', l = t :: l' := by cases l with | nil => exact absurd rfl hl | cons a b => exact ⟨a, b, rfl⟩
  have := key l [t] (spanS num ⟨num t, num t⟩ t) ⟨fun u hu => by simp at hu; subst hu; simp [spanS, mn, mx], ⟨t, by simp, by simp [spanS, mn]⟩, ⟨t, by simp, by simp [spanS, mx]⟩⟩
  simpa [spanL] using this
/-- Fewer truths are spread less. -/
theorem span_sub {num : List Int → Int} {l l' : List (List Int)} (hl : l' ≠ []) (h : ∀ t ∈ l', t ∈ l) : (spanL num l).lo ≤ (spanL num l').lo ∧ (spanL num l').hi ≤ (spanL num l).hi := by
  have hn : l ≠ [] := by
    obtain ⟨t, ht⟩ := List.exists_mem_of_ne_nil _ hl
    intro e; have := h t ht; rw [e] at this; cases this
  obtain ⟨h1, _, _⟩ := spanL_spec (num := num) hn
  obtain ⟨_, ⟨a, ha, ha2⟩, ⟨b, hb, hb2⟩⟩ := spanL_spec (num := num) hl
  have := h1 a (h a ha)
  have := h1 b (h b hb)
  omega
theorem isR_slacker {r : Rd} {s1 s2 : Int} {t : List Int} (h : s1 ≤ s2) (hr : isR r s1 t = true) : isR r s2 t = true := by
  unfold isR at hr ⊢
  split
  · rename_i hk
    rw [if_pos hk] at hr
    have := of_decide_eq_true hr
    exact decide_eq_true (by omega)
  · rename_i hk
    rw [if_neg hk] at hr
    exact hr
end Go.Proofs
set_option linter.unusedSimpArgs false
set_option linter.unusedVariables false
set_option maxRecDepth 100000
namespace Go.Proofs
open Go Go.Mu

theorem within1_v {σ : List AObj} {ra rb : Nat} {x : Int} {w : Rng} (hg : hget σ ra = some (.cells [.int .i64 x])) (hh : hget σ rb = some (.cells [.int .i64 w.lo, .int .i64 w.hi])) (hx : 0 ≤ x ∧ x ≤ 2) {t : List Int} (ht : t.length = 3) : ClV Tryz.prog 70 [] [.ptr ra 0, .ptr rb 0] σ [tav t] (.bool (qis x w t)) := by
  intro σ' hl hs Q hq
  have hg' : ∀ l, hget (σ' ++ l) ra = some (.cells [.int .i64 x]) := fun l => by rw [hget_app (by have := hget_lt hg; omega), hs _ (hget_lt hg)]; exact hg
  have hh' : ∀ l, hget (σ' ++ l) rb = some (.cells [.int .i64 w.lo, .int .i64 w.hi]) := fun l => by rw [hget_app (by have := hget_lt hh; omega), hs _ (hget_lt hh)]; exact hh
  simp only [List.nil_append, List.cons_append]
  refine ACalls.clean_ev (E := Tryz.E 13 Tryz.ord70 fs1) (Tryz.envOK 13 Tryz.ord70 fs1 fs1_ok) (.bool _) (hq) Tryz.kp70 Tryz.func70 rfl (by kernel_rfl) (by simp [Tryz.E]) (Callable.of Tryz.func70 (by kernel_rfl) (by kernel_rfl)) (by kernel_rfl) ?_
  simp only [tav]
  simp -implicitDefEqProofs (maxSteps := 2000000) (disch := omega) only [go_sem, reduceCtorEq, Nat.reduceAdd, Nat.reduceSub, Nat.reduceMul, Nat.reduceLT, Nat.reduceLeDiff, Nat.reduceEqDiff, Nat.reduceBEq, Int.reduceToNat, Int.reduceLT, Int.reduceLE, Int.reduceEq, Int.reduceNeg, Int.reduceAdd, Int.reduceSub, Int.reduceMul, ↓reduceIte, Int.reduceBEq, Int.reduceBNe, hg', hh']
  refine ⟨fun h1 h2 => ?_, fun h1 => ?_⟩ <;> simp [qis, *]
/-- Whether a tongue is within a range. -/
def withinL (e : Ear) (x : Int) (w : Rng) : Int × Int :=
  if (askL e (ckWant e.tones.length x w)).2 = 0 then (verd ((truthsL e).filter (qis x w)).length (truthsL e).length, 0) else (0, (askL e (ckWant e.tones.length x w)).2)
theorem within_m (e : Ear) (x : Int) (w : Rng) (h1 : e.tones.length ≤ 4294967296) (h2 : e.rds.length ≤ 4294967296) : PureV Tryz.prog 25 [e.av, .int .i64 x, w.av] (.tup [.int .i64 (withinL e x w).1, .int .i64 (withinL e x w).2]) := by
  refine PureV.of_ev (E := Tryz.E 25 Tryz.ord25 fs18) (Tryz.envOK 25 Tryz.ord25 fs18 fs18_ok) (ii_plain) Tryz.kp25 Tryz.func25 rfl (by kernel_rfl) (by simp [Tryz.E]) (Callable.of Tryz.func25 (by kernel_rfl) (by kernel_rfl)) (by kernel_rfl) ?_
  intro σ
  simp only [Ear.av, Rng.av]
  by_cases hk : (askL e (ckWant e.tones.length x w)).2 = 0
  · obtain ⟨hc, hw, hn, hke⟩ := askL_ok hk
    have he := okE_of_ck hc
    have hlen := he.len
    have hx := ckWant_ok hw
    have htl := truthsL_len he
    have hke' : askL ⟨e.slack, e.tones, e.rds⟩ 0 = (truthsL e, 0) := by rw [hw] at hke; exact hke
    have hd : withinL e x w = (verd ((truthsL e).filter (qis x w)).length (truthsL e).length, 0) := by unfold withinL; rw [if_pos hk]
    rw [hd]
    simp -implicitDefEqProofs (maxSteps := 2000000) (disch := omega) only [go_sem, reduceCtorEq, Nat.reduceAdd, Nat.reduceSub, Nat.reduceMul, Nat.reduceLT, Nat.reduceLeDiff, Nat.reduceEqDiff, Nat.reduceBEq, Int.reduceToNat, Int.reduceLT, Int.reduceLE, Int.reduceEq, Int.reduceNeg, Int.reduceAdd, Int.reduceSub, Int.reduceMul, ↓reduceIte, Int.reduceBEq, Int.reduceBNe, hke', hw, tavs]
    refine verdict_c (qis x w) (truthsL e) (by omega) (fun t ht => (truthsL_ok he t ht).1) (fun t ht => within1_v (x := x) (w := w) (by simp [hget_at]) (by simp [hget_at]) (by omega) (truthsL_ok he t ht).1) _ ?_
    simp -implicitDefEqProofs (maxSteps := 2000000) (disch := omega) only [go_sem, reduceCtorEq, Nat.reduceAdd, Nat.reduceSub, Nat.reduceMul, Nat.reduceLT, Nat.reduceLeDiff, Nat.reduceEqDiff, Nat.reduceBEq, Int.reduceToNat, Int.reduceLT, Int.reduceLE, Int.reduceEq, Int.reduceNeg, Int.reduceAdd, Int.reduceSub, Int.reduceMul, ↓reduceIte, Int.reduceBEq, Int.reduceBNe, hke', tavs]
  · have hk' : ¬ (askL ⟨e.slack, e.tones, e.rds⟩ (ckWant e.tones.length x w)).2 = 0 := hk
    have hd : withinL e x w = (0, (askL ⟨e.slack, e.tones, e.rds⟩ (ckWant e.tones.length x w)).2) := by unfold withinL; rw [if_neg hk]
    rw [hd]
    generalize hq : askL ⟨e.slack, e.tones, e.rds⟩ (ckWant e.tones.length x w) = q at hk'
    simp -implicitDefEqProofs (maxSteps := 2000000) (disch := omega) only [go_sem, reduceCtorEq, Nat.reduceAdd, Nat.reduceSub, Nat.reduceMul, Nat.reduceLT, Nat.reduceLeDiff, Nat.reduceEqDiff, Nat.reduceBEq, Int.reduceToNat, Int.reduceLT, Int.reduceLE, Int.reduceEq, Int.reduceNeg, Int.reduceAdd, Int.reduceSub, Int.reduceMul, ↓reduceIte, Int.reduceBEq, Int.reduceBNe, hq, hk', tavs]
def within_m_s := spec3 tEar tI tRng fun e x w => if e.tones.length ≤ 4294967296 ∧ e.rds.length ≤ 4294967296 then some (.tup [.int .i64 (withinL e x w).1, .int .i64 (withinL e x w).2]) else none
theorem within_m_ok : ∀ xs v, within_m_s xs = some v → PureV Tryz.prog 25 xs v :=
  spec3_ok fun e x w v h => by have h := someIf h; rw [← h.2]; exact within_m e x w h.1.1 h.1.2
theorem beats1_v {σ : List AObj} {ra rb rs : Nat} {a b s : Int} (hg : hget σ ra = some (.cells [.int .i64 a])) (hh : hget σ rb = some (.cells [.int .i64 b])) (hi : hget σ rs = some (.cells [.int .i64 s])) (ha : 0 ≤ a ∧ a ≤ 2) (hb : 0 ≤ b ∧ b ≤ 2) (hs' : 0 ≤ s ∧ s ≤ 20) {t : List Int} (ht : t.length = 3) (hsm : small t) :
    ClV Tryz.prog 73 [] [.ptr ra 0, .ptr rb 0, .ptr rs 0] σ [tav t] (.int .i64 (dist (tg t a) (tg t b) * s / 100)) := by
  intro σ' hl hs Q hq
  have hg' : ∀ l, hget (σ' ++ l) ra = some (.cells [.int .i64 a]) := fun l => by rw [hget_app (by have := hget_lt hg; omega), hs _ (hget_lt hg)]; exact hg
  have hh' : ∀ l, hget (σ' ++ l) rb = some (.cells [.int .i64 b]) := fun l => by rw [hget_app (by have := hget_lt hh; omega), hs _ (hget_lt hh)]; exact hh
  have hi' : ∀ l, hget (σ' ++ l) rs = some (.cells [.int .i64 s]) := fun l => by rw [hget_app (by have := hget_lt hi; omega), hs _ (hget_lt hi)]; exact hi
  have hm := mul_le (dist_le (small_tg hsm a) (small_tg hsm b)) hs'
  have hw : IntKind.i64.wrap (dist (tg t a) (tg t b) * s) = dist (tg t a) (tg t b) * s := wrap64 (by omega) (by omega)
  have hd : (dist (tg t a) (tg t b) * s).tdiv 100 = dist (tg t a) (tg t b) * s / 100 := Int.tdiv_eq_ediv_of_nonneg hm.1
  have hw2 : IntKind.i64.wrap (dist (tg t a) (tg t b) * s / 100) = dist (tg t a) (tg t b) * s / 100 := wrap64 (by omega) (by omega)
  simp only [List.nil_append, List.cons_append]
  refine ACalls.clean_ev (E := Tryz.E 13 Tryz.ord73 fs4) (Tryz.envOK 13 Tryz.ord73 fs4 fs4_ok) (.int _ _) (hq) Tryz.kp73 Tryz.func73 rfl (by kernel_rfl) (by simp [Tryz.E]) (Callable.of Tryz.func73 (by kernel_rfl) (by kernel_rfl)) (by kernel_rfl) ?_
  simp only [tav]
  simp -implicitDefEqProofs (maxSteps := 2000000) (disch := omega) only [go_sem, reduceCtorEq, Nat.reduceAdd, Nat.reduceSub, Nat.reduceMul, Nat.reduceLT, Nat.reduceLeDiff, Nat.reduceEqDiff, Nat.reduceBEq, Int.reduceToNat, Int.reduceLT, Int.reduceLE, Int.reduceEq, Int.reduceNeg, Int.reduceAdd, Int.reduceSub, Int.reduceMul, ↓reduceIte, Int.reduceBEq, Int.reduceBNe, hg', hh', hi', hsm, hw, hd, hw2]
def ckBeats (m a b s : Int) : Int := if ckTwo m a b = 0 then (if 1 ≤ s ∧ s ≤ 20 then 0 else 1) else ckTwo m a b
/-- How often two tongues beat. -/
def beatsL (e : Ear) (a b s : Int) : Rng × Int :=
  if (askL e (ckBeats e.tones.length a b s)).2 = 0 then (spanL (fun t => dist (tg t a) (tg t b) * s / 100) (truthsL e), 0) else (⟨0, 0⟩, (askL e (ckBeats e.tones.length a b s)).2)
theorem beats_m (e : Ear) (a b s : Int) (h1 : e.tones.length ≤ 4294967296) (h2 : e.rds.length ≤ 4294967296) : PureV Tryz.prog 35 [e.av, .int .i64 a, .int .i64 b, .int .i64 s] (.tup [(beatsL e a b s).1.av, .int .i64 (beatsL e a b s).2]) := by
  refine PureV.of_ev (E := Tryz.E 37 (fun _ => ([], [])) fs18) (Tryz.envOK 37 (fun _ => ([], [])) fs18 fs18_ok) (.tup (by simp; exact ⟨Rng.plain _, .int⟩)) Tryz.kp35 Tryz.func35 rfl (by kernel_rfl) (by simp [Tryz.E]) (Callable.of Tryz.func35 (by kernel_rfl) (by kernel_rfl)) (by kernel_rfl) ?_
  intro σ
  simp only [Ear.av]
  by_cases hk : (askL e (ckBeats e.tones.length a b s)).2 = 0
  · obtain ⟨hc, hw, hn, hke⟩ := askL_ok hk
    have he := okE_of_ck hc
    have hlen := he.len
    have hw2 : ckTwo e.tones.length a b = 0 := by
      unfold ckBeats at hw; split at hw
      · assumption
      · exact absurd hw (by assumption)
    have hs : 1 ≤ s ∧ s ≤ 20 := by
      unfold ckBeats at hw; rw [if_pos hw2] at hw; split at hw
      · assumption
      · cases hw
    obtain ⟨ha, hb, _⟩ := ckTwo_ok hlen hw2
    have htl := truthsL_len he
    have hke' : askL ⟨e.slack, e.tones, e.rds⟩ 0 = (truthsL e, 0) := by rw [hw] at hke; exact hke
    have hd : beatsL e a b s = (spanL (fun t => dist (tg t a) (tg t b) * s / 100) (truthsL e), 0) := by unfold beatsL; rw [if_pos hk]
    rw [hd]
    have hnum : ∀ t ∈ truthsL e, t.length = 3 ∧ small t := truthsL_ok he
    generalize truthsL e = T at htl hke' hn hnum
    simp -implicitDefEqProofs (maxSteps := 2000000) (disch := omega) only [go_sem, reduceCtorEq, Nat.reduceAdd, Nat.reduceSub, Nat.reduceMul, Nat.reduceLT, Nat.reduceLeDiff, Nat.reduceEqDiff, Nat.reduceBEq, Int.reduceToNat, Int.reduceLT, Int.reduceLE, Int.reduceEq, Int.reduceNeg, Int.reduceAdd, Int.reduceSub, Int.reduceMul, ↓reduceIte, Int.reduceBEq, Int.reduceBNe, hke', hw2, tavs]
    refine span_c (fun t => dist (tg t a) (tg t b) * s / 100) T hn (by omega) (fun t ht => (hnum t ht).1) (fun t ht => beats1_v (a := a) (b := b) (s := s) (by simp [hget_at]) (by simp [hget_at]) (by simp [hget_at]) ha hb (by omega) (hnum t ht).1 (hnum t ht).2) _ ?_
    generalize spanL (fun t => dist (tg t a) (tg t b) * s / 100) T = sp
    simp -implicitDefEqProofs (maxSteps := 2000000) (disch := omega) only [go_sem, reduceCtorEq, Nat.reduceAdd, Nat.reduceSub, Nat.reduceMul, Nat.reduceLT, Nat.reduceLeDiff, Nat.reduceEqDiff, Nat.reduceBEq, Int.reduceToNat, Int.reduceLT, Int.reduceLE, Int.reduceEq, Int.reduceNeg, Int.reduceAdd, Int.reduceSub, Int.reduceMul, ↓reduceIte, Int.reduceBEq, Int.reduceBNe, tavs, Rng.av]
  · have hk' : ¬ (askL ⟨e.slack, e.tones, e.rds⟩ (ckBeats e.tones.length a b s)).2 = 0 := hk
    have hd : beatsL e a b s = (⟨0, 0⟩, (askL ⟨e.slack, e.tones, e.rds⟩ (ckBeats e.tones.length a b s)).2) := by unfold beatsL; rw [if_neg hk]
    rw [hd]
    by_cases hw2 : ckTwo e.tones.length a b = 0
    · by_cases hs : 1 ≤ s ∧ s ≤ 20
      · have hv : ckBeats e.tones.length a b s = 0 := by unfold ckBeats; rw [if_pos hw2, if_pos hs]
        rw [hv] at hk' ⊢
        generalize hq : askL ⟨e.slack, e.tones, e.rds⟩ 0 = q at hk'
        simp -implicitDefEqProofs (maxSteps := 2000000) (disch := omega) only [go_sem, reduceCtorEq, Nat.reduceAdd, Nat.reduceSub, Nat.reduceMul, Nat.reduceLT, Nat.reduceLeDiff, Nat.reduceEqDiff, Nat.reduceBEq, Int.reduceToNat, Int.reduceLT, Int.reduceLE, Int.reduceEq, Int.reduceNeg, Int.reduceAdd, Int.reduceSub, Int.reduceMul, ↓reduceIte, Int.reduceBEq, Int.reduceBNe, hq, hk', hw2, tavs, Rng.av]
      · have hv : ckBeats e.tones.length a b s = 1 := by unfold ckBeats; rw [if_pos hw2, if_neg hs]
        rw [hv] at hk' ⊢
        generalize hq : askL ⟨e.slack, e.tones, e.rds⟩ 1 = q at hk'
        have hsd : decide (1 ≤ s ∧ s ≤ 20) = false := decide_eq_false hs
        simp -implicitDefEqProofs (maxSteps := 2000000) (disch := omega) only [go_sem, reduceCtorEq, Nat.reduceAdd, Nat.reduceSub, Nat.reduceMul, Nat.reduceLT, Nat.reduceLeDiff, Nat.reduceEqDiff, Nat.reduceBEq, Int.reduceToNat, Int.reduceLT, Int.reduceLE, Int.reduceEq, Int.reduceNeg, Int.reduceAdd, Int.reduceSub, Int.reduceMul, ↓reduceIte, Int.reduceBEq, Int.reduceBNe, hq, hk', hw2, hsd, tavs, Rng.av]
    · have hv : ckBeats e.tones.length a b s = ckTwo e.tones.length a b := by unfold ckBeats; rw [if_neg hw2]
      rw [hv] at hk' ⊢
      generalize hq : askL ⟨e.slack, e.tones, e.rds⟩ (ckTwo e.tones.length a b) = q at hk'
      simp -implicitDefEqProofs (maxSteps := 2000000) (disch := omega) only [go_sem, reduceCtorEq, Nat.reduceAdd, Nat.reduceSub, Nat.reduceMul, Nat.reduceLT, Nat.reduceLeDiff, Nat.reduceEqDiff, Nat.reduceBEq, Int.reduceToNat, Int.reduceLT, Int.reduceLE, Int.reduceEq, Int.reduceNeg, Int.reduceAdd, Int.reduceSub, Int.reduceMul, ↓reduceIte, Int.reduceBEq, Int.reduceBNe, hq, hk', hw2, tavs, Rng.av]
def beats_m_s := spec4 tEar tI tI tI fun e a b s => if e.tones.length ≤ 4294967296 ∧ e.rds.length ≤ 4294967296 then some (.tup [(beatsL e a b s).1.av, .int .i64 (beatsL e a b s).2]) else none
theorem beats_m_ok : ∀ xs v, beats_m_s xs = some v → PureV Tryz.prog 35 xs v :=
  spec4_ok fun e a b s v h => by have h := someIf h; rw [← h.2]; exact beats_m e a b s h.1.1 h.1.2
end Go.Proofs
