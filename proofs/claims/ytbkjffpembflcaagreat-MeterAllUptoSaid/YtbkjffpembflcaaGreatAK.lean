/- Texts of a proof: lemmas. -/
import Derived.Test.YtbkjffpembflcaaGreatA36
import Derived.Test.YtbkjffpembflcaaGreatAN
set_option linter.unusedSimpArgs false
set_option linter.unusedVariables false
set_option maxRecDepth 100000
namespace Go.Proofs
open Go Go.Mu

/-- One reading more: what the law asks of it. -/
structure MoreP (e : Ear) (r : Rd) : Prop where
  wi : withL e r = (⟨e.slack, e.tones, e.rds ++ [r]⟩, 0)
  n1 : truthsN e = (((truthsL e).length : Int), 0)
  n2 : truthsN ⟨e.slack, e.tones, e.rds ++ [r]⟩ = (((truthsL ⟨e.slack, e.tones, e.rds ++ [r]⟩).length : Int), 0)
  wo : worstOf e r = (worstL r e.slack (truthsL e), 0)
  l1 : 1 ≤ (truthsL ⟨e.slack, e.tones, e.rds ++ [r]⟩).length
  l2 : (truthsL ⟨e.slack, e.tones, e.rds ++ [r]⟩).length ≤ (truthsL e).length
  l3 : worstL r e.slack (truthsL e) ≤ (truthsL e).length
  l4 : r.kind ≠ 2 → ((truthsL ⟨e.slack, e.tones, e.rds ++ [r]⟩).length : Int) ≤ worstL r e.slack (truthsL e)
  t1 : tonesL e = ((List.range e.tones.length).map fun (i : Nat) => spanL (fun t => tg t i) (truthsL e), 0)
  t2 : tonesL ⟨e.slack, e.tones, e.rds ++ [r]⟩ = ((List.range e.tones.length).map fun (i : Nat) => spanL (fun t => tg t i) (truthsL ⟨e.slack, e.tones, e.rds ++ [r]⟩), 0)
  t3 : ∀ num, (spanL num (truthsL e)).lo ≤ (spanL num (truthsL ⟨e.slack, e.tones, e.rds ++ [r]⟩)).lo ∧ (spanL num (truthsL ⟨e.slack, e.tones, e.rds ++ [r]⟩)).hi ≤ (spanL num (truthsL e)).hi
  f : ∀ s, 0 ≤ s → s ≤ e.slack → tonesL ⟨s, e.tones, e.rds⟩ = ([], 9) ∨
    (tonesL ⟨s, e.tones, e.rds⟩ = ((List.range e.tones.length).map fun (i : Nat) => spanL (fun t => tg t i) (truthsL ⟨s, e.tones, e.rds⟩), 0) ∧
      ∀ num, (spanL num (truthsL e)).lo ≤ (spanL num (truthsL ⟨s, e.tones, e.rds⟩)).lo ∧ (spanL num (truthsL ⟨s, e.tones, e.rds⟩)).hi ≤ (spanL num (truthsL e)).hi)

theorem ck_slack {e : Ear} (h : ck e = 0) {s : Int} (h1 : 0 ≤ s ∧ s ≤ 3) : ck ⟨s, e.tones, e.rds⟩ = 0 := by
  simp only [ck] at h ⊢
  grind
theorem outO_filter {r : Rd} {sl : Int} {l : List (List Int)} (hk : r.kind ≠ 2) (hc : r.kind = 1 ∨ r.kind = 3) (hs : r.kind = 1 → r.shown.lo = r.shown.hi) (hsh : 0 ≤ r.shown.lo ∧ r.shown.lo ≤ 25000) (hsl : 0 ≤ sl) (hn : ∀ t ∈ l, 0 ≤ tg t r.a * r.sec) :
    ∃ c, (l.filter (isR r sl)) = outO r sl l c := by
  rcases hc with hc | hc
  · refine ⟨r.shown.lo, ?_⟩
    unfold outO
    refine List.filter_congr fun t ht => ?_
    rw [Bool.eq_iff_iff, decide_eq_true_iff, mem_shows_count hc hsl (hn t ht)]
    have e : withS r r.shown.lo = r := by
      have := hs hc
      obtain ⟨k, a, b, s, ⟨x, y⟩⟩ := r
      simp only at this; subst this; rfl
    rw [e]
    exact ⟨fun h => ⟨hsh, h⟩, fun h => h.2⟩
  · refine ⟨1, ?_⟩
    unfold outO
    refine List.filter_congr fun t ht => ?_
    rw [Bool.eq_iff_iff, decide_eq_true_iff]
    unfold showsL
    rw [if_neg (by omega), if_neg (by omega)]
    cases isR r sl t <;> simp
theorem more_of {m n w : Int} {e : Ear} {T : List Int} (h : EarP m n w e T) (hn : n ≤ 5) {r : Rd} (hr : ckR r T.length = 0) (hi : isR r e.slack T = true) (hs : r.kind = 1 → r.shown.lo = r.shown.hi) : MoreP e r := by
  have hc := h.ck
  have he := okE_of_ck hc
  have hr' : ckR r e.tones.length = 0 := by rw [h.len]; exact hr
  have hrn := h.rn
  have hck : ck ⟨e.slack, e.tones, e.rds ++ [r]⟩ = 0 := ck_more hc hr' (by omega)
  have hf : truthsL ⟨e.slack, e.tones, e.rds ++ [r]⟩ = (truthsL e).filter (isR r e.slack) := truthsL_more e.slack e.tones e.rds r
  have hm : padT T ∈ truthsL ⟨e.slack, e.tones, e.rds ++ [r]⟩ := by
    rw [hf, List.mem_filter]; exact ⟨h.truth, by rw [isR_pad]; exact hi⟩
  have hne : truthsL ⟨e.slack, e.tones, e.rds ++ [r]⟩ ≠ [] := fun hn => by rw [hn] at hm; cases hm
  have hne0 : truthsL e ≠ [] := h.known.2
  have hsub : ∀ t ∈ truthsL ⟨e.slack, e.tones, e.rds ++ [r]⟩, t ∈ truthsL e := fun t ht => by rw [hf] at ht; exact (List.mem_filter.1 ht).1
  have hsl := h.sl
  have hq : r.kind ≠ 2 → ∃ c, ((truthsL e).filter (isR r e.slack)) = outO r e.slack (truthsL e) c := fun hk => by
    simp only [ckR] at hr
    have h1 : 1 ≤ r.kind ∧ r.kind ≤ 3 := by grind
    have h2 : 0 ≤ r.shown.lo ∧ r.shown.lo ≤ 25000 := by grind
    have h3 : 0 ≤ r.sec := by grind
    refine outO_filter hk (by omega) hs h2 hsl.1 fun t ht => ?_
    have := small_tg (truthsL_ok he t ht).2 r.a
    exact Int.mul_nonneg this.1 h3
  refine ⟨?_, ?_, ?_, h.worst hr', ?_, ?_, worst_le _ _ _, ?_, ?_, ?_, fun num => span_sub hne hsub, fun s s1 s2 => ?_⟩
  · unfold withL mayL
    rw [if_neg (by simp [hc]), if_neg (by simp [hr']), if_neg (by omega), if_neg (by simp [hne])]
  · unfold truthsN; rw [if_pos hc]
  · unfold truthsN; rw [if_pos hck]
  · exact List.length_pos_iff.2 hne
  · rw [hf]; exact List.length_filter_le _ _
  · intro hk
    rw [hf]
    obtain ⟨c, hcc⟩ := hq hk
    rw [hcc]
    exact (worst_spec r e.slack (truthsL e)).1 c
  · unfold tonesL; rw [if_pos (by simp [knownL, hc, hne0])]
  · unfold tonesL; rw [if_pos (by simp [knownL, hck, hne])]
  · have hks := ck_slack hc (s := s) (by omega)
    have hk : ∀ t ∈ truthsL ⟨s, e.tones, e.rds⟩, t ∈ truthsL e := fun t ht => by
      rw [truthsL_filter, List.mem_filter] at ht ⊢
      refine ⟨ht.1, ?_⟩
      have h2 := ht.2
      unfold fitsR at h2 ⊢
      rw [List.all_eq_true] at h2 ⊢
      exact fun x hx => isR_slacker s2 (h2 x hx)
    by_cases h0 : truthsL ⟨s, e.tones, e.rds⟩ = []
    · left; unfold tonesL; rw [if_neg (by simp [knownL, hks, h0])]; simp [knownL, hks, h0]
    · right
      exact ⟨by unfold tonesL; rw [if_pos (by simp [knownL, hks, h0])], fun num => span_sub h0 hk⟩
/-- A count that shows one number, and a true one. -/
def cutR (sl : Int) (T : List Int) (r : Rd) : Rd :=
  if r.kind = 1 then (if tg T r.a * r.sec ≤ 100 * (r.shown.lo - 1 - sl) ∨ 100 * (r.shown.lo + 1 + sl) ≤ tg T r.a * r.sec then withS r (tg T r.a * r.sec / 100) else withS r r.shown.lo) else r
theorem cutR_ok {sl : Int} {T : List Int} {r : Rd} (hsl : 0 ≤ sl) (hT : ∀ x ∈ T, 50 ≤ x ∧ x ≤ 50030) (hr : ckR r T.length = 0) (hi : isR r sl T = true) :
    ckR (cutR sl T r) T.length = 0 ∧ isR (cutR sl T r) sl T = true ∧ ((cutR sl T r).kind = 1 → (cutR sl T r).shown.lo = (cutR sl T r).shown.hi) := by
  unfold cutR
  split
  · rename_i hk
    have h0 := hr
    simp only [ckR] at h0
    have h1 : 0 ≤ r.sec ∧ r.sec ≤ 20 := by grind
    have h2 : 0 ≤ r.a ∧ r.a ≤ (T.length : Int) - 1 := by grind
    have h3 : 0 ≤ r.shown.lo ∧ r.shown.lo ≤ 25000 := by grind
    have h4 : 50 ≤ tg T r.a ∧ tg T r.a ≤ 50030 := by
      have e : r.a = (r.a.toNat : Int) := by omega
      rw [e, tgE (by omega)]
      exact hT _ (List.getElem_mem _)
    have h5 : 0 ≤ tg T r.a * r.sec ∧ tg T r.a * r.sec ≤ 1000600 := ⟨Int.mul_nonneg (by omega) h1.1, by have := Int.mul_le_mul h4.2 h1.2 h1.1 (by omega); omega⟩
    split
    · refine ⟨?_, ?_, fun _ => rfl⟩
      · simp only [ckR, withS] at hr ⊢; grind
      · unfold isR
        rw [if_pos (show (withS r _).kind = 1 from hk)]
        refine decide_eq_true ?_
        simp only [withS]
        omega
    · refine ⟨?_, ?_, fun _ => rfl⟩
      · simp only [ckR, withS] at hr ⊢; grind
      · unfold isR
        rw [if_pos (show (withS r _).kind = 1 from hk)]
        refine decide_eq_true ?_
        simp only [withS]
        omega
  · rename_i hk
    exact ⟨hr, hi, fun h => absurd h hk⟩
end Go.Proofs
set_option linter.unusedSimpArgs false
set_option linter.unusedVariables false
set_option maxRecDepth 100000
namespace Go.Proofs
open Go Go.Mu

def wider_s := spec2 tRng tRng fun x y => some (.bool (decide (x.lo ≤ y.lo ∧ y.hi ≤ x.hi)))
def copyEar_s := spec1 tEar fun e => if e.tones.length ≤ 4294967296 ∧ e.rds.length ≤ 4294967296 then some e.av else none
theorem copyEar_ok : ∀ xs v, copyEar_s xs = some v → PureV Tryz.prog 10 xs v :=
  spec1_ok fun e v h => by have h := someIf h; rw [← h.2]; exact copyEar_p e h.1.1 h.1.2
def fs22 (f : FuncId) (xs : List AV) : Option AV := if f = 10 then copyEar_s xs else fs21 f xs
theorem fs22_ok : ∀ f xs v, fs22 f xs = some v → PureV Tryz.prog f xs v := by
  intro f xs v h
  unfold fs22 at h
  split at h
  · rename_i e; subst e; exact copyEar_ok _ _ h
  exact fs21_ok _ _ _ h
attribute [go_sem] fs22 copyEar_s
end Go.Proofs
