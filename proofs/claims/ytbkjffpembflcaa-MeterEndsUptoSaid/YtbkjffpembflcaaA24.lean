/- Texts of a proof: lemmas. -/
import Derived.Test.YtbkjffpembflcaaA23
set_option linter.unusedSimpArgs false
set_option linter.unusedVariables false
set_option maxRecDepth 100000
namespace Go.Proofs
open Go Go.Mu

def fs15 (f : FuncId) (xs : List AV) : Option AV := if f = 86 then byGates_s xs else fs14 f xs
theorem fs15_ok : ∀ f xs v, fs15 f xs = some v → PureV Try.prog f xs v := by
  intro f xs v h
  unfold fs15 at h
  split at h
  · rename_i e; subst e; exact byGates_ok _ _ h
  exact fs14_ok _ _ _ h
attribute [go_sem] fs15 byGates_s
theorem ckGates_ok {g : List Int} (h : ckGates g = 0) : g ≠ [] ∧ g.length ≤ 3 ∧ ∀ s ∈ g, 1 ≤ s ∧ s ≤ 20 := by
  unfold ckGates at h
  split at h
  · omega
  · rename_i h0
    split at h
    · omega
    · rename_i h1
      refine ⟨fun e => h0 (by rw [e]; rfl), by omega, fun s hs => ?_⟩
      obtain ⟨i, hi, rfl⟩ := List.mem_iff_getElem.1 hs
      have := firstE_all (f := ckG g) h i (by simpa using hi)
      simp only [ckG, tgE hi] at this
      grind
theorem byGatesL_ok {m : Nat} {gs : List Int} (hm : m ≤ 3) (hg : ∀ s ∈ gs, 1 ≤ s ∧ s ≤ 20) : ∀ r ∈ byGatesL m gs, okR r := by
  intro r hr
  simp only [byGatesL, gCC, gBB, gHH, gC, gBs, gHs, gB, gH, List.mem_append, List.mem_flatMap, List.mem_map, List.mem_range] at hr
  rcases hr with ⟨a, ha, s, hs, rfl⟩ | ⟨a, ha, b, hb, s, hs, rfl⟩ | ⟨a, ha, b, hb, rfl⟩
  · have := hg s hs
    simp only [okR]; omega
  · have := hg s hs
    simp only [okR]; omega
  · simp only [okR]; omega
theorem byGatesL_len {m : Nat} {gs : List Int} (hm : m ≤ 3) (hg : gs.length ≤ 20) : (byGatesL m gs).length ≤ 300 := by
  obtain ⟨b1, b2, b3⟩ := byGates_le hm hg (i := m) (by omega)
  simp only [byGatesL, List.length_append]; omega
theorem byGatesL_ne {m : Nat} {gs : List Int} (hm : 1 ≤ m) (hg : gs ≠ []) : byGatesL m gs ≠ [] := by
  obtain ⟨m, rfl⟩ : ∃ k, m = k + 1 := ⟨m - 1, by omega⟩
  obtain ⟨s, gs, rfl⟩ := List.exists_cons_of_ne_nil hg
  simp [byGatesL, gCC, gC, List.range_succ]
/-- The best reading, and what it leaves. -/
def bestOf (e : Ear) (gs : List Int) : Rd × Int := leastL (fun r => worstL r e.slack (truthsL e)) (byGatesL e.tones.length gs)
def bestL (e : Ear) (gs : List Int) : (Rd × Int) × Int := if (askL e (ckGates gs)).2 = 0 then (bestOf e gs, 0) else ((⟨0, 0, 0, 0, ⟨0, 0⟩⟩, 0), (askL e (ckGates gs)).2)
theorem best_p (e : Ear) (gs : List Int) (h1 : e.tones.length ≤ 4294967296) (h2 : e.rds.length ≤ 4294967296) (h3 : gs.length ≤ 4294967296) :
    PureV Try.prog 36 [e.av, .list .no 1 (gs.map (.int .i64))] (.tup [(bestL e gs).1.1.av, .int .i64 (bestL e gs).1.2, .int .i64 (bestL e gs).2]) := by
  refine PureV.of_ev (E := Try.E 31 Try.ord36 fs15) (Try.envOK 31 Try.ord36 fs15 fs15_ok) (.tup (by simp; exact ⟨Rd.plain _, .int, .int⟩)) Try.kp36 Try.func36 rfl (by kernel_rfl) (by simp [Try.E]) (Callable.of Try.func36 (by kernel_rfl) (by kernel_rfl)) (by kernel_rfl) ?_
  intro σ
  simp only [Ear.av]
  by_cases hk : (askL e (ckGates gs)).2 = 0
  · obtain ⟨hc, hw, hn, hke⟩ := askL_ok hk
    have he := okE_of_ck hc
    have hlen := he.len
    have htl := truthsL_len he
    obtain ⟨g1, g2, g3⟩ := ckGates_ok hw
    have hke' : askL ⟨e.slack, e.tones, e.rds⟩ (ckGates gs) = (truthsL e, 0) := hke
    simp -implicitDefEqProofs (maxSteps := 2000000) (disch := omega) only [go_sem, reduceCtorEq, Nat.reduceAdd, Nat.reduceSub, Nat.reduceMul, Nat.reduceLT, Nat.reduceLeDiff, Nat.reduceEqDiff, Nat.reduceBEq, Int.reduceToNat, Int.reduceLT, Int.reduceLE, Int.reduceEq, Int.reduceNeg, Int.reduceAdd, Int.reduceSub, Int.reduceMul, ↓reduceIte, Int.reduceBEq, Int.reduceBNe, hke', tavs]
    refine least_c (fun r => worstL r e.slack (truthsL e)) (byGatesL e.tones.length gs) (byGatesL_ne (by simp only [ck] at hc; grind) g1) (by have := byGatesL_len (m := e.tones.length) (gs := gs) hlen (by omega); omega)
      (fun x hx => best1_v (e := e) (l := truthsL e) (tk := .no) (by rw [hget_at]; rfl) (by rw [hget_at0]; rfl) he.sl (by omega) (fun t ht => truthsL_ok he t ht) (byGatesL_ok hlen g3 x hx)) _ ?_
    have hb : leastL (fun r => worstL r e.slack (truthsL e)) (byGatesL e.tones.length gs) = bestOf e gs := rfl
    rw [hb]
    have hb2 : (bestL e gs) = (bestOf e gs, 0) := by simp [bestL, hk]
    rw [hb2]
    generalize bestOf e gs = b
    simp -implicitDefEqProofs (maxSteps := 2000000) (disch := omega) only [go_sem, reduceCtorEq, Nat.reduceAdd, Nat.reduceSub, Nat.reduceMul, Nat.reduceLT, Nat.reduceLeDiff, Nat.reduceEqDiff, Nat.reduceBEq, Int.reduceToNat, Int.reduceLT, Int.reduceLE, Int.reduceEq, Int.reduceNeg, Int.reduceAdd, Int.reduceSub, Int.reduceMul, ↓reduceIte, Int.reduceBEq, Int.reduceBNe, tavs, Rd.av]
  · have hk' : ¬ (askL ⟨e.slack, e.tones, e.rds⟩ (ckGates gs)).2 = 0 := hk
    have hb2 : bestL e gs = ((⟨0, 0, 0, 0, ⟨0, 0⟩⟩, 0), (askL ⟨e.slack, e.tones, e.rds⟩ (ckGates gs)).2) := by simp only [bestL, hk, if_false]
    rw [hb2]
    generalize hq : askL ⟨e.slack, e.tones, e.rds⟩ (ckGates gs) = q at hk'
    simp -implicitDefEqProofs (maxSteps := 2000000) (disch := omega) only [go_sem, reduceCtorEq, Nat.reduceAdd, Nat.reduceSub, Nat.reduceMul, Nat.reduceLT, Nat.reduceLeDiff, Nat.reduceEqDiff, Nat.reduceBEq, Int.reduceToNat, Int.reduceLT, Int.reduceLE, Int.reduceEq, Int.reduceNeg, Int.reduceAdd, Int.reduceSub, Int.reduceMul, ↓reduceIte, Int.reduceBEq, Int.reduceBNe, hq, hk', tavs, Rd.av]
end Go.Proofs
