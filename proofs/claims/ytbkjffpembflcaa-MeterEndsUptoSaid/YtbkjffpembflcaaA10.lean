/- Texts of a proof: lemmas. -/
import Derived.Test.YtbkjffpembflcaaA9
set_option linter.unusedSimpArgs false
set_option linter.unusedVariables false
set_option maxRecDepth 100000
namespace Go.Proofs
open Go Go.Mu

def leastS (num : Rd → Int) (b : Rd × Int) (x : Rd) : Rd × Int := if num x < b.2 then (x, num x) else b
/-- The first one of several readings that has the least number. -/
def leastL (num : Rd → Int) (l : List Rd) : Rd × Int := (l.drop 1).foldl (leastS num) (l.headD default, num (l.headD default))
theorem idx_zero {x : AV} {xs : List AV} : idx (x :: xs) 0 = some x := rfl
theorem rdI_plain {x : Rd} {n : Int} : Plain (.tup [x.av, .int .i64 n]) := .tup (by simp; exact ⟨Rd.plain _, .int⟩)
theorem wk_rdv (r : Rd) (sl : Int) : wk (rdv r sl) (rdv r sl) := by
  unfold rdv; split
  · rfl
  · split <;> rfl
theorem least_c {g : FuncId} {p q : List AV} {σ : List AObj} (num : Rd → Int) (l : List Rd) (hl : l ≠ []) (hl2 : l.length ≤ 4294967296) (hn : ∀ x ∈ l, ClV Try.prog g p q σ [x.av] (.int .i64 (num x))) (Q : AV → List AObj → Prop) (h : Q (.tup [(leastL num l).1.av, .int .i64 (leastL num l).2]) σ) :
    ACalls Try.prog 102 [.list .no 6 (l.map Rd.av), .fn (.func g) p q] σ Q := by
  obtain ⟨y, l, rfl⟩ : ∃ y l', l = y :: l' := by cases l with | nil => exact absurd rfl hl | cons a b => exact ⟨a, b, rfl⟩
  have hL : leastL num (y :: l) = l.foldl (leastS num) (y, num y) := rfl
  rw [hL] at h
  refine ACalls.clean_ev (E := Try.E 37 Try.ord102 fs0) (Try.envOK 37 Try.ord102 fs0 fs0_ok) (rdI_plain _) (h) Try.kp102 Try.func102 rfl (by kernel_rfl) (by simp [Try.E]) (Callable.of Try.func102 (by kernel_rfl) (by kernel_rfl)) (by kernel_rfl) ?_
  simp only [List.length_cons] at hl2
  simp only [List.map_cons]
  simp -implicitDefEqProofs (maxSteps := 2000000) (disch := omega) only [go_sem, reduceCtorEq, Nat.reduceAdd, Nat.reduceSub, Nat.reduceMul, Nat.reduceLT, Nat.reduceLeDiff, Nat.reduceEqDiff, Nat.reduceBEq, Int.reduceToNat, Int.reduceLT, Int.reduceLE, Int.reduceEq, Int.reduceNeg, Int.reduceAdd, Int.reduceSub, Int.reduceMul, ↓reduceIte, Int.reduceBEq, Int.reduceBNe, idx_zero, Rd.av]
  refine (hn y (by simp)).app1 ?_
  simp -implicitDefEqProofs (maxSteps := 2000000) (disch := omega) only [go_sem, reduceCtorEq, Nat.reduceAdd, Nat.reduceSub, Nat.reduceMul, Nat.reduceLT, Nat.reduceLeDiff, Nat.reduceEqDiff, Nat.reduceBEq, Int.reduceToNat, Int.reduceLT, Int.reduceLE, Int.reduceEq, Int.reduceNeg, Int.reduceAdd, Int.reduceSub, Int.reduceMul, ↓reduceIte, Int.reduceBEq, Int.reduceBNe, idx_zero, Rd.av]
  refine ARun.forS (Try.envOK 37 Try.ord102 fs0 fs0_ok) l.length (fun _ => True) (fun i => [(20, .list .no 6 (l.map Rd.av)), (21, .int .i64 l.length), (7, .int .i64 ((l.take i).foldl (leastS num) (y, num y)).2), (22, .int .i64 i)]) (fun i j => σ ++ (.cells (Rd.mk 0 0 0 0 ⟨0, 0⟩).av.cells :: .cells ((l.take i).foldl (leastS num) (y, num y)).1.av.cells :: j)) [] (by kernel_rfl) rfl (by simp [upd, ins, subF, lookA, List.take_of_length_le]) trivial ?_ ?_
  · intro i j hi _ ih
    rw [foldl_take _ _ _ _ hi] at ih
    generalize (l.take i).foldl (leastS num) (y, num y) = b at ih ⊢
    simp -implicitDefEqProofs (maxSteps := 2000000) (disch := omega) only [go_sem, reduceCtorEq, Nat.reduceAdd, Nat.reduceSub, Nat.reduceMul, Nat.reduceLT, Nat.reduceLeDiff, Nat.reduceEqDiff, Nat.reduceBEq, Int.reduceToNat, Int.reduceLT, Int.reduceLE, Int.reduceEq, Int.reduceNeg, Int.reduceAdd, Int.reduceSub, Int.reduceMul, ↓reduceIte, Int.reduceBEq, Int.reduceBNe, Rd.av]
    refine (hn l[i] (by simp)).app1 ?_
    by_cases hc : num l[i] < b.2
    · simp -implicitDefEqProofs (maxSteps := 2000000) (disch := omega) only [go_sem, reduceCtorEq, Nat.reduceAdd, Nat.reduceSub, Nat.reduceMul, Nat.reduceLT, Nat.reduceLeDiff, Nat.reduceEqDiff, Nat.reduceBEq, Int.reduceToNat, Int.reduceLT, Int.reduceLE, Int.reduceEq, Int.reduceNeg, Int.reduceAdd, Int.reduceSub, Int.reduceMul, ↓reduceIte, Int.reduceBEq, Int.reduceBNe, Rd.av]
      refine (ih trivial (j ++ [_])).castS (by simp only [leastS, hc, if_true]; rfl) (by simp [upd, ins, subF, lookA, leastS, hc, Rd.av])
    · simp -implicitDefEqProofs (maxSteps := 2000000) (disch := omega) only [go_sem, reduceCtorEq, Nat.reduceAdd, Nat.reduceSub, Nat.reduceMul, Nat.reduceLT, Nat.reduceLeDiff, Nat.reduceEqDiff, Nat.reduceBEq, Int.reduceToNat, Int.reduceLT, Int.reduceLE, Int.reduceEq, Int.reduceNeg, Int.reduceAdd, Int.reduceSub, Int.reduceMul, ↓reduceIte, Int.reduceBEq, Int.reduceBNe, Rd.av]
      refine (ih trivial (j ++ [_])).castS (by simp only [leastS, hc, if_false]; rfl) (by simp [upd, ins, subF, lookA, leastS, hc, Rd.av])
  · intro j _
    rw [List.take_length]
    simp -implicitDefEqProofs (maxSteps := 2000000) (disch := omega) only [go_sem, reduceCtorEq, Nat.reduceAdd, Nat.reduceSub, Nat.reduceMul, Nat.reduceLT, Nat.reduceLeDiff, Nat.reduceEqDiff, Nat.reduceBEq, Int.reduceToNat, Int.reduceLT, Int.reduceLE, Int.reduceEq, Int.reduceNeg, Int.reduceAdd, Int.reduceSub, Int.reduceMul, ↓reduceIte, Int.reduceBEq, Int.reduceBNe, Rd.av]
theorem best1_v {σ : List AObj} {r1 r2 : Nat} {e : Ear} {l : List (List Int)} {tk : Tok} (hg : hget σ r1 = some (.cells [.list tk 3 (l.map tav)])) (hh : hget σ r2 = some (.cells e.cells)) (hsl : 0 ≤ e.slack ∧ e.slack ≤ 3) (hl : l.length ≤ 10000) (h3 : ∀ t ∈ l, t.length = 3 ∧ small t) {x : Rd} (hx : okR x) :
    ClV Try.prog 103 [] [.ptr r1 0, .ptr r2 0] σ [x.av] (.int .i64 (worstL x e.slack l)) := by
  intro σ' hl' hs Q hq
  have hg' : ∀ l, hget (σ' ++ l) r1 = some _ := fun l => by rw [hget_app (by have := hget_lt hg; omega), hs _ (hget_lt hg)]; exact hg
  have hh' : ∀ l, hget (σ' ++ l) r2 = some _ := fun l => by rw [hget_app (by have := hget_lt hh; omega), hs _ (hget_lt hh)]; exact hh
  simp only [List.nil_append, List.cons_append]
  refine ACalls.clean_ev (E := Try.E 11 Try.ord103 fs5) (Try.envOK 11 Try.ord103 fs5 fs5_ok) (.int _ _) (hq) Try.kp103 Try.func103 rfl (by kernel_rfl) (by simp [Try.E]) (Callable.of Try.func103 (by kernel_rfl) (by kernel_rfl)) (by kernel_rfl) ?_
  simp -implicitDefEqProofs (maxSteps := 2000000) (disch := omega) only [go_sem, reduceCtorEq, Nat.reduceAdd, Nat.reduceSub, Nat.reduceMul, Nat.reduceLT, Nat.reduceLeDiff, Nat.reduceEqDiff, Nat.reduceBEq, Int.reduceToNat, Int.reduceLT, Int.reduceLE, Int.reduceEq, Int.reduceNeg, Int.reduceAdd, Int.reduceSub, Int.reduceMul, ↓reduceIte, Int.reduceBEq, Int.reduceBNe, hg', hh', Rd.av, Ear.cells, giveB_rdv]
  refine ACalls.weaken (l' := [tavs l, rdv x e.slack]) ⟨⟨rfl, .inl rfl, .inl rfl⟩, wk_rdv _ _, trivial⟩ (worst_p x e.slack l hx hsl hl h3 _ _ ?_)
  simp -implicitDefEqProofs (maxSteps := 2000000) (disch := omega) only [go_sem, reduceCtorEq, Nat.reduceAdd, Nat.reduceSub, Nat.reduceMul, Nat.reduceLT, Nat.reduceLeDiff, Nat.reduceEqDiff, Nat.reduceBEq, Int.reduceToNat, Int.reduceLT, Int.reduceLE, Int.reduceEq, Int.reduceNeg, Int.reduceAdd, Int.reduceSub, Int.reduceMul, ↓reduceIte, Int.reduceBEq, Int.reduceBNe]
end Go.Proofs
