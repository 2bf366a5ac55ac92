/- Texts of a proof: lemmas. -/
import Derived.Test.YthejgnlikaiddaaDoorPH
import Derived.Test.YthejgnlikaiddaaDoorMS
set_option linter.unusedSimpArgs false
set_option linter.unusedVariables false
set_option maxRecDepth 100000
namespace Go.Proofs
open Go Go.Mu

def fs11 (f : FuncId) (xs : List AV) : Option AV := if f = 17 then pFits_s xs else if f = 20 then forged_s xs else fs10 f xs
theorem fs11_ok : ∀ f xs v, fs11 f xs = some v → PureV Tryd.prog f xs v := by
  intro f xs v h
  unfold fs11 at h
  split at h
  · rename_i e; subst e; exact pFits_ok _ _ h
  split at h
  · rename_i e; subst e; exact forged_ok _ _ h
  exact fs10_ok _ _ _ h
attribute [go_sem] fs11 pFits_s forged_s
/-- A function value that computes alone, as long as some objects are as they were. -/
def ClV (P : Program) (g : FuncId) (p q : List AV) (σ : List AObj) (xs : List AV) (v : AV) : Prop :=
  ∀ σ', σ.length ≤ σ'.length → (∀ k, k < σ.length → hget σ' k = hget σ k) → ∀ Q : AV → List AObj → Prop, Q v σ' → ACalls P g (p ++ xs ++ q) σ' Q
theorem ClV.app {P : Program} {g : FuncId} {p q : List AV} {σ l : List AObj} {xs : List AV} {v : AV} (h : ClV P g p q σ xs v) {Q : AV → List AObj → Prop} (hq : Q v (σ ++ l)) : ACalls P g (p ++ xs ++ q) (σ ++ l) Q :=
  h _ (by simp) (fun k hk => hget_app hk) Q hq
theorem ClV.app1 {P : Program} {g : FuncId} {p q : List AV} {σ l : List AObj} {x : AV} {v : AV} (h : ClV P g p q σ [x] v) {Q : AV → List AObj → Prop} (hq : Q v (σ ++ l)) : ACalls P g (p ++ x :: q) (σ ++ l) Q := by
  have := h.app (l := l) hq
  simpa using this
def leastS {α : Type} (num : α → Int) (b : α × Int) (x : α) : α × Int := if num x < b.2 then (x, num x) else b
/-- The first one of several things that has the least number. -/
def leastL {α : Type} [Inhabited α] (num : α → Int) (l : List α) : α × Int := (l.drop 1).foldl (leastS num) (l.headD default, num (l.headD default))
theorem idx_zero {x : AV} {xs : List AV} : idx (x :: xs) 0 = some x := rfl
theorem madeI_plain {x : Made} {n : Int} : Plain (.tup [x.av, .int .i64 n]) := .tup (by simp; exact ⟨Made_plain _, .int⟩)
set_option maxHeartbeats 4000000 in
theorem leastM_c {g : FuncId} {p q : List AV} {σ : List AObj} (num : Made → Int) (l : List Made) (hl : l ≠ []) (hl2 : l.length ≤ 4294967296) (hn : ∀ x ∈ l, ClV Tryd.prog g p q σ [x.av] (.int .i64 (num x))) (Q : AV → List AObj → Prop) (h : Q (.tup [(leastL num l).1.av, .int .i64 (leastL num l).2]) σ) :
    ACalls Tryd.prog 49 [.list .no 8 (l.map Made.av), .fn (.func g) p q] σ Q := by
  obtain ⟨y, l, rfl⟩ : ∃ y l', l = y :: l' := by cases l with | nil => exact absurd rfl hl | cons a b => exact ⟨a, b, rfl⟩
  have hL : leastL num (y :: l) = l.foldl (leastS num) (y, num y) := rfl
  rw [hL] at h
  refine ACalls.clean_ev (E := Tryd.E 37 Tryd.ord49 fs0) (Tryd.envOK 37 Tryd.ord49 fs0 fs0_ok) (madeI_plain _) (h) Tryd.kp49 Tryd.func49 rfl (by kernel_rfl) (by simp [Tryd.E]) (Callable.of Tryd.func49 (by kernel_rfl) (by kernel_rfl)) (by kernel_rfl) ?_
  simp only [List.length_cons] at hl2
  simp only [List.map_cons]
  simp -implicitDefEqProofs (maxSteps := 2000000) (disch := omega) only [go_sem, reduceCtorEq, Nat.reduceAdd, Nat.reduceSub, Nat.reduceMul, Nat.reduceLT, Nat.reduceLeDiff, Nat.reduceEqDiff, Nat.reduceBEq, Int.reduceToNat, Int.reduceLT, Int.reduceLE, Int.reduceEq, Int.reduceNeg, Int.reduceAdd, Int.reduceSub, Int.reduceMul, ↓reduceIte, Int.reduceBEq, Int.reduceBNe, idx_zero, Made.av]
  refine (hn y (by simp)).app1 ?_
  simp -implicitDefEqProofs (maxSteps := 2000000) (disch := omega) only [go_sem, reduceCtorEq, Nat.reduceAdd, Nat.reduceSub, Nat.reduceMul, Nat.reduceLT, Nat.reduceLeDiff, Nat.reduceEqDiff, Nat.reduceBEq, Int.reduceToNat, Int.reduceLT, Int.reduceLE, Int.reduceEq, Int.reduceNeg, Int.reduceAdd, Int.reduceSub, Int.reduceMul, ↓reduceIte, Int.reduceBEq, Int.reduceBNe, idx_zero, Made.av]
  refine ARun.forS (Tryd.envOK 37 Tryd.ord49 fs0 fs0_ok) l.length (fun _ => True) (fun i => [(20, .list .no 8 (l.map Made.av)), (21, .int .i64 l.length), (7, .int .i64 ((l.take i).foldl (leastS num) (y, num y)).2), (22, .int .i64 i)]) (fun i j => σ ++ (.cells (Made.mk 0 0 0 0 0 0 ⟨0, 0⟩).cells :: .cells ((l.take i).foldl (leastS num) (y, num y)).1.cells :: j)) [] (by kernel_rfl) rfl (by simp [upd, ins, subF, lookA, List.take_of_length_le]) trivial ?_ ?_
  · intro i j hi _ ih
    rw [foldl_take _ _ _ _ hi] at ih
    generalize (l.take i).foldl (leastS num) (y, num y) = b at ih ⊢
    simp -implicitDefEqProofs (maxSteps := 2000000) (disch := omega) only [go_sem, reduceCtorEq, Nat.reduceAdd, Nat.reduceSub, Nat.reduceMul, Nat.reduceLT, Nat.reduceLeDiff, Nat.reduceEqDiff, Nat.reduceBEq, Int.reduceToNat, Int.reduceLT, Int.reduceLE, Int.reduceEq, Int.reduceNeg, Int.reduceAdd, Int.reduceSub, Int.reduceMul, ↓reduceIte, Int.reduceBEq, Int.reduceBNe, Made.av, Made.cells]
    refine (hn l[i] (by simp)).app1 ?_
    by_cases hc : num l[i] < b.2
    · simp -implicitDefEqProofs (maxSteps := 2000000) (disch := omega) only [go_sem, reduceCtorEq, Nat.reduceAdd, Nat.reduceSub, Nat.reduceMul, Nat.reduceLT, Nat.reduceLeDiff, Nat.reduceEqDiff, Nat.reduceBEq, Int.reduceToNat, Int.reduceLT, Int.reduceLE, Int.reduceEq, Int.reduceNeg, Int.reduceAdd, Int.reduceSub, Int.reduceMul, ↓reduceIte, Int.reduceBEq, Int.reduceBNe, Made.av, Made.cells]
      refine (ih trivial (j ++ [_])).castS (by simp only [leastS, hc, if_true]; rfl) (by simp [upd, ins, subF, lookA, leastS, hc, Made.av])
    · simp -implicitDefEqProofs (maxSteps := 2000000) (disch := omega) only [go_sem, reduceCtorEq, Nat.reduceAdd, Nat.reduceSub, Nat.reduceMul, Nat.reduceLT, Nat.reduceLeDiff, Nat.reduceEqDiff, Nat.reduceBEq, Int.reduceToNat, Int.reduceLT, Int.reduceLE, Int.reduceEq, Int.reduceNeg, Int.reduceAdd, Int.reduceSub, Int.reduceMul, ↓reduceIte, Int.reduceBEq, Int.reduceBNe, Made.av, Made.cells]
      refine (ih trivial (j ++ [_])).castS (by simp only [leastS, hc, if_false]; rfl) (by simp [upd, ins, subF, lookA, leastS, hc, Made.av])
  · intro j _
    rw [List.take_length]
    simp -implicitDefEqProofs (maxSteps := 2000000) (disch := omega) only [go_sem, reduceCtorEq, Nat.reduceAdd, Nat.reduceSub, Nat.reduceMul, Nat.reduceLT, Nat.reduceLeDiff, Nat.reduceEqDiff, Nat.reduceBEq, Int.reduceToNat, Int.reduceLT, Int.reduceLE, Int.reduceEq, Int.reduceNeg, Int.reduceAdd, Int.reduceSub, Int.reduceMul, ↓reduceIte, Int.reduceBEq, Int.reduceBNe, Made.av, Made.cells]
theorem Least1_v {σ : List AObj} {r : Nat} {o : Old} {cs : List AV} (hg : hget σ r = some (.cells cs)) (h0 : cs[0]? = some (isv o.seen)) (hs : o.seen.length ≤ 4) (x : Made) :
    ClV Tryd.prog 50 [] [.ptr r 0] σ [x.av] (.int .i64 (changedN x.look o.seen)) := by
  intro σ' hl' hs' Q hq
  have hg' : ∀ l, hget (σ' ++ l) r = some _ := fun l => by rw [hget_app (by have := hget_lt hg; omega), hs' _ (hget_lt hg)]; exact hg
  have hlk : x.look = [x.a, x.b, x.c, x.d] := rfl
  rw [hlk] at hq
  simp only [List.nil_append, List.cons_append, Made.av]
  refine ACalls.clean_ev (E := Tryd.E 9 (fun _ => ([], [])) fs11) (Tryd.envOK 9 (fun _ => ([], [])) fs11 fs11_ok) (.int _ _) (hq) Tryd.kp50 Tryd.func50 rfl (by kernel_rfl) (by simp [Tryd.E]) (Callable.of Tryd.func50 (by kernel_rfl) (by kernel_rfl)) (by kernel_rfl) ?_
  simp -implicitDefEqProofs (maxSteps := 2000000) (disch := omega) only [go_sem, reduceCtorEq, Nat.reduceAdd, Nat.reduceSub, Nat.reduceMul, Nat.reduceLT, Nat.reduceLeDiff, Nat.reduceEqDiff, Nat.reduceBEq, Int.reduceToNat, Int.reduceLT, Int.reduceLE, Int.reduceEq, Int.reduceNeg, Int.reduceAdd, Int.reduceSub, Int.reduceMul, ↓reduceIte, Int.reduceBEq, Int.reduceBNe, hg', h0]
/-- How many features must have been changed. -/
def leastM (c : Cat) (o : Old) : Int × Int :=
  if ckOld c o ≠ 0 then (0, ckOld c o) else if truthsM c o.all4 = [] then (0, 9) else ((leastL (fun m : Made => (changedN m.look o.seen : Int)) (truthsM c o.all4)).2, 0)
theorem ii_plain {b e : Int} : Plain (.tup [.int .i64 b, .int .i64 e]) := .tup (by simp; exact ⟨.int, .int⟩)
set_option maxHeartbeats 4000000 in
theorem pLeast_p (c : Cat) (o : Old) (hc : okCat c) (ho : okOld o) : PureV Tryd.prog 15 [c.av, o.av] (.tup [.int .i64 (leastM c o).1, .int .i64 (leastM c o).2]) := by
  refine PureV.of_ev (E := Tryd.E 30 (fun _ => ([], [])) fs11) (Tryd.envOK 30 (fun _ => ([], [])) fs11 fs11_ok) (ii_plain) Tryd.kp15 Tryd.func15 rfl (by kernel_rfl) (by simp [Tryd.E]) (Callable.of Tryd.func15 (by kernel_rfl) (by kernel_rfl)) (by kernel_rfl) ?_
  intro σ
  simp only [Cat.av, Old.av]
  by_cases hv : ckOld c o = 0
  · obtain ⟨hC, hO⟩ := okO_of_ck hv
    have hB := okO_all4 hO
    have hl1 := truthsM_len (o := o.all4) hC
    have hbe : (⟨o.seen, o.plate, 4⟩ : Old) = o.all4 := rfl
    have hsn : o.seen.length ≤ 4 := by have := hO.seen.1; have := hC.features; omega
    have hlz : ∀ l : List Made, l.length = 0 ↔ l = [] := fun l => List.length_eq_zero_iff
    by_cases hn : truthsM c o.all4 = []
    · have : leastM c o = (0, 9) := by unfold leastM; rw [if_neg (by simp [hv]), if_pos hn]
      rw [this]
      simp -implicitDefEqProofs (maxSteps := 2000000) (disch := omega) only [go_sem, reduceCtorEq, Nat.reduceAdd, Nat.reduceSub, Nat.reduceMul, Nat.reduceLT, Nat.reduceLeDiff, Nat.reduceEqDiff, Nat.reduceBEq, Int.reduceToNat, Int.reduceLT, Int.reduceLE, Int.reduceEq, Int.reduceNeg, Int.reduceAdd, Int.reduceSub, Int.reduceMul, ↓reduceIte, Int.reduceBEq, Int.reduceBNe, Cat_eta, hbe, hB, Old_eta, hC, hO, hc, ho, hv, hn]
    · have : leastM c o = ((leastL (fun m : Made => (changedN m.look o.seen : Int)) (truthsM c o.all4)).2, 0) := by unfold leastM; rw [if_neg (by simp [hv]), if_neg hn]
      rw [this]
      have hz : ¬ (truthsM c o.all4).length = 0 := fun h => hn ((hlz _).1 h)
      simp -implicitDefEqProofs (maxSteps := 2000000) (disch := omega) only [go_sem, reduceCtorEq, Nat.reduceAdd, Nat.reduceSub, Nat.reduceMul, Nat.reduceLT, Nat.reduceLeDiff, Nat.reduceEqDiff, Nat.reduceBEq, Int.reduceToNat, Int.reduceLT, Int.reduceLE, Int.reduceEq, Int.reduceNeg, Int.reduceAdd, Int.reduceSub, Int.reduceMul, ↓reduceIte, Int.reduceBEq, Int.reduceBNe, Cat_eta, hbe, hB, Old_eta, hC, hO, hc, ho, hv]
      refine leastM_c (fun m : Made => (changedN m.look o.seen : Int)) _ hn (by omega) (fun x _ => Least1_v (o := o) (hget_at) rfl hsn x) _ ?_
      simp -implicitDefEqProofs (maxSteps := 2000000) (disch := omega) only [go_sem, reduceCtorEq, Nat.reduceAdd, Nat.reduceSub, Nat.reduceMul, Nat.reduceLT, Nat.reduceLeDiff, Nat.reduceEqDiff, Nat.reduceBEq, Int.reduceToNat, Int.reduceLT, Int.reduceLE, Int.reduceEq, Int.reduceNeg, Int.reduceAdd, Int.reduceSub, Int.reduceMul, ↓reduceIte, Int.reduceBEq, Int.reduceBNe, Made.av]
  · have : leastM c o = (0, ckOld c o) := by unfold leastM; rw [if_pos hv]
    rw [this]
    simp -implicitDefEqProofs (maxSteps := 2000000) (disch := omega) only [go_sem, reduceCtorEq, Nat.reduceAdd, Nat.reduceSub, Nat.reduceMul, Nat.reduceLT, Nat.reduceLeDiff, Nat.reduceEqDiff, Nat.reduceBEq, Int.reduceToNat, Int.reduceLT, Int.reduceLE, Int.reduceEq, Int.reduceNeg, Int.reduceAdd, Int.reduceSub, Int.reduceMul, ↓reduceIte, Int.reduceBEq, Int.reduceBNe, Cat_eta, Old_eta, hc, ho, hv]
end Go.Proofs
