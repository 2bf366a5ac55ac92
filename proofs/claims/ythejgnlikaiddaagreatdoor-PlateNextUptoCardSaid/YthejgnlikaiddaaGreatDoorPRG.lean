/- Texts of a proof: lemmas. -/
import Derived.Test.YthejgnlikaiddaaGreatDoorPRF
import Derived.Test.YthejgnlikaiddaaGreatDoorPR
import Derived.Test.YthejgnlikaiddaaGreatDoorMu3
set_option linter.unusedSimpArgs false
set_option linter.unusedVariables false
set_option maxRecDepth 100000
namespace Go.Proofs
open Go Go.Mu

def fs112 (f : FuncId) (xs : List AV) : Option AV := if f = 16 then pModel_s xs else if f = 17 then rModel_s xs else if f = 23 then sameInts_s xs else if f = 22 then sameLists_s xs else if f = 62 then sameRanges_s xs else if f = 48 then ranges_s xs else fs111 f xs
theorem fs112_ok : ∀ f xs v, fs112 f xs = some v → PureV Tryz.prog f xs v := by
  intro f xs v h
  unfold fs112 at h
  split at h
  · rename_i e; subst e; exact pModel_ok _ _ h
  split at h
  · rename_i e; subst e; exact rModel_ok _ _ h
  split at h
  · rename_i e; subst e; exact sameInts_ok _ _ h
  split at h
  · rename_i e; subst e; exact sameLists_ok _ _ h
  split at h
  · rename_i e; subst e; exact sameRanges_ok _ _ h
  split at h
  · rename_i e; subst e; exact ranges_ok _ _ h
  exact fs111_ok _ _ _ h
attribute [go_sem] fs112 pModel_s rModel_s sameInts_s sameLists_s sameRanges_s ranges_s
theorem sameOlds_p (a : Old) (h : a.seen.length ≤ 4294967296) : PureV Tryz.prog 25 [a.av, a.av] (.bool true) := by
  refine PureV.of_ev (E := Tryz.E 24 (fun _ => ([], [])) fs112) (Tryz.envOK 24 (fun _ => ([], [])) fs112 fs112_ok) (.bool) Tryz.kp25 Tryz.func25 rfl (by kernel_rfl) (by simp [Tryz.E]) (Callable.of Tryz.func25 (by kernel_rfl) (by kernel_rfl)) (by kernel_rfl) ?_
  intro σ
  simp only [Old.av, isv]
  simp -implicitDefEqProofs (maxSteps := 2000000) (disch := omega) only [go_sem, reduceCtorEq, Nat.reduceAdd, Nat.reduceSub, Nat.reduceMul, Nat.reduceLT, Nat.reduceLeDiff, Nat.reduceEqDiff, Nat.reduceBEq, Int.reduceToNat, Int.reduceLT, Int.reduceLE, Int.reduceEq, Int.reduceNeg, Int.reduceAdd, Int.reduceSub, Int.reduceMul, ↓reduceIte, Int.reduceBEq, Int.reduceBNe]
def sameOlds_s := spw2 tyOld.w tyOld.w fun a b => if (a.seen = b.seen ∧ a.plate = b.plate ∧ a.changed = b.changed) ∧ a.seen.length ≤ 4294967296 then some (.bool true) else none
theorem sameOlds_ok : ∀ xs v, sameOlds_s xs = some v → PureV Tryz.prog 25 xs v :=
  spw2_ok fun a b v h => by
    have h := someIf h
    obtain ⟨s, p, c⟩ := a
    obtain ⟨s', p', c'⟩ := b
    obtain ⟨⟨⟨rfl, rfl, rfl⟩, h1⟩, rfl⟩ := h
    exact sameOlds_p _ h1
set_option maxHeartbeats 4000000 in
theorem sameCats_p (a : Cat) (h : okCat a) : PureV Tryz.prog 24 [a.av, a.av] (.bool true) := by
  refine PureV.of_ev (E := Tryz.E 75 Tryz.ord24 fs112) (Tryz.envOK 75 Tryz.ord24 fs112 fs112_ok) (.bool) Tryz.kp24 Tryz.func24 rfl (by kernel_rfl) (by simp [Tryz.E]) (Callable.of Tryz.func24 (by kernel_rfl) (by kernel_rfl)) (by kernel_rfl) ?_
  intro σ
  obtain ⟨f, ms⟩ := a
  obtain ⟨h1, h2⟩ := h
  simp only at h1 h2
  simp only [Cat.av]
  simp -implicitDefEqProofs (maxSteps := 2000000) (disch := omega) only [go_sem, reduceCtorEq, Nat.reduceAdd, Nat.reduceSub, Nat.reduceMul, Nat.reduceLT, Nat.reduceLeDiff, Nat.reduceEqDiff, Nat.reduceBEq, Int.reduceToNat, Int.reduceLT, Int.reduceLE, Int.reduceEq, Int.reduceNeg, Int.reduceAdd, Int.reduceSub, Int.reduceMul, ↓reduceIte, Int.reduceBEq, Int.reduceBNe]
  refine ARun.forG (Tryz.envOK 75 Tryz.ord24 fs112 fs112_ok) ms.length (fun _ => True) (fun i => [(5, .bool true), (6, .int .i64 i)]) (fun _ j => σ ++ (.cells [.int .i64 f, .list .no 3 (ms.map Model.av)] :: .cells [.int .i64 f, .list .no 3 (ms.map Model.av)] :: j)) [] (by kernel_rfl) (by kernel_rfl) rfl (by simp [upd, ins, subF, lookA]) trivial ?_ ?_
  · intro K Q' hK i j hi _ ih
    have h2i := h2 _ (List.getElem_mem hi)
    have hid : idx (ms.map Model.av) (i : Int) = some (ms[i]).av := idx_nat hi
    have hcl : (ms[i]).av = .agg [.int .i64 ms[i].first, .list .no 1 (ms[i].looks.map isv), .list .no 2 (ms[i].nums.map Rng.av)] := rfl
    generalize ms[i] = m at h2i hid hcl
    obtain ⟨g1, g2, g3⟩ := h2i
    have g3e : (∀ l ∈ m.looks, l.length ≤ 4294967296) = True := eq_true g3
    simp -implicitDefEqProofs (maxSteps := 2000000) (disch := omega) only [go_sem, reduceCtorEq, Nat.reduceAdd, Nat.reduceSub, Nat.reduceMul, Nat.reduceLT, Nat.reduceLeDiff, Nat.reduceEqDiff, Nat.reduceBEq, Int.reduceToNat, Int.reduceLT, Int.reduceLE, Int.reduceEq, Int.reduceNeg, Int.reduceAdd, Int.reduceSub, Int.reduceMul, ↓reduceIte, Int.reduceBEq, Int.reduceBNe, hid, hcl, g1, g2, g3e]
    exact (ih trivial j).castS rfl (by simp [upd, ins, subF, lookA])
  · intro j _
    simp -implicitDefEqProofs (maxSteps := 2000000) (disch := omega) only [go_sem, reduceCtorEq, Nat.reduceAdd, Nat.reduceSub, Nat.reduceMul, Nat.reduceLT, Nat.reduceLeDiff, Nat.reduceEqDiff, Nat.reduceBEq, Int.reduceToNat, Int.reduceLT, Int.reduceLE, Int.reduceEq, Int.reduceNeg, Int.reduceAdd, Int.reduceSub, Int.reduceMul, ↓reduceIte, Int.reduceBEq, Int.reduceBNe]
def sameCats_s := spw2 tyCat.w tyCat.w fun a b => if a = b ∧ okCat a then some (.bool true) else none
theorem sameCats_ok : ∀ xs v, sameCats_s xs = some v → PureV Tryz.prog 24 xs v :=
  spw2_ok fun a b v h => by have h := someIf h; obtain ⟨⟨rfl, h1⟩, rfl⟩ := h; exact sameCats_p a h1
theorem iss_plain (l : List (List Int)) : Plain (.list .no 1 (l.map isv)) := .map fun x _ => .cells_list (Plain.ints (xs := x))
set_option maxHeartbeats 4000000 in
theorem lists_p (l : List (List Int)) (hl : l.length ≤ 4294967296) (ha : ∀ x ∈ l, x.length ≤ 4294967296) : PureV Tryz.prog 47 [.list .no 1 (l.map isv)] (.list .no 1 (l.map isv)) := by
  refine PureV.of_ev (E := Tryz.E 20 (fun _ => ([], [])) fs112) (Tryz.envOK 20 (fun _ => ([], [])) fs112 fs112_ok) (iss_plain _) Tryz.kp47 Tryz.func47 rfl (by kernel_rfl) (by simp [Tryz.E]) (Callable.of Tryz.func47 (by kernel_rfl) (by kernel_rfl)) (by kernel_rfl) ?_
  intro σ
  simp -implicitDefEqProofs (maxSteps := 2000000) (disch := omega) only [go_sem, reduceCtorEq, Nat.reduceAdd, Nat.reduceSub, Nat.reduceMul, Nat.reduceLT, Nat.reduceLeDiff, Nat.reduceEqDiff, Nat.reduceBEq, Int.reduceToNat, Int.reduceLT, Int.reduceLE, Int.reduceEq, Int.reduceNeg, Int.reduceAdd, Int.reduceSub, Int.reduceMul, ↓reduceIte, Int.reduceBEq, Int.reduceBNe]
  refine ARun.ghost 3 1 (sz0 := 0) rfl (by simp [lookA]) ?_
  simp only [ins, ↓reduceIte, List.append_assoc, List.cons_append, List.nil_append, List.length_append, List.length_cons, List.length_nil, Nat.zero_add, Nat.reduceEqDiff]
  refine ARun.forG (Tryz.envOK 20 (fun _ => ([], [])) fs112 fs112_ok) l.length (fun _ => True) (fun i => [(3, .list (.own σ.length) 1 ((l.take i).map isv)), (4, .int .i64 i)]) (fun i j => σ ++ (.tail i 1 :: j)) [] (by kernel_rfl) (by kernel_rfl) (by simp) (by simp [upd, ins, subF, lookA]) trivial ?_ ?_
  · intro K Q' hK i j hi _ ih
    rw [List.take_succ_eq_append_getElem hi, List.map_append, List.map_singleton] at ih
    have hid : idx (l.map isv) (i : Int) = some (isv l[i]) := idx_nat hi
    have hx := ha _ (List.getElem_mem hi)
    have htl : (l.take i).length = i := by rw [List.length_take]; omega
    generalize l[i] = x at ih hid hx
    have hxi : isv x = .list .no 1 (x.map (.int .i64)) := rfl
    rw [hxi] at hid
    simp -implicitDefEqProofs (maxSteps := 2000000) (disch := omega) only [go_sem, reduceCtorEq, Nat.reduceAdd, Nat.reduceSub, Nat.reduceMul, Nat.reduceLT, Nat.reduceLeDiff, Nat.reduceEqDiff, Nat.reduceBEq, Int.reduceToNat, Int.reduceLT, Int.reduceLE, Int.reduceEq, Int.reduceNeg, Int.reduceAdd, Int.reduceSub, Int.reduceMul, ↓reduceIte, Int.reduceBEq, Int.reduceBNe, hid, htl]
    refine ints_c x .no hx _ _ ?_
    simp -implicitDefEqProofs (maxSteps := 2000000) (disch := omega) only [go_sem, reduceCtorEq, Nat.reduceAdd, Nat.reduceSub, Nat.reduceMul, Nat.reduceLT, Nat.reduceLeDiff, Nat.reduceEqDiff, Nat.reduceBEq, Int.reduceToNat, Int.reduceLT, Int.reduceLE, Int.reduceEq, Int.reduceNeg, Int.reduceAdd, Int.reduceSub, Int.reduceMul, ↓reduceIte, Int.reduceBEq, Int.reduceBNe, hid, htl]
    exact (ih trivial (j ++ [_])).castS (by simp; rfl) (by simp [upd, ins, subF, lookA, isv])
  · intro j _
    rw [List.take_length]
    simp -implicitDefEqProofs (maxSteps := 2000000) (disch := omega) only [go_sem, reduceCtorEq, Nat.reduceAdd, Nat.reduceSub, Nat.reduceMul, Nat.reduceLT, Nat.reduceLeDiff, Nat.reduceEqDiff, Nat.reduceBEq, Int.reduceToNat, Int.reduceLT, Int.reduceLE, Int.reduceEq, Int.reduceNeg, Int.reduceAdd, Int.reduceSub, Int.reduceMul, ↓reduceIte, Int.reduceBEq, Int.reduceBNe]
def lists_s := spw1 tyIss.w fun l => if l.length ≤ 4294967296 ∧ ∀ x ∈ l, x.length ≤ 4294967296 then some (.list .no 1 (l.map isv)) else none
theorem lists_ok : ∀ xs v, lists_s xs = some v → PureV Tryz.prog 47 xs v :=
  spw1_ok fun l v h => by have h := someIf h; rw [← h.2]; exact lists_p l h.1.1 h.1.2
def fs113 (f : FuncId) (xs : List AV) : Option AV := if f = 47 then lists_s xs else if f = 24 then sameCats_s xs else if f = 25 then sameOlds_s xs else fs112 f xs
theorem fs113_ok : ∀ f xs v, fs113 f xs = some v → PureV Tryz.prog f xs v := by
  intro f xs v h
  unfold fs113 at h
  split at h
  · rename_i e; subst e; exact lists_ok _ _ h
  split at h
  · rename_i e; subst e; exact sameCats_ok _ _ h
  split at h
  · rename_i e; subst e; exact sameOlds_ok _ _ h
  exact fs112_ok _ _ _ h
attribute [go_sem] fs113 lists_s sameCats_s sameOlds_s
end Go.Proofs
