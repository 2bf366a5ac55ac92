/- Texts of a proof: lemmas. -/
import Derived.Test.YthejgnlikaiddaaGreatDoorPRG
set_option linter.unusedSimpArgs false
set_option linter.unusedVariables false
set_option maxRecDepth 100000
namespace Go.Proofs
open Go Go.Mu

set_option maxHeartbeats 4000000 in
theorem copyCat_p (c : Cat) (h : okCat c) : PureV Tryz.prog 10 [c.av] c.av := by
  refine PureV.of_ev (E := Tryz.E 34 Tryz.ord10 fs113) (Tryz.envOK 34 Tryz.ord10 fs113 fs113_ok) (Cat_plain _) Tryz.kp10 Tryz.func10 rfl (by kernel_rfl) (by simp [Tryz.E]) (Callable.of Tryz.func10 (by kernel_rfl) (by kernel_rfl)) (by kernel_rfl) ?_
  intro σ
  obtain ⟨f, ms⟩ := c
  obtain ⟨h1, h2⟩ := h
  simp only at h1 h2
  simp only [Cat.av]
  simp -implicitDefEqProofs (maxSteps := 2000000) (disch := omega) only [go_sem, reduceCtorEq, Nat.reduceAdd, Nat.reduceSub, Nat.reduceMul, Nat.reduceLT, Nat.reduceLeDiff, Nat.reduceEqDiff, Nat.reduceBEq, Int.reduceToNat, Int.reduceLT, Int.reduceLE, Int.reduceEq, Int.reduceNeg, Int.reduceAdd, Int.reduceSub, Int.reduceMul, ↓reduceIte, Int.reduceBEq, Int.reduceBNe]
  refine ARun.ghostK σ.length 1 3 (cs := [.int .i64 f, .list .full 0 []]) (by rw [hget_at0]; rfl) rfl ?_
  simp only [hset_at0, hset_at, List.set_cons_succ, List.set_cons_zero, List.append_assoc, List.cons_append, List.nil_append, List.length_append, List.length_cons, List.length_nil, Nat.zero_add, Nat.reduceAdd]
  refine ARun.forG (Tryz.envOK 34 Tryz.ord10 fs113 fs113_ok) ms.length (fun _ => True) (fun i => [(4, .int .i64 i)]) (fun i j => σ ++ (.cells [.int .i64 f, .list (.own (σ.length + 2)) 3 ((ms.take i).map Model.av)] :: .cells [.int .i64 0, .list .full 0 []] :: .tail i 3 :: j)) [] (by kernel_rfl) (by kernel_rfl) (by simp) (by simp [upd, ins, subF, lookA]) trivial ?_ ?_
  · intro K Q' hK i j hi _ ih
    rw [List.take_succ_eq_append_getElem hi, List.map_append, List.map_singleton] at ih
    have hid : idx (ms.map Model.av) (i : Int) = some (ms[i]).av := idx_nat hi
    have hcl : (ms[i]).av = .agg [.int .i64 ms[i].first, .list .no 1 (ms[i].looks.map isv), .list .no 2 (ms[i].nums.map Rng.av)] := rfl
    have h2i := h2 _ (List.getElem_mem hi)
    have htl : (ms.take i).length = i := by rw [List.length_take]; omega
    generalize ms[i] = m at ih hid hcl h2i
    obtain ⟨g1, g2, g3⟩ := h2i
    have g3e : (∀ l ∈ m.looks, l.length ≤ 4294967296) = True := eq_true g3
    rw [hcl] at ih
    simp -implicitDefEqProofs (maxSteps := 2000000) (disch := omega) only [go_sem, reduceCtorEq, Nat.reduceAdd, Nat.reduceSub, Nat.reduceMul, Nat.reduceLT, Nat.reduceLeDiff, Nat.reduceEqDiff, Nat.reduceBEq, Int.reduceToNat, Int.reduceLT, Int.reduceLE, Int.reduceEq, Int.reduceNeg, Int.reduceAdd, Int.reduceSub, Int.reduceMul, ↓reduceIte, Int.reduceBEq, Int.reduceBNe, hid, hcl, g1, g2, g3e, htl]
    exact (ih trivial (j ++ [_])).castS (by simp; rfl) (by simp [upd, ins, subF, lookA])
  · intro j _
    rw [List.take_length]
    simp -implicitDefEqProofs (maxSteps := 2000000) (disch := omega) only [go_sem, reduceCtorEq, Nat.reduceAdd, Nat.reduceSub, Nat.reduceMul, Nat.reduceLT, Nat.reduceLeDiff, Nat.reduceEqDiff, Nat.reduceBEq, Int.reduceToNat, Int.reduceLT, Int.reduceLE, Int.reduceEq, Int.reduceNeg, Int.reduceAdd, Int.reduceSub, Int.reduceMul, ↓reduceIte, Int.reduceBEq, Int.reduceBNe]
def copyCat_s := spw1 tyCat.w fun c => if okCat c then some (.agg [.int .i64 c.features, .list .no 3 (c.models.map Model.av)]) else none
theorem copyCat_ok : ∀ xs v, copyCat_s xs = some v → PureV Tryz.prog 10 xs v :=
  spw1_ok fun c v h => by have h := someIf h; rw [← h.2]; exact copyCat_p c h.1
/-- Lists that the statements go through. -/
structure Thin (c : Cat) (o : Old) : Prop where
  models : c.models.length ≤ 20
  looks : ∀ m ∈ c.models, m.looks.length ≤ 20 ∧ m.nums.length ≤ 20 ∧ ∀ l ∈ m.looks, l.length ≤ 20
  seen : o.seen.length ≤ 20
  plate : o.plate.size ≤ 40
theorem Thin.okCat {c : Cat} {o : Old} (h : Thin c o) : Go.Proofs.okCat c := ⟨by have := h.models; omega, fun m hm => ⟨by have := (h.looks m hm).1; omega, by have := (h.looks m hm).2.1; omega, fun l hl => by have := (h.looks m hm).2.2 l hl; omega⟩⟩
theorem Thin.okOld {c : Cat} {o : Old} (h : Thin c o) : Go.Proofs.okOld o := ⟨by have := h.seen; omega, by have := h.plate; omega⟩
theorem gives_any {P : Program} : True := trivial
set_option maxHeartbeats 4000000 in
theorem thick_c (c : Cat) (o : Old) (hc : Go.Proofs.okCat c) (ho : Go.Proofs.okOld o) (σ : List AObj) (Q : AV → List AObj → Prop) (hT : ∀ junk, Q (.bool true) (σ ++ junk)) (hF : ∀ junk, Thin c o → Q (.bool false) (σ ++ junk)) :
    ACalls Tryz.prog 7 [c.av, o.av] σ Q := by
  refine ACalls.of_ev (E := Tryz.E 78 (fun _ => ([], [])) fs113) (Tryz.envOK 78 (fun _ => ([], [])) fs113 fs113_ok) Tryz.kp7 Tryz.func7 rfl (by kernel_rfl) (by simp [Tryz.E]) (Callable.of Tryz.func7 (by kernel_rfl) (by kernel_rfl)) (by kernel_rfl) ?_
  obtain ⟨f, ms⟩ := c
  obtain ⟨h1, h2⟩ := hc
  obtain ⟨S, P, ch⟩ := o
  obtain ⟨h3, h4⟩ := ho
  simp only at h1 h2 h3 h4
  simp only [Cat.av, Old.av, isv]
  simp -implicitDefEqProofs (maxSteps := 2000000) (disch := omega) only [go_sem, reduceCtorEq, Nat.reduceAdd, Nat.reduceSub, Nat.reduceMul, Nat.reduceLT, Nat.reduceLeDiff, Nat.reduceEqDiff, Nat.reduceBEq, Int.reduceToNat, Int.reduceLT, Int.reduceLE, Int.reduceEq, Int.reduceNeg, Int.reduceAdd, Int.reduceSub, Int.reduceMul, ↓reduceIte, Int.reduceBEq, Int.reduceBNe]
  refine ARun.loopJ (Tryz.envOK 78 (fun _ => ([], [])) fs113 fs113_ok) (α := Nat) (fun i => min ms.length 20 - i) (fun i τ => (∃ j, τ = σ ++ (.cells [.int .i64 f, .list .no 3 (ms.map Model.av)] :: .cells [.list .no 1 (S.map (.int .i64)), .str P, .int .i64 ch] :: j)) ∧ i ≤ ms.length ∧ i ≤ 20 ∧ ∀ m ∈ ms.take i, m.looks.length ≤ 20 ∧ m.nums.length ≤ 20 ∧ ∀ l ∈ m.looks, l.length ≤ 20) (fun i => [(5, .int .i64 i)]) 0 (by kernel_rfl) (by simp [upd, ins, subF, lookA]) ⟨⟨[], rfl⟩, by simp, by simp, by simp⟩ ?_
  rintro i τ ⟨⟨j, rfl⟩, hi1, hi2, hall⟩ ih
  by_cases hi : i < ms.length
  · by_cases hi20 : i < 20
    · have hid : idx (ms.map Model.av) (i : Int) = some (ms[i]).av := idx_nat hi
      have hcl : (ms[i]).av = .agg [.int .i64 ms[i].first, .list .no 1 (ms[i].looks.map isv), .list .no 2 (ms[i].nums.map Rng.av)] := rfl
      have h2i := h2 _ (List.getElem_mem hi)
      have htk : ms.take (i + 1) = ms.take i ++ [ms[i]] := List.take_succ_eq_append_getElem hi
      have hnext : (ms[i].looks.length ≤ 20 ∧ ms[i].nums.length ≤ 20 ∧ ∀ l ∈ ms[i].looks, l.length ≤ 20) → ∀ m ∈ ms.take (i + 1), m.looks.length ≤ 20 ∧ m.nums.length ≤ 20 ∧ ∀ l ∈ m.looks, l.length ≤ 20 := fun h m hm => by
        rw [htk] at hm
        rcases List.mem_append.1 hm with hm | hm
        · exact hall m hm
        · simp at hm; subst hm; exact h
      clear htk
      generalize ms[i] = M at hid hcl h2i hnext
      obtain ⟨g1, g2, g3⟩ := h2i
      simp -implicitDefEqProofs (maxSteps := 2000000) (disch := omega) only [go_sem, reduceCtorEq, Nat.reduceAdd, Nat.reduceSub, Nat.reduceMul, Nat.reduceLT, Nat.reduceLeDiff, Nat.reduceEqDiff, Nat.reduceBEq, Int.reduceToNat, Int.reduceLT, Int.reduceLE, Int.reduceEq, Int.reduceNeg, Int.reduceAdd, Int.reduceSub, Int.reduceMul, ↓reduceIte, Int.reduceBEq, Int.reduceBNe, hid, hcl]
      refine ARun.loopJ (Tryz.envOK 78 (fun _ => ([], [])) fs113 fs113_ok) (α := Nat) (fun k => min M.looks.length 20 - k) (fun k τ => (∃ j, τ = σ ++ (.cells [.int .i64 f, .list .no 3 (ms.map Model.av)] :: .cells [.list .no 1 (S.map (.int .i64)), .str P, .int .i64 ch] :: j)) ∧ k ≤ M.looks.length ∧ k ≤ 20 ∧ ∀ l ∈ M.looks.take k, l.length ≤ 20) (fun k => [(6, .int .i64 k)]) 0 (by kernel_rfl) (by simp [upd, ins, subF, lookA]) ⟨⟨j, rfl⟩, by simp, by simp, by simp⟩ ?_
      rintro k τ ⟨⟨j2, rfl⟩, hk1, hk2, hal⟩ ih2
      by_cases hk : k < M.looks.length
      · by_cases hk20 : k < 20
        · have hkd : idx (M.looks.map isv) (k : Int) = some (isv M.looks[k]) := idx_nat hk
          have hlx := g3 _ (List.getElem_mem hk)
          have htk : M.looks.take (k + 1) = M.looks.take k ++ [M.looks[k]] := List.take_succ_eq_append_getElem hk
          have hisl : isv M.looks[k] = .list .no 1 (M.looks[k].map (.int .i64)) := rfl
          rw [hisl] at hkd
          by_cases hx : 20 < M.looks[k].length
          · simp -implicitDefEqProofs (maxSteps := 2000000) (disch := omega) only [go_sem, reduceCtorEq, Nat.reduceAdd, Nat.reduceSub, Nat.reduceMul, Nat.reduceLT, Nat.reduceLeDiff, Nat.reduceEqDiff, Nat.reduceBEq, Int.reduceToNat, Int.reduceLT, Int.reduceLE, Int.reduceEq, Int.reduceNeg, Int.reduceAdd, Int.reduceSub, Int.reduceMul, ↓reduceIte, Int.reduceBEq, Int.reduceBNe, hid, hcl, hkd]
            exact hT _
          · have hal2 : ∀ l ∈ M.looks.take (k + 1), l.length ≤ 20 := fun l hl => by
              rw [htk] at hl
              rcases List.mem_append.1 hl with hl | hl
              · exact hal l hl
              · simp at hl; subst hl; omega
            generalize M.looks[k] = l at hkd hx hlx
            clear hisl htk
            simp -implicitDefEqProofs (maxSteps := 2000000) (disch := omega) only [go_sem, reduceCtorEq, Nat.reduceAdd, Nat.reduceSub, Nat.reduceMul, Nat.reduceLT, Nat.reduceLeDiff, Nat.reduceEqDiff, Nat.reduceBEq, Int.reduceToNat, Int.reduceLT, Int.reduceLE, Int.reduceEq, Int.reduceNeg, Int.reduceAdd, Int.reduceSub, Int.reduceMul, ↓reduceIte, Int.reduceBEq, Int.reduceBNe, hid, hcl, hkd]
            exact (ih2 (k + 1) _ (by omega) ⟨⟨j2, rfl⟩, by omega, by omega, hal2⟩).castS rfl (by simp [upd, ins, subF, lookA])
        · have hbig : 20 < M.looks.length := by omega
          simp -implicitDefEqProofs (maxSteps := 2000000) (disch := omega) only [go_sem, reduceCtorEq, Nat.reduceAdd, Nat.reduceSub, Nat.reduceMul, Nat.reduceLT, Nat.reduceLeDiff, Nat.reduceEqDiff, Nat.reduceBEq, Int.reduceToNat, Int.reduceLT, Int.reduceLE, Int.reduceEq, Int.reduceNeg, Int.reduceAdd, Int.reduceSub, Int.reduceMul, ↓reduceIte, Int.reduceBEq, Int.reduceBNe, hid, hcl]
          exact hT _
      · have hke : k = M.looks.length := by omega
        subst hke
        rw [List.take_length] at hal
        by_cases hn : 20 < M.nums.length
        · simp -implicitDefEqProofs (maxSteps := 2000000) (disch := omega) only [go_sem, reduceCtorEq, Nat.reduceAdd, Nat.reduceSub, Nat.reduceMul, Nat.reduceLT, Nat.reduceLeDiff, Nat.reduceEqDiff, Nat.reduceBEq, Int.reduceToNat, Int.reduceLT, Int.reduceLE, Int.reduceEq, Int.reduceNeg, Int.reduceAdd, Int.reduceSub, Int.reduceMul, ↓reduceIte, Int.reduceBEq, Int.reduceBNe, hid, hcl]
          exact hT _
        · simp -implicitDefEqProofs (maxSteps := 2000000) (disch := omega) only [go_sem, reduceCtorEq, Nat.reduceAdd, Nat.reduceSub, Nat.reduceMul, Nat.reduceLT, Nat.reduceLeDiff, Nat.reduceEqDiff, Nat.reduceBEq, Int.reduceToNat, Int.reduceLT, Int.reduceLE, Int.reduceEq, Int.reduceNeg, Int.reduceAdd, Int.reduceSub, Int.reduceMul, ↓reduceIte, Int.reduceBEq, Int.reduceBNe, hid, hcl]
          exact (ih (i + 1) _ (by omega) ⟨⟨j2, rfl⟩, by omega, by omega, hnext ⟨by omega, by omega, hal⟩⟩).castS rfl (by simp [upd, ins, subF, lookA])
    · have hbig : 20 < ms.length := by omega
      simp -implicitDefEqProofs (maxSteps := 2000000) (disch := omega) only [go_sem, reduceCtorEq, Nat.reduceAdd, Nat.reduceSub, Nat.reduceMul, Nat.reduceLT, Nat.reduceLeDiff, Nat.reduceEqDiff, Nat.reduceBEq, Int.reduceToNat, Int.reduceLT, Int.reduceLE, Int.reduceEq, Int.reduceNeg, Int.reduceAdd, Int.reduceSub, Int.reduceMul, ↓reduceIte, Int.reduceBEq, Int.reduceBNe]
      exact hT _
  · have hie : i = ms.length := by omega
    subst hie
    rw [List.take_length] at hall
    by_cases q1 : 20 < S.length
    · simp -implicitDefEqProofs (maxSteps := 2000000) (disch := omega) only [go_sem, reduceCtorEq, Nat.reduceAdd, Nat.reduceSub, Nat.reduceMul, Nat.reduceLT, Nat.reduceLeDiff, Nat.reduceEqDiff, Nat.reduceBEq, Int.reduceToNat, Int.reduceLT, Int.reduceLE, Int.reduceEq, Int.reduceNeg, Int.reduceAdd, Int.reduceSub, Int.reduceMul, ↓reduceIte, Int.reduceBEq, Int.reduceBNe]
      exact hT _
    · by_cases q2 : 40 < P.size
      · simp -implicitDefEqProofs (maxSteps := 2000000) (disch := omega) only [go_sem, reduceCtorEq, Nat.reduceAdd, Nat.reduceSub, Nat.reduceMul, Nat.reduceLT, Nat.reduceLeDiff, Nat.reduceEqDiff, Nat.reduceBEq, Int.reduceToNat, Int.reduceLT, Int.reduceLE, Int.reduceEq, Int.reduceNeg, Int.reduceAdd, Int.reduceSub, Int.reduceMul, ↓reduceIte, Int.reduceBEq, Int.reduceBNe]
        exact hT _
      · simp -implicitDefEqProofs (maxSteps := 2000000) (disch := omega) only [go_sem, reduceCtorEq, Nat.reduceAdd, Nat.reduceSub, Nat.reduceMul, Nat.reduceLT, Nat.reduceLeDiff, Nat.reduceEqDiff, Nat.reduceBEq, Int.reduceToNat, Int.reduceLT, Int.reduceLE, Int.reduceEq, Int.reduceNeg, Int.reduceAdd, Int.reduceSub, Int.reduceMul, ↓reduceIte, Int.reduceBEq, Int.reduceBNe]
        exact hF _ ⟨hi2, hall, by simp only; omega, by simp only; omega⟩
def fs114 (f : FuncId) (xs : List AV) : Option AV := if f = 10 then copyCat_s xs else fs113 f xs
theorem fs114_ok : ∀ f xs v, fs114 f xs = some v → PureV Tryz.prog f xs v := by
  intro f xs v h
  unfold fs114 at h
  split at h
  · rename_i e; subst e; exact copyCat_ok _ _ h
  exact fs113_ok _ _ _ h
attribute [go_sem] fs114 copyCat_s
end Go.Proofs
