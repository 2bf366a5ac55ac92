/- Texts of a proof: lemmas. -/
import Derived.Test.YtbkjffpembflcaaGreatA14
set_option linter.unusedSimpArgs false
set_option linter.unusedVariables false
set_option maxRecDepth 100000
namespace Go.Proofs
open Go Go.Mu

theorem rdv_cells (r : Rd) (sl : Int) : (rdv r sl).cells = [rdv r sl] := by unfold rdv; split; rfl; split <;> rfl
theorem ClV.app0 {P : Program} {g : FuncId} {p q : List AV} {σ : List AObj} {x : AV} {v : AV} (h : ClV P g p q σ [x] v) {Q : AV → List AObj → Prop} (hq : Q v σ) : ACalls P g (p ++ x :: q) σ Q := by
  have := h σ (Nat.le_refl _) (fun _ _ => rfl) Q hq
  simpa using this
theorem indexFunc_c {g : FuncId} {p q : List AV} {σ : List AObj} (sl : Int) (f : Rd → Bool) (l : List Rd) (tk : Tok) (hl : l.length ≤ 4294967296) (hn : ∀ r ∈ l, ClV Tryz.prog g p q σ [rdv r sl] (.bool (f r))) (Q : AV → List AObj → Prop) (h : ∀ n : Int, decide (0 ≤ n) = l.any f → Q (.int .i64 n) σ) :
    ACalls Tryz.prog 124 [.list tk 1 (l.map fun r => rdv r sl), .fn (.func g) p q] σ Q := by
  refine ACalls.of_ev (E := Tryz.E 19 (fun _ => ([], [])) fs0) (Tryz.envOK 19 (fun _ => ([], [])) fs0 fs0_ok) Tryz.kp124 Tryz.func124 rfl (by kernel_rfl) (by simp [Tryz.E]) (Callable.of Tryz.func124 (by kernel_rfl) (by kernel_rfl)) (by kernel_rfl) ?_
  simp -implicitDefEqProofs (maxSteps := 2000000) (disch := omega) only [go_sem, reduceCtorEq, Nat.reduceAdd, Nat.reduceSub, Nat.reduceMul, Nat.reduceLT, Nat.reduceLeDiff, Nat.reduceEqDiff, Nat.reduceBEq, Int.reduceToNat, Int.reduceLT, Int.reduceLE, Int.reduceEq, Int.reduceNeg, Int.reduceAdd, Int.reduceSub, Int.reduceMul, ↓reduceIte, Int.reduceBEq, Int.reduceBNe]
  refine ARun.forS (Tryz.envOK 19 (fun _ => ([], [])) fs0 fs0_ok) l.length (fun i => (l.take i).any f = false) (fun i => [(8, .int .i64 i)]) (fun _ _ => σ) [] (by kernel_rfl) rfl (by simp [upd, ins, subF, lookA]) (by simp) ?_ ?_
  · intro i j hi hp ih
    have hmi : l[i] ∈ l := List.getElem_mem hi
    simp -implicitDefEqProofs (maxSteps := 2000000) (disch := omega) only [go_sem, reduceCtorEq, Nat.reduceAdd, Nat.reduceSub, Nat.reduceMul, Nat.reduceLT, Nat.reduceLeDiff, Nat.reduceEqDiff, Nat.reduceBEq, Int.reduceToNat, Int.reduceLT, Int.reduceLE, Int.reduceEq, Int.reduceNeg, Int.reduceAdd, Int.reduceSub, Int.reduceMul, ↓reduceIte, Int.reduceBEq, Int.reduceBNe, rdv_cells]
    refine (hn _ hmi).app0 ?_
    cases hb : f l[i]
    · simp -implicitDefEqProofs (maxSteps := 2000000) (disch := omega) only [go_sem, reduceCtorEq, Nat.reduceAdd, Nat.reduceSub, Nat.reduceMul, Nat.reduceLT, Nat.reduceLeDiff, Nat.reduceEqDiff, Nat.reduceBEq, Int.reduceToNat, Int.reduceLT, Int.reduceLE, Int.reduceEq, Int.reduceNeg, Int.reduceAdd, Int.reduceSub, Int.reduceMul, ↓reduceIte, Int.reduceBEq, Int.reduceBNe, rdv_cells]
      refine (ih ?_ []).castS rfl (by simp [upd, ins, subF, lookA])
      rw [List.take_succ_eq_append_getElem hi, List.any_append, hp]; simp [hb]
    · simp -implicitDefEqProofs (maxSteps := 2000000) (disch := omega) only [go_sem, reduceCtorEq, Nat.reduceAdd, Nat.reduceSub, Nat.reduceMul, Nat.reduceLT, Nat.reduceLeDiff, Nat.reduceEqDiff, Nat.reduceBEq, Int.reduceToNat, Int.reduceLT, Int.reduceLE, Int.reduceEq, Int.reduceNeg, Int.reduceAdd, Int.reduceSub, Int.reduceMul, ↓reduceIte, Int.reduceBEq, Int.reduceBNe, rdv_cells]
      refine h _ ?_
      have : l.any f = true := List.any_eq_true.2 ⟨_, hmi, hb⟩
      rw [this]; simp
  · intro j hp
    rw [List.take_length] at hp
    simp -implicitDefEqProofs (maxSteps := 2000000) (disch := omega) only [go_sem, reduceCtorEq, Nat.reduceAdd, Nat.reduceSub, Nat.reduceMul, Nat.reduceLT, Nat.reduceLeDiff, Nat.reduceEqDiff, Nat.reduceBEq, Int.reduceToNat, Int.reduceLT, Int.reduceLE, Int.reduceEq, Int.reduceNeg, Int.reduceAdd, Int.reduceSub, Int.reduceMul, ↓reduceIte, Int.reduceBEq, Int.reduceBNe, rdv_cells]
    refine h _ ?_
    rw [hp]; simp
theorem contains_c {g : FuncId} {p q : List AV} {σ : List AObj} (sl : Int) (f : Rd → Bool) (l : List Rd) (tk : Tok) (hl : l.length ≤ 4294967296) (hn : ∀ r ∈ l, ClV Tryz.prog g p q σ [rdv r sl] (.bool (f r))) (Q : AV → List AObj → Prop) (h : Q (.bool (l.any f)) σ) :
    ACalls Tryz.prog 103 [.list tk 1 (l.map fun r => rdv r sl), .fn (.func g) p q] σ Q := by
  refine ACalls.of_ev (E := Tryz.E 9 (fun _ => ([], [])) fs0) (Tryz.envOK 9 (fun _ => ([], [])) fs0 fs0_ok) Tryz.kp103 Tryz.func103 rfl (by kernel_rfl) (by simp [Tryz.E]) (Callable.of Tryz.func103 (by kernel_rfl) (by kernel_rfl)) (by kernel_rfl) ?_
  simp -implicitDefEqProofs (maxSteps := 2000000) (disch := omega) only [go_sem, reduceCtorEq, Nat.reduceAdd, Nat.reduceSub, Nat.reduceMul, Nat.reduceLT, Nat.reduceLeDiff, Nat.reduceEqDiff, Nat.reduceBEq, Int.reduceToNat, Int.reduceLT, Int.reduceLE, Int.reduceEq, Int.reduceNeg, Int.reduceAdd, Int.reduceSub, Int.reduceMul, ↓reduceIte, Int.reduceBEq, Int.reduceBNe]
  refine indexFunc_c sl f l tk hl hn _ fun n hn => ?_
  rw [← hn] at h
  by_cases h0 : 0 ≤ n
  · have e : decide (0 ≤ n) = true := by simpa using h0
    rw [e] at h
    simp -implicitDefEqProofs (maxSteps := 2000000) (disch := omega) only [go_sem, reduceCtorEq, Nat.reduceAdd, Nat.reduceSub, Nat.reduceMul, Nat.reduceLT, Nat.reduceLeDiff, Nat.reduceEqDiff, Nat.reduceBEq, Int.reduceToNat, Int.reduceLT, Int.reduceLE, Int.reduceEq, Int.reduceNeg, Int.reduceAdd, Int.reduceSub, Int.reduceMul, ↓reduceIte, Int.reduceBEq, Int.reduceBNe]
    exact h
  · have e : decide (0 ≤ n) = false := by simpa using h0
    rw [e] at h
    simp -implicitDefEqProofs (maxSteps := 2000000) (disch := omega) only [go_sem, reduceCtorEq, Nat.reduceAdd, Nat.reduceSub, Nat.reduceMul, Nat.reduceLT, Nat.reduceLeDiff, Nat.reduceEqDiff, Nat.reduceBEq, Int.reduceToNat, Int.reduceLT, Int.reduceLE, Int.reduceEq, Int.reduceNeg, Int.reduceAdd, Int.reduceSub, Int.reduceMul, ↓reduceIte, Int.reduceBEq, Int.reduceBNe]
    exact h
theorem one1_v {σ : List AObj} {r1 r2 : Nat} {x : Int} {w : Rng} {tk tk2 : Tok} {sz : Nat} {rs : List AV} {l : List (List Int)} {sl : Int} (hg : hget σ r1 = some (.cells [.int .i64 x, .int .i64 w.lo, .int .i64 w.hi, .list tk sz rs])) (hh : hget σ r2 = some (.cells [.list tk2 3 (l.map tav)])) (hx : 0 ≤ x ∧ x ≤ 2) (hsl : 0 ≤ sl ∧ sl ≤ 3) (hl : l.length ≤ 4294967296) (h3 : ∀ t ∈ l, t.length = 3 ∧ small t) {r : Rd} (hr : okR r) :
    ClV Tryz.prog 104 [] [.ptr r1 0, .ptr r2 0] σ [rdv r sl] (.bool (decidesL x w r sl l)) := by
  intro σ' hl' hs Q hq
  have hg' := (hs _ (hget_lt hg)).trans hg
  have hh' := (hs _ (hget_lt hh)).trans hh
  simp only [List.nil_append, List.cons_append]
  refine ACalls.clean_ev (E := Tryz.E 9 (fun _ => ([], [])) fs5) (Tryz.envOK 9 (fun _ => ([], [])) fs5 fs5_ok) (.bool _) (hq) Tryz.kp104 Tryz.func104 rfl (by kernel_rfl) (by simp [Tryz.E]) (Callable.of Tryz.func104 (by kernel_rfl) (by kernel_rfl)) (by kernel_rfl) ?_
  simp -implicitDefEqProofs (maxSteps := 2000000) (disch := omega) only [go_sem, reduceCtorEq, Nat.reduceAdd, Nat.reduceSub, Nat.reduceMul, Nat.reduceLT, Nat.reduceLeDiff, Nat.reduceEqDiff, Nat.reduceBEq, Int.reduceToNat, Int.reduceLT, Int.reduceLE, Int.reduceEq, Int.reduceNeg, Int.reduceAdd, Int.reduceSub, Int.reduceMul, ↓reduceIte, Int.reduceBEq, Int.reduceBNe, hg', hh']
  refine ACalls.weaken (l' := [qav x w (.list tk sz rs), tavs l, rdv r sl]) ⟨⟨rfl, rfl, rfl, ⟨rfl, .inl rfl, .inr rfl⟩, trivial⟩, ⟨rfl, .inl rfl, .inl rfl⟩, wk_rdv _ _, trivial⟩ (decides_p x w tk sz rs r sl l hx hr hsl hl h3 _ _ ?_)
  simp -implicitDefEqProofs (maxSteps := 2000000) (disch := omega) only [go_sem, reduceCtorEq, Nat.reduceAdd, Nat.reduceSub, Nat.reduceMul, Nat.reduceLT, Nat.reduceLeDiff, Nat.reduceEqDiff, Nat.reduceBEq, Int.reduceToNat, Int.reduceLT, Int.reduceLE, Int.reduceEq, Int.reduceNeg, Int.reduceAdd, Int.reduceSub, Int.reduceMul, ↓reduceIte, Int.reduceBEq, Int.reduceBNe]
/-- Whether it is known, or some reading decides it. -/
def oneL (x : Int) (w : Rng) (rl : List Rd) (sl : Int) (l : List (List Int)) : Bool := qin x w l || rl.any fun r => decidesL x w r sl l
theorem qone_p (x : Int) (w : Rng) (tk : Tok) (rl : List Rd) (sl : Int) (l : List (List Int)) (hx : 0 ≤ x ∧ x ≤ 2) (hsl : 0 ≤ sl ∧ sl ≤ 3) (hl : l.length ≤ 4294967296) (h3 : ∀ t ∈ l, t.length = 3 ∧ small t) (hrl : rl.length ≤ 4294967296) (hr : ∀ r ∈ rl, okR r) :
    PureV Tryz.prog 88 [qav x w (.list tk 1 (rl.map fun r => rdv r sl)), tavs l] (.bool (oneL x w rl sl l)) := by
  refine PureV.of_ev (E := Tryz.E 14 (fun _ => ([], [])) fs5) (Tryz.envOK 14 (fun _ => ([], [])) fs5 fs5_ok) (.bool) Tryz.kp88 Tryz.func88 rfl (by kernel_rfl) (by simp [Tryz.E]) (Callable.of Tryz.func88 (by kernel_rfl) (by kernel_rfl)) (by kernel_rfl) ?_
  intro σ
  simp only [qav, tavs]
  simp -implicitDefEqProofs (maxSteps := 2000000) (disch := omega) only [go_sem, reduceCtorEq, Nat.reduceAdd, Nat.reduceSub, Nat.reduceMul, Nat.reduceLT, Nat.reduceLeDiff, Nat.reduceEqDiff, Nat.reduceBEq, Int.reduceToNat, Int.reduceLT, Int.reduceLE, Int.reduceEq, Int.reduceNeg, Int.reduceAdd, Int.reduceSub, Int.reduceMul, ↓reduceIte, Int.reduceBEq, Int.reduceBNe]
  refine decided_c x w tk 1 _ l hx hl (fun t ht => (h3 t ht).1) _ _ ?_
  cases hq : qin x w l
  · simp -implicitDefEqProofs (maxSteps := 2000000) (disch := omega) only [go_sem, reduceCtorEq, Nat.reduceAdd, Nat.reduceSub, Nat.reduceMul, Nat.reduceLT, Nat.reduceLeDiff, Nat.reduceEqDiff, Nat.reduceBEq, Int.reduceToNat, Int.reduceLT, Int.reduceLE, Int.reduceEq, Int.reduceNeg, Int.reduceAdd, Int.reduceSub, Int.reduceMul, ↓reduceIte, Int.reduceBEq, Int.reduceBNe]
    refine contains_c sl (fun r => decidesL x w r sl l) rl tk hrl (fun r hr' => one1_v (sl := sl) (tk := tk) (sz := 1) (rs := rl.map fun r => rdv r sl) (tk2 := .no) (by simp [hget_at0]) (by simp [hget_at]) hx hsl hl h3 (hr r hr')) _ ?_
    cases ha : rl.any fun r => decidesL x w r sl l
    · simp -implicitDefEqProofs (maxSteps := 2000000) (disch := omega) only [go_sem, reduceCtorEq, Nat.reduceAdd, Nat.reduceSub, Nat.reduceMul, Nat.reduceLT, Nat.reduceLeDiff, Nat.reduceEqDiff, Nat.reduceBEq, Int.reduceToNat, Int.reduceLT, Int.reduceLE, Int.reduceEq, Int.reduceNeg, Int.reduceAdd, Int.reduceSub, Int.reduceMul, ↓reduceIte, Int.reduceBEq, Int.reduceBNe]
      simp [oneL, hq, ha]
    · simp -implicitDefEqProofs (maxSteps := 2000000) (disch := omega) only [go_sem, reduceCtorEq, Nat.reduceAdd, Nat.reduceSub, Nat.reduceMul, Nat.reduceLT, Nat.reduceLeDiff, Nat.reduceEqDiff, Nat.reduceBEq, Int.reduceToNat, Int.reduceLT, Int.reduceLE, Int.reduceEq, Int.reduceNeg, Int.reduceAdd, Int.reduceSub, Int.reduceMul, ↓reduceIte, Int.reduceBEq, Int.reduceBNe]
      simp [oneL, hq, ha]
  · simp -implicitDefEqProofs (maxSteps := 2000000) (disch := omega) only [go_sem, reduceCtorEq, Nat.reduceAdd, Nat.reduceSub, Nat.reduceMul, Nat.reduceLT, Nat.reduceLeDiff, Nat.reduceEqDiff, Nat.reduceBEq, Int.reduceToNat, Int.reduceLT, Int.reduceLE, Int.reduceEq, Int.reduceNeg, Int.reduceAdd, Int.reduceSub, Int.reduceMul, ↓reduceIte, Int.reduceBEq, Int.reduceBNe]
    simp [oneL, hq]
end Go.Proofs
