/- Texts of a proof: lemmas. -/
import Derived.Test.YtpodkdondibbfaaA4
set_option linter.unusedSimpArgs false
set_option linter.unusedVariables false
set_option maxRecDepth 100000
namespace Go.Proofs
open Go Go.Mu

/-- All truths of an ear. -/
def truthsL (e : Ear) : List (List Int) := allT e e.tones.length [0, 0, 0] 0
theorem allT_ok (e : Ear) (he : OkE e) : ∀ (m : Nat) (t : List Int) (a : Nat), t.length = 3 → small t → a + m = e.tones.length → ∀ u ∈ allT e m t a, u.length = 3 ∧ small u := by
  intro m
  induction m with
  | zero =>
    intro t a h1 h2 h3 u hu
    simp only [allT] at hu
    split at hu
    · simp at hu; subst hu; exact ⟨h1, h2⟩
    · simp at hu
  | succ m ih =>
    intro t a h1 h2 h3 u hu
    simp only [allT, List.mem_flatMap, List.mem_range] at hu
    obtain ⟨k, hk, hu⟩ := hu
    have hal : a < e.tones.length := by omega
    have hx := he.tone _ (List.getElem_mem hal)
    have hgd : e.tones.getD a default = e.tones[a] := by simp [List.getD, List.getElem?_eq_getElem hal]
    rw [hgd] at hk hu
    exact ih _ _ (by rw [setI_len]; exact h1) (setI_small h2 (by omega)) (by omega) u hu
theorem truthsL_ok {e : Ear} (he : OkE e) : ∀ u ∈ truthsL e, u.length = 3 ∧ small u := allT_ok e he _ _ _ rfl (by intro x hx; simp at hx; subst hx; omega) (by omega)
theorem truths1_c (e : Ear) (he : OkE e) {r re rl : Nat} {L : List AV} (T : Taker Try.prog r L) {τ : List AObj} (h1 : hget τ re = some (.cells e.cells)) (h2 : ∃ tk, hget τ rl = some (.cells [.list tk 1 (e.rds.map fun r => rdv r e.slack)])) (hm : ¬ T.M re ∧ ¬ T.M rl) (hC : T.C [] τ) (hL : L = (truthsL e).map tav) :
    ACalls Try.prog 68 [.yield r, .ptr re 0, .ptr rl 0] τ fun _ τ' => Same T.M τ τ' ∧ (T.C L τ' ∨ ∃ D v R, L = D ++ v :: R ∧ T.St (D ++ [v]) τ') := by
  subst hL
  refine ACalls.of_ev (E := Try.E 9 (fun _ => ([], [])) fs5) (Try.envOK 9 (fun _ => ([], [])) fs5 fs5_ok) Try.kp68 Try.func68 rfl (by kernel_rfl) (by simp [Try.E]) (Callable.of Try.func68 (by kernel_rfl) (by kernel_rfl)) (by kernel_rfl) ?_
  simp -implicitDefEqProofs (maxSteps := 2000000) (disch := omega) only [go_sem, reduceCtorEq, Nat.reduceAdd, Nat.reduceSub, Nat.reduceMul, Nat.reduceLT, Nat.reduceLeDiff, Nat.reduceEqDiff, Nat.reduceBEq, Int.reduceToNat, Int.reduceLT, Int.reduceLE, Int.reduceEq, Int.reduceNeg, Int.reduceAdd, Int.reduceSub, Int.reduceMul, ↓reduceIte, Int.reduceBEq, Int.reduceBNe]
  have hlt : ∀ q, T.M q → q < τ.length := fun q hq => T.lt hC hq
  obtain ⟨tk, h2⟩ := h2
  have hb1 := hget_lt h1
  have hb2 := hget_lt h2
  refine (next_c e he e.tones.length [0, 0, 0] 0 rfl (by intro x hx; simp at hx; subst hx; omega) (by omega) T (r := r) (re := re) (rl := rl) (ry := τ.length) (rn := τ.length + 1) [] [] ⟨by rw [hget_app hb1]; exact h1, ⟨tk, by rw [hget_app hb2]; exact h2⟩, hget_at0, hget_at, hm.1, hm.2, fun h => by have := hlt _ h; omega, fun h => by have := hlt _ h; omega⟩ (T.keep hC (SameOn.app hlt)) (by simp [truthsL])).mono fun v τ' hv => ?_
  simp -implicitDefEqProofs (maxSteps := 2000000) (disch := omega) only [go_sem, reduceCtorEq, Nat.reduceAdd, Nat.reduceSub, Nat.reduceMul, Nat.reduceLT, Nat.reduceLeDiff, Nat.reduceEqDiff, Nat.reduceBEq, Int.reduceToNat, Int.reduceLT, Int.reduceLE, Int.reduceEq, Int.reduceNeg, Int.reduceAdd, Int.reduceSub, Int.reduceMul, ↓reduceIte, Int.reduceBEq, Int.reduceBNe]
  refine ⟨Same.app.trans hv.1, ?_⟩
  rcases hv with ⟨_, ⟨_, g⟩ | ⟨_, D, v', R, g1, g2⟩⟩
  · left; simpa [truthsL] using g
  · right; exact ⟨D, v', R, g1, g2⟩
theorem giveB_rdv {X : AV → List AObj → Prop} {σ : List AObj} {r : Rd} {sl : Int} : giveB X σ (some (rdv r sl)) = X (rdv r sl) σ := by rw [giveB_eq]; rfl
theorem truths_c (e : Ear) (he : OkE e) (σ : List AObj) (Q : AV → List AObj → Prop) (h : ∀ re rl junk, Iter Try.prog 68 [] [.ptr re 0, .ptr rl 0] (σ ++ junk) ((truthsL e).map tav) → Q (.fn (.func 68) [] [.ptr re 0, .ptr rl 0]) (σ ++ junk)) :
    ACalls Try.prog 55 [e.av] σ Q := by
  refine ACalls.of_ev (E := Try.E 22 Try.ord55 fs5) (Try.envOK 22 Try.ord55 fs5 fs5_ok) Try.kp55 Try.func55 rfl (by kernel_rfl) (by simp [Try.E]) (Callable.of Try.func55 (by kernel_rfl) (by kernel_rfl)) (by kernel_rfl) ?_
  have hrl := he.rl
  simp only [Ear.av]
  simp -implicitDefEqProofs (maxSteps := 2000000) (disch := omega) only [go_sem, reduceCtorEq, Nat.reduceAdd, Nat.reduceSub, Nat.reduceMul, Nat.reduceLT, Nat.reduceLeDiff, Nat.reduceEqDiff, Nat.reduceBEq, Int.reduceToNat, Int.reduceLT, Int.reduceLE, Int.reduceEq, Int.reduceNeg, Int.reduceAdd, Int.reduceSub, Int.reduceMul, ↓reduceIte, Int.reduceBEq, Int.reduceBNe]
  refine ARun.ghostC (σ.length + 1) 1 (sz0 := 0) (by simp [hget_at]) ?_
  simp only [hset_at, List.set_cons_succ, List.set_cons_zero, List.append_assoc, List.cons_append, List.nil_append, List.length_append, List.length_cons, List.length_nil, Nat.zero_add]
  refine ARun.forS (Try.envOK 22 Try.ord55 fs5 fs5_ok) e.rds.length (fun _ => True) (fun i => [(9, .int .i64 i)]) (fun i j => σ ++ (.cells e.cells :: .cells [.list (.own (σ.length + 2)) 1 ((e.rds.take i).map fun r => rdv r e.slack)] :: .tail i 1 :: j)) [] (by kernel_rfl) (by simp [Ear.cells]) (by simp [upd, ins, subF, lookA]) trivial ?_ ?_
  · intro i j hi _ ih
    have hcl : ∀ r, (rdv r e.slack).cells = [rdv r e.slack] := fun r => by unfold rdv; split; rfl; split <;> rfl
    have hfl : ∀ r, (rdv r e.slack).flat = true := fun r => by unfold rdv; split; rfl; split <;> rfl
    have htl : (List.take i e.rds).length = i := by rw [List.length_take]; omega
    simp -implicitDefEqProofs (maxSteps := 2000000) (disch := omega) only [go_sem, reduceCtorEq, Nat.reduceAdd, Nat.reduceSub, Nat.reduceMul, Nat.reduceLT, Nat.reduceLeDiff, Nat.reduceEqDiff, Nat.reduceBEq, Int.reduceToNat, Int.reduceLT, Int.reduceLE, Int.reduceEq, Int.reduceNeg, Int.reduceAdd, Int.reduceSub, Int.reduceMul, ↓reduceIte, Int.reduceBEq, Int.reduceBNe, Ear.cells, Rd.av, hcl, hfl, htl, giveB_rdv]
    refine (ih trivial (j ++ [_])).castS (by rw [List.take_succ_eq_append_getElem hi, List.map_append]; rfl) (by simp [upd, ins, subF, lookA])
  · intro j _
    simp -implicitDefEqProofs (maxSteps := 2000000) (disch := omega) only [go_sem, reduceCtorEq, Nat.reduceAdd, Nat.reduceSub, Nat.reduceMul, Nat.reduceLT, Nat.reduceLeDiff, Nat.reduceEqDiff, Nat.reduceBEq, Int.reduceToNat, Int.reduceLT, Int.reduceLE, Int.reduceEq, Int.reduceNeg, Int.reduceAdd, Int.reduceSub, Int.reduceMul, ↓reduceIte, Int.reduceBEq, Int.reduceBNe, Ear.cells]
    refine h _ _ _ fun r T σ' hk hl hC => ?_
    have := truths1_c e he T (re := σ.length) (rl := σ.length + 1) (τ := σ') (by rw [(hk _ (by simp)).1]; simp [hget_at0, Ear.cells]) ⟨_, by rw [(hk _ (by simp)).1, hget_at, List.take_length]; rfl⟩ ⟨(hk _ (by simp)).2, (hk _ (by simp)).2⟩ hC rfl
    simpa using this
theorem tavs_agg {e : Ear} (he : OkE e) : ∀ v ∈ (truthsL e).map tav, ∃ cs, v = .agg cs ∧ cs.length = 3 := by
  intro v hv
  obtain ⟨t, ht, rfl⟩ := List.mem_map.1 hv
  exact ⟨_, rfl, by simpa using (truthsL_ok he t ht).1⟩
end Go.Proofs
