/- Texts of a proof: lemmas. -/
import Derived.Test.YtbkjffpembflcaaA2
import Derived.Test.YtbkjffpembflcaaMu3
set_option linter.unusedSimpArgs false
set_option linter.unusedVariables false
set_option maxRecDepth 100000
namespace Go.Proofs
open Go Go.Mu

theorem appendSeq_c {g : FuncId} {p q L : List AV} {σ : List AObj} (hI : Iter Try.prog g p q σ L) (hL : L.length ≤ 4294967296) (hf : ∀ v ∈ L, ∃ cs, v = .agg cs ∧ cs.length = 3) (hp : Plain (.list .no 3 L)) {Q : AV → List AObj → Prop} (h : Q (.list .no 3 L) σ) :
    ACalls Try.prog 147 [.list .full 0 [], .fn (.func g) p q] σ Q := by
  refine ACalls.clean_ev (E := Try.E 13 (fun _ => ([], [])) fs0) (Try.envOK 13 (fun _ => ([], [])) fs0 fs0_ok) (hp _) (h) Try.kp147 Try.func147 rfl (by kernel_rfl) (by simp [Try.E]) (Callable.of Try.func147 (by kernel_rfl) (by kernel_rfl)) (by kernel_rfl) ?_
  simp -implicitDefEqProofs (maxSteps := 2000000) (disch := omega) only [go_sem, reduceCtorEq, Nat.reduceAdd, Nat.reduceSub, Nat.reduceMul, Nat.reduceLT, Nat.reduceLeDiff, Nat.reduceEqDiff, Nat.reduceBEq, Int.reduceToNat, Int.reduceLT, Int.reduceLE, Int.reduceEq, Int.reduceNeg, Int.reduceAdd, Int.reduceSub, Int.reduceMul, ↓reduceIte, Int.reduceBEq, Int.reduceBNe]
  refine ARun.ghostC σ.length 3 (sz0 := 0) (by simp [hget_at0]) ?_
  simp only [hset_at0, List.set_cons_zero, List.append_assoc, List.cons_append, List.nil_append, List.length_append, List.length_cons, List.length_nil, Nat.zero_add]
  refine ARun.rangeIter (g := g) (p := p) (q := q) (L := L) (σ0 := σ) (by simp [aeval, Fr.get, lookA, Try.kp147]) hI (by simp) (fun k hk => hget_app hk) ⟨7, rfl, by simp [Try.EN]⟩
    (fun k => k = σ.length ∨ k = σ.length + 1) (fun k hk => by simp; omega) (fun D τ => hget τ σ.length = some (.cells [.list (.own (σ.length + 1)) 3 D]) ∧ hget τ (σ.length + 1) = some (.tail D.length 3)) (fun _ _ => False)
    (by simp [hget_at0, hget_at]) (fun {D τ τ'} hc hk => by rw [hk _ (.inl rfl), hk _ (.inr rfl)]; exact hc) (fun {j τ τ'} hc _ => hc) ?_ ?_ (fun τ j _ _ hc => hc.elim)
  · rintro D v R fn τ hD ⟨c1, c2⟩ hlt hrec
    have hlen : (σ ++ [AObj.cells [.list (.own (σ.length + 1)) 3 []], .tail 0 3]).length = σ.length + 2 := by simp
    rw [hlen] at hrec hlt ⊢
    obtain ⟨cs, rfl, hcs⟩ := hf v (by rw [hD]; simp)
    have hcs' : List.take 3 cs = cs := List.take_of_length_le (by omega)
    have hDl : D.length + 1 ≤ 4294967296 := by have := congrArg List.length hD; simp at this; omega
    refine ev_sound (Try.envOK 13 (fun _ => ([], [])) fs0 fs0_ok) (n := 1000) (by kernel_rfl) ?_
    have e0 : ∀ x y z : AV, putAt 0 cs [x, y, z] = cs := fun x y z => by simp [putAt, hcs]
    simp -implicitDefEqProofs (maxSteps := 2000000) (disch := omega) only [go_sem, reduceCtorEq, Nat.reduceAdd, Nat.reduceSub, Nat.reduceMul, Nat.reduceLT, Nat.reduceLeDiff, Nat.reduceEqDiff, Nat.reduceBEq, Int.reduceToNat, Int.reduceLT, Int.reduceLE, Int.reduceEq, Int.reduceNeg, Int.reduceAdd, Int.reduceSub, Int.reduceMul, ↓reduceIte, Int.reduceBEq, Int.reduceBNe, frIn, hcs, e0]
    refine ARun.beginRound' (by rw [hget_app (by omega)]; exact hrec) fun τ2 hl2 hs2 hr2 => ?_
    rw [List.length_append, List.length_singleton] at hl2
    have k1 : hget τ2 σ.length = some (.cells [.list (.own (σ.length + 1)) 3 D]) := by rw [hs2 _ (by omega), hget_app (by omega)]; exact c1
    have k2 : hget τ2 (σ.length + 1) = some (.tail D.length 3) := by rw [hs2 _ (by omega), hget_app (by omega)]; exact c2
    have k3 : hget τ2 τ.length = some (.cells cs) := by rw [hs2 _ (by omega)]; exact hget_at0
    refine ev_sound (Try.envOK 13 (fun _ => ([], [])) fs0 fs0_ok) (n := 1000) (by kernel_rfl) ?_
    simp -implicitDefEqProofs (maxSteps := 2000000) (disch := omega) only [go_sem, reduceCtorEq, Nat.reduceAdd, Nat.reduceSub, Nat.reduceMul, Nat.reduceLT, Nat.reduceLeDiff, Nat.reduceEqDiff, Nat.reduceBEq, Int.reduceToNat, Int.reduceLT, Int.reduceLE, Int.reduceEq, Int.reduceNeg, Int.reduceAdd, Int.reduceSub, Int.reduceMul, ↓reduceIte, Int.reduceBEq, Int.reduceBNe, k1, k2, k3, hcs, hcs', hDl, hget_hset]
    refine ⟨⟨by simp only [length_hset]; omega, fun q hq hm => ?_⟩, none, hr2⟩
    rw [hget_ne (by omega), hget_ne (by omega), hs2 q (by omega), hget_app hq]
  · rintro τ hlt hold ⟨c1, c2⟩
    refine ev_sound (Try.envOK 13 (fun _ => ([], [])) fs0 fs0_ok) (n := 1000) (by kernel_rfl) ?_
    simp -implicitDefEqProofs (maxSteps := 2000000) (disch := omega) only [go_sem, reduceCtorEq, Nat.reduceAdd, Nat.reduceSub, Nat.reduceMul, Nat.reduceLT, Nat.reduceLeDiff, Nat.reduceEqDiff, Nat.reduceBEq, Int.reduceToNat, Int.reduceLT, Int.reduceLE, Int.reduceEq, Int.reduceNeg, Int.reduceAdd, Int.reduceSub, Int.reduceMul, ↓reduceIte, Int.reduceBEq, Int.reduceBNe, c1]
    simp only [List.length_append, List.length_cons, List.length_nil] at hlt hold
    exact gives_same (by omega) (fun q hq => by rw [hold q (by omega) (by omega)]; exact hget_app hq) ⟨rfl, .inl rfl, .inl rfl⟩
theorem collect_c {g : FuncId} {p q L : List AV} {σ : List AObj} (hI : Iter Try.prog g p q σ L) (hL : L.length ≤ 4294967296) (hf : ∀ v ∈ L, ∃ cs, v = .agg cs ∧ cs.length = 3) (hp : Plain (.list .no 3 L)) {Q : AV → List AObj → Prop} (h : Q (.list .no 3 L) σ) :
    ACalls Try.prog 133 [.fn (.func g) p q] σ Q := by
  refine ACalls.of_ev (E := Try.E 5 (fun _ => ([], [])) fs0) (Try.envOK 5 (fun _ => ([], [])) fs0 fs0_ok) Try.kp133 Try.func133 rfl (by kernel_rfl) (by simp [Try.E]) (Callable.of Try.func133 (by kernel_rfl) (by kernel_rfl)) (by kernel_rfl) ?_
  simp -implicitDefEqProofs (maxSteps := 2000000) (disch := omega) only [go_sem, reduceCtorEq, Nat.reduceAdd, Nat.reduceSub, Nat.reduceMul, Nat.reduceLT, Nat.reduceLeDiff, Nat.reduceEqDiff, Nat.reduceBEq, Int.reduceToNat, Int.reduceLT, Int.reduceLE, Int.reduceEq, Int.reduceNeg, Int.reduceAdd, Int.reduceSub, Int.reduceMul, ↓reduceIte, Int.reduceBEq, Int.reduceBNe]
  refine appendSeq_c hI hL hf hp ?_
  simp -implicitDefEqProofs (maxSteps := 2000000) (disch := omega) only [go_sem, reduceCtorEq, Nat.reduceAdd, Nat.reduceSub, Nat.reduceMul, Nat.reduceLT, Nat.reduceLeDiff, Nat.reduceEqDiff, Nat.reduceBEq, Int.reduceToNat, Int.reduceLT, Int.reduceLE, Int.reduceEq, Int.reduceNeg, Int.reduceAdd, Int.reduceSub, Int.reduceMul, ↓reduceIte, Int.reduceBEq, Int.reduceBNe, h]
end Go.Proofs
