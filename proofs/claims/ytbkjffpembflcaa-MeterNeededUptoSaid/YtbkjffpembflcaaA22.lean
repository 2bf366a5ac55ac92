/- Texts of a proof: lemmas. -/
import Derived.Test.YtbkjffpembflcaaA19
import Derived.Test.YtbkjffpembflcaaMuGrow
set_option linter.unusedSimpArgs false
set_option linter.unusedVariables false
set_option maxRecDepth 100000
namespace Go.Proofs
open Go Go.Mu Go.Shelf

def Try.rhoGrow : Ren := ⟨fun x => if x = 4 then 145 else x, fun x => if x = 22 then 23 else if x = 25 then 50 else x, fun x => x⟩
theorem Try.laysGrow : Lays8.n4 Try.prog Try.rhoGrow where
  mixed := by kernel_rfl
  f4 := ⟨ "slices.Grow[[]musette/api.Reading,musette/api.Reading]", by kernel_rfl, by kernel_rfl⟩
  t0 := by kernel_rfl
  a0 := fun _ => by rfl
  z0 := fun _ => by rfl
  v0 := fun _ => by rfl
  t3 := by kernel_rfl
  a3 := fun _ => by rfl
  z3 := fun _ => by rfl
  v3 := fun _ => by rfl
  t4 := by kernel_rfl
  a4 := fun _ => by rfl
  z4 := fun _ => by rfl
  v4 := fun _ => by rfl
  t9 := by kernel_rfl
  a9 := fun _ => by rfl
  z9 := fun _ => by rfl
  v9 := fun _ => by rfl
  t20 := by kernel_rfl
  a20 := fun _ => by rfl
  z20 := fun _ => by rfl
  v20 := fun _ => by rfl
  t22 := by kernel_rfl
  a22 := fun _ => by rfl
  z22 := fun _ => by rfl
  v22 := fun _ => by rfl
theorem grow_c (n : Nat) (hn : n ≤ 4294967296) {σ : List AObj} {Q : AV → List AObj → Prop} (h : Q (.list (.own σ.length) 6 []) (σ ++ [.tail 0 6])) : ACalls Try.prog 145 [.list .full 0 [], .int .i64 n] σ Q :=
  grow_t Try.tysOK Try.laysGrow (Callable.of Try.func145 (by kernel_rfl) (by kernel_rfl)) 50 (by kernel_rfl) (by rw [show (Try.ty 50).kd = .strct [(0, 3), (1, 3), (2, 3), (3, 3), (4, 27)] from by kernel_rfl]; simp) (by rw [show (Try.ty 50).sz = 6 from by kernel_rfl]; decide) (by kernel_rfl) n 0 (by rw [show (Try.ty 50).bytes = 48 from by kernel_rfl]; omega) hn h

def rtav (p : Tok × Nat × List Rd) : AV := .list p.1 p.2.1 (p.2.2.map Rd.av)
theorem rtav_cells (p : Tok × Nat × List Rd) : (rtav p).cells = [rtav p] := rfl
theorem concat_p (L : List (Tok × Nat × List Rd)) (hL : ∀ p ∈ L, p.2.1 = 6 ∨ p.2.2 = []) (hl : L.length ≤ 100) (hb : (L.flatMap (·.2.2)).length ≤ 1000000) : PureV Try.prog 128 [.list .full 1 (L.map rtav)] (.list .no 6 ((L.flatMap (·.2.2)).map Rd.av)) := by
  refine PureV.of_ev (E := Try.E 36 (fun _ => ([], [])) fs0) (Try.envOK 36 (fun _ => ([], [])) fs0 fs0_ok) (.map fun x _ => Rd.plain x) Try.kp128 Try.func128 rfl (by kernel_rfl) (by simp [Try.E]) (Callable.of Try.func128 (by kernel_rfl) (by kernel_rfl)) (by kernel_rfl) ?_
  intro σ
  have hsum : ∀ i, ((L.take i).flatMap (·.2.2)).length ≤ 1000000 := fun i => by
    refine Nat.le_trans ?_ hb
    conv => rhs; rw [← List.take_append_drop i L, List.flatMap_append, List.length_append]
    omega
  have hstep : ∀ i (hi : i < L.length), (L.take (i + 1)).flatMap (·.2.2) = (L.take i).flatMap (·.2.2) ++ L[i].2.2 := fun i hi => by
    rw [List.take_succ_eq_append_getElem hi, List.flatMap_append]; simp
  simp -implicitDefEqProofs (maxSteps := 2000000) (disch := omega) only [go_sem, reduceCtorEq, Nat.reduceAdd, Nat.reduceSub, Nat.reduceMul, Nat.reduceLT, Nat.reduceLeDiff, Nat.reduceEqDiff, Nat.reduceBEq, Int.reduceToNat, Int.reduceLT, Int.reduceLE, Int.reduceEq, Int.reduceNeg, Int.reduceAdd, Int.reduceSub, Int.reduceMul, ↓reduceIte, Int.reduceBEq, Int.reduceBNe]
  refine ARun.forS (Try.envOK 36 (fun _ => ([], [])) fs0 fs0_ok) L.length (fun _ => True) (fun i => [(3, .int .i64 ((L.take i).flatMap (·.2.2)).length), (11, .int .i64 i)]) (fun _ _ => σ) [] (by kernel_rfl) rfl (by simp [upd, ins, subF, lookA]) trivial ?_ ?_
  · intro i j hi _ ih
    have h1 := hsum i
    have h2 := hsum (i + 1)
    rw [hstep i hi, List.length_append] at h2
    rw [hstep i hi, List.length_append] at ih
    generalize ((L.take i).flatMap (·.2.2)).length = s at h1 h2 ih
    have hr : rtav L[i] = .list L[i].1 L[i].2.1 (L[i].2.2.map Rd.av) := rfl
    simp -implicitDefEqProofs (maxSteps := 2000000) (disch := omega) only [go_sem, reduceCtorEq, Nat.reduceAdd, Nat.reduceSub, Nat.reduceMul, Nat.reduceLT, Nat.reduceLeDiff, Nat.reduceEqDiff, Nat.reduceBEq, Int.reduceToNat, Int.reduceLT, Int.reduceLE, Int.reduceEq, Int.reduceNeg, Int.reduceAdd, Int.reduceSub, Int.reduceMul, ↓reduceIte, Int.reduceBEq, Int.reduceBNe, rtav_cells, hr]
    exact (ih trivial []).castS rfl (by simp [upd, ins, subF, lookA])
  · intro j _
    rw [List.take_length]
    simp -implicitDefEqProofs (maxSteps := 2000000) (disch := omega) only [go_sem, reduceCtorEq, Nat.reduceAdd, Nat.reduceSub, Nat.reduceMul, Nat.reduceLT, Nat.reduceLeDiff, Nat.reduceEqDiff, Nat.reduceBEq, Int.reduceToNat, Int.reduceLT, Int.reduceLE, Int.reduceEq, Int.reduceNeg, Int.reduceAdd, Int.reduceSub, Int.reduceMul, ↓reduceIte, Int.reduceBEq, Int.reduceBNe, rtav_cells]
    refine grow_c _ (by omega) ?_
    simp -implicitDefEqProofs (maxSteps := 2000000) (disch := omega) only [go_sem, reduceCtorEq, Nat.reduceAdd, Nat.reduceSub, Nat.reduceMul, Nat.reduceLT, Nat.reduceLeDiff, Nat.reduceEqDiff, Nat.reduceBEq, Int.reduceToNat, Int.reduceLT, Int.reduceLE, Int.reduceEq, Int.reduceNeg, Int.reduceAdd, Int.reduceSub, Int.reduceMul, ↓reduceIte, Int.reduceBEq, Int.reduceBNe, rtav_cells]
    refine ARun.forS (Try.envOK 36 (fun _ => ([], [])) fs0 fs0_ok) L.length (fun _ => True) (fun i => [(6, .list (.own σ.length) 6 (((L.take i).flatMap (·.2.2)).map Rd.av)), (27, .int .i64 i)]) (fun i _ => σ ++ [.tail ((L.take i).flatMap (·.2.2)).length 6]) [] (by kernel_rfl) rfl (by simp [upd, ins, subF, lookA]) trivial ?_ ?_
    · intro i j hi _ ih
      have h1 := hsum i
      have h2 := hsum (i + 1)
      rw [hstep i hi] at ih
      rw [hstep i hi, List.length_append] at h2
      generalize (L.take i).flatMap (·.2.2) = s at h1 h2 ih
      have hr : rtav L[i] = .list L[i].1 L[i].2.1 (L[i].2.2.map Rd.av) := rfl
      have hsz : L[i].2.1 = 6 ∨ L[i].2.2.map Rd.av = [] := (hL _ (List.getElem_mem hi)).imp_right fun h => by rw [h]; rfl
      simp -implicitDefEqProofs (maxSteps := 2000000) (disch := omega) only [go_sem, reduceCtorEq, Nat.reduceAdd, Nat.reduceSub, Nat.reduceMul, Nat.reduceLT, Nat.reduceLeDiff, Nat.reduceEqDiff, Nat.reduceBEq, Int.reduceToNat, Int.reduceLT, Int.reduceLE, Int.reduceEq, Int.reduceNeg, Int.reduceAdd, Int.reduceSub, Int.reduceMul, ↓reduceIte, Int.reduceBEq, Int.reduceBNe, rtav_cells, hr, hsz]
      exact (ih trivial []).castS (by simp) (by simp [upd, ins, subF, lookA])
    · intro j _
      rw [List.take_length]
      simp -implicitDefEqProofs (maxSteps := 2000000) (disch := omega) only [go_sem, reduceCtorEq, Nat.reduceAdd, Nat.reduceSub, Nat.reduceMul, Nat.reduceLT, Nat.reduceLeDiff, Nat.reduceEqDiff, Nat.reduceBEq, Int.reduceToNat, Int.reduceLT, Int.reduceLE, Int.reduceEq, Int.reduceNeg, Int.reduceAdd, Int.reduceSub, Int.reduceMul, ↓reduceIte, Int.reduceBEq, Int.reduceBNe, rtav_cells]
end Go.Proofs
