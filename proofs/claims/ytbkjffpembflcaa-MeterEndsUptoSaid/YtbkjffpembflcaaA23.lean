/- Texts of a proof: lemmas. -/
import Derived.Test.YtbkjffpembflcaaA22
set_option linter.unusedSimpArgs false
set_option linter.unusedVariables false
set_option maxRecDepth 100000
namespace Go.Proofs
open Go Go.Mu

def gC (gs : List Int) (a : Nat) : List Rd := gs.map fun s => ⟨1, a, 0, s, ⟨0, 0⟩⟩
def gB (gs : List Int) (a b : Nat) : List Rd := gs.map fun s => ⟨2, a, b, s, ⟨0, 0⟩⟩
def gH (a b : Nat) : Rd := ⟨3, a, b, 0, ⟨0, 0⟩⟩
def gBs (gs : List Int) (a k : Nat) : List Rd := (List.range k).flatMap fun j => gB gs a (a + 1 + j)
def gHs (a k : Nat) : List Rd := (List.range k).map fun j => gH a (a + 1 + j)
def gCC (gs : List Int) (i : Nat) : List Rd := (List.range i).flatMap (gC gs)
def gBB (gs : List Int) (m i : Nat) : List Rd := (List.range i).flatMap fun a => gBs gs a (m - 1 - a)
def gHH (m i : Nat) : List Rd := (List.range i).flatMap fun a => gHs a (m - 1 - a)
/-- All readings by gates, without what they show. -/
def byGatesL (m : Nat) (gs : List Int) : List Rd := gCC gs m ++ (gBB gs m m ++ gHH m m)
theorem flatMap_le {α : Type} (f : Nat → List α) (c : Nat) (h : ∀ a, (f a).length ≤ c) : ∀ i, ((List.range i).flatMap f).length ≤ i * c
  | 0 => by simp
  | i + 1 => by
    rw [List.range_succ, List.flatMap_append, List.length_append, Nat.add_mul]
    have := flatMap_le f c h i
    have := h i
    simp only [List.flatMap_cons, List.flatMap_nil, List.append_nil]; omega
theorem gBs_le {gs : List Int} (hg : gs.length ≤ 20) (a k : Nat) : (gBs gs a k).length ≤ k * 20 := flatMap_le _ 20 (fun b => by simp [gB]; exact hg) k
theorem byGates_le {m : Nat} {gs : List Int} (hm : m ≤ 3) (hg : gs.length ≤ 20) {i : Nat} (hi : i ≤ m) : (gCC gs i).length ≤ 60 ∧ (gBB gs m i).length ≤ 180 ∧ (gHH m i).length ≤ 9 := by
  refine ⟨?_, ?_, ?_⟩
  · have := flatMap_le (gC gs) 20 (fun a => by simp [gC]; exact hg) i
    unfold gCC; omega
  · have := flatMap_le (fun a => gBs gs a (m - 1 - a)) 60 (fun a => by have := gBs_le hg a (m - 1 - a); omega) i
    unfold gBB; omega
  · have := flatMap_le (fun a => gHs a (m - 1 - a)) 3 (fun a => by simp [gHs]; omega) i
    unfold gHH; omega
set_option maxHeartbeats 2000000 in
theorem byGates_p (m : Nat) (gs : List Int) (hm : m ≤ 3) (hg : gs.length ≤ 20) : PureV Try.prog 86 [.int .i64 m, .list .no 1 (gs.map (.int .i64))] (.list .no 6 ((byGatesL m gs).map Rd.av)) := by
  refine PureV.of_ev (E := Try.E 64 (fun _ => ([], [])) fs0) (Try.envOK 64 (fun _ => ([], [])) fs0 fs0_ok) (.map fun x _ => Rd.plain x) Try.kp86 Try.func86 rfl (by kernel_rfl) (by simp [Try.E]) (Callable.of Try.func86 (by kernel_rfl) (by kernel_rfl)) (by kernel_rfl) ?_
  intro σ
  simp -implicitDefEqProofs (maxSteps := 2000000) (disch := omega) only [go_sem, reduceCtorEq, Nat.reduceAdd, Nat.reduceSub, Nat.reduceMul, Nat.reduceLT, Nat.reduceLeDiff, Nat.reduceEqDiff, Nat.reduceBEq, Int.reduceToNat, Int.reduceLT, Int.reduceLE, Int.reduceEq, Int.reduceNeg, Int.reduceAdd, Int.reduceSub, Int.reduceMul, ↓reduceIte, Int.reduceBEq, Int.reduceBNe]
  refine ARun.ghost 5 6 (sz0 := 0) rfl (by simp [lookA]) ?_
  simp only [ins, ↓reduceIte, List.append_assoc, List.cons_append, List.nil_append, List.length_append, List.length_cons, List.length_nil, Nat.zero_add, Nat.reduceEqDiff]
  refine ARun.ghost 6 6 (sz0 := 0) rfl (by simp [lookA]) ?_
  simp only [ins, ↓reduceIte, List.append_assoc, List.cons_append, List.nil_append, List.length_append, List.length_cons, List.length_nil, Nat.zero_add, Nat.reduceEqDiff]
  refine ARun.ghost 7 6 (sz0 := 0) rfl (by simp [lookA]) ?_
  simp only [ins, ↓reduceIte, List.append_assoc, List.cons_append, List.nil_append, List.length_append, List.length_cons, List.length_nil, Nat.zero_add, Nat.reduceEqDiff, Nat.add_assoc, Nat.reduceAdd]
  refine ARun.forS (Try.envOK 64 (fun _ => ([], [])) fs0 fs0_ok) m (fun _ => True) (fun i => [(5, .list (.own σ.length) 6 ((gCC gs i).map Rd.av)), (6, .list (.own (σ.length + 1)) 6 ((gBB gs m i).map Rd.av)), (7, .list (.own (σ.length + 2)) 6 ((gHH m i).map Rd.av)), (15, .int .i64 i)])
    (fun i _ => σ ++ [.tail (gCC gs i).length 6, .tail (gBB gs m i).length 6, .tail (gHH m i).length 6]) [] (by kernel_rfl) rfl (by simp [upd, ins, subF, lookA, gCC, gBB, gHH]) trivial ?_ ?_
  · intro i j hi _ ih
    obtain ⟨b1, b2, b3⟩ := byGates_le hm hg (i := i) (by omega)
    have e1 : gCC gs (i + 1) = gCC gs i ++ gC gs i := by simp [gCC, List.range_succ]
    have e2 : gBB gs m (i + 1) = gBB gs m i ++ gBs gs i (m - 1 - i) := by simp [gBB, List.range_succ]
    have e3 : gHH m (i + 1) = gHH m i ++ gHs i (m - 1 - i) := by simp [gHH, List.range_succ]
    rw [e1, e2, e3] at ih
    generalize gCC gs i = C at b1 ih ⊢
    generalize gBB gs m i = B at b2 ih ⊢
    generalize gHH m i = H at b3 ih ⊢
    simp -implicitDefEqProofs (maxSteps := 2000000) (disch := omega) only [go_sem, reduceCtorEq, Nat.reduceAdd, Nat.reduceSub, Nat.reduceMul, Nat.reduceLT, Nat.reduceLeDiff, Nat.reduceEqDiff, Nat.reduceBEq, Int.reduceToNat, Int.reduceLT, Int.reduceLE, Int.reduceEq, Int.reduceNeg, Int.reduceAdd, Int.reduceSub, Int.reduceMul, ↓reduceIte, Int.reduceBEq, Int.reduceBNe]
    refine ARun.forS (Try.envOK 64 (fun _ => ([], [])) fs0 fs0_ok) gs.length (fun _ => True) (fun k => [(5, .list (.own σ.length) 6 ((C ++ gC (gs.take k) i).map Rd.av)), (20, .int .i64 k)])
      (fun k _ => σ ++ [.tail (C ++ gC (gs.take k) i).length 6, .tail B.length 6, .tail H.length 6]) [] (by kernel_rfl) (by simp [gC]) (by simp [upd, ins, subF, lookA, gC]) trivial ?_ ?_
    · intro k j hk _ ih2
      have e4 : C ++ gC (gs.take (k + 1)) i = (C ++ gC (gs.take k) i) ++ [⟨1, i, 0, gs[k], ⟨0, 0⟩⟩] := by
        rw [List.take_succ_eq_append_getElem hk]; simp only [gC, List.map_append, List.append_assoc]; rfl
      have e5 : (C ++ gC (gs.take k) i).length ≤ 80 := by simp [gC]; omega
      rw [e4] at ih2
      generalize C ++ gC (gs.take k) i = D at e5 ih2 ⊢
      simp -implicitDefEqProofs (maxSteps := 2000000) (disch := omega) only [go_sem, reduceCtorEq, Nat.reduceAdd, Nat.reduceSub, Nat.reduceMul, Nat.reduceLT, Nat.reduceLeDiff, Nat.reduceEqDiff, Nat.reduceBEq, Int.reduceToNat, Int.reduceLT, Int.reduceLE, Int.reduceEq, Int.reduceNeg, Int.reduceAdd, Int.reduceSub, Int.reduceMul, ↓reduceIte, Int.reduceBEq, Int.reduceBNe]
      exact (ih2 trivial []).castS (by simp) (by simp [upd, ins, subF, lookA, Rd.av])
    · intro j _
      rw [List.take_length]
      simp -implicitDefEqProofs (maxSteps := 2000000) (disch := omega) only [go_sem, reduceCtorEq, Nat.reduceAdd, Nat.reduceSub, Nat.reduceMul, Nat.reduceLT, Nat.reduceLeDiff, Nat.reduceEqDiff, Nat.reduceBEq, Int.reduceToNat, Int.reduceLT, Int.reduceLE, Int.reduceEq, Int.reduceNeg, Int.reduceAdd, Int.reduceSub, Int.reduceMul, ↓reduceIte, Int.reduceBEq, Int.reduceBNe]
      have l1 : (gC gs i).length ≤ 20 := by simpa [gC] using hg
      refine ARun.forS (Try.envOK 64 (fun _ => ([], [])) fs0 fs0_ok) (m - 1 - i) (fun _ => True) (fun k => [(6, .list (.own (σ.length + 1)) 6 ((B ++ gBs gs i k).map Rd.av)), (7, .list (.own (σ.length + 2)) 6 ((H ++ gHs i k).map Rd.av)), (11, .int .i64 ((i : Int) + 1 + k))])
        (fun k _ => σ ++ [.tail (C.length + (gC gs i).length) 6, .tail (B ++ gBs gs i k).length 6, .tail (H ++ gHs i k).length 6]) [] (by kernel_rfl) (by simp [gBs, gHs]) (by simp [upd, ins, subF, lookA, gBs, gHs]) trivial ?_ ?_
      · intro k j hk _ ih2
        have e4 : B ++ gBs gs i (k + 1) = (B ++ gBs gs i k) ++ gB gs i (i + 1 + k) := by simp [gBs, List.range_succ]
        have e5 : H ++ gHs i (k + 1) = (H ++ gHs i k) ++ [gH i (i + 1 + k)] := by simp [gHs, List.range_succ]
        have l2 : (B ++ gBs gs i k).length ≤ 300 := by rw [List.length_append]; have := gBs_le hg i k; omega
        have l3 : (H ++ gHs i k).length ≤ 300 := by simp [gHs]; omega
        rw [e4, e5] at ih2
        generalize B ++ gBs gs i k = B' at l2 ih2 ⊢
        generalize H ++ gHs i k = H' at l3 ih2 ⊢
        simp -implicitDefEqProofs (maxSteps := 2000000) (disch := omega) only [go_sem, reduceCtorEq, Nat.reduceAdd, Nat.reduceSub, Nat.reduceMul, Nat.reduceLT, Nat.reduceLeDiff, Nat.reduceEqDiff, Nat.reduceBEq, Int.reduceToNat, Int.reduceLT, Int.reduceLE, Int.reduceEq, Int.reduceNeg, Int.reduceAdd, Int.reduceSub, Int.reduceMul, ↓reduceIte, Int.reduceBEq, Int.reduceBNe]
        refine ARun.forS (Try.envOK 64 (fun _ => ([], [])) fs0 fs0_ok) gs.length (fun _ => True) (fun k' => [(6, .list (.own (σ.length + 1)) 6 ((B' ++ gB (gs.take k') i (i + 1 + k)).map Rd.av)), (40, .int .i64 k')])
          (fun k' _ => σ ++ [.tail (C.length + (gC gs i).length) 6, .tail (B' ++ gB (gs.take k') i (i + 1 + k)).length 6, .tail H'.length 6]) [] (by kernel_rfl) (by simp [gB]) (by simp [upd, ins, subF, lookA, gB]) trivial ?_ ?_
        · intro k' j hk' _ ih3
          have e6 : B' ++ gB (gs.take (k' + 1)) i (i + 1 + k) = (B' ++ gB (gs.take k') i (i + 1 + k)) ++ [⟨2, i, ((i + 1 + k : Nat) : Int), gs[k'], ⟨0, 0⟩⟩] := by
            rw [List.take_succ_eq_append_getElem hk']; simp only [gB, List.map_append, List.append_assoc]; rfl
          have l4 : (B' ++ gB (gs.take k') i (i + 1 + k)).length ≤ 400 := by simp [gB]; omega
          rw [e6] at ih3
          generalize B' ++ gB (gs.take k') i (i + 1 + k) = D at l4 ih3 ⊢
          simp -implicitDefEqProofs (maxSteps := 2000000) (disch := omega) only [go_sem, reduceCtorEq, Nat.reduceAdd, Nat.reduceSub, Nat.reduceMul, Nat.reduceLT, Nat.reduceLeDiff, Nat.reduceEqDiff, Nat.reduceBEq, Int.reduceToNat, Int.reduceLT, Int.reduceLE, Int.reduceEq, Int.reduceNeg, Int.reduceAdd, Int.reduceSub, Int.reduceMul, ↓reduceIte, Int.reduceBEq, Int.reduceBNe]
          exact (ih3 trivial []).castS (by simp) (by simp [upd, ins, subF, lookA, Rd.av])
        · intro j _
          rw [List.take_length]
          have l5 : (gB gs i (i + 1 + k)).length ≤ 20 := by simpa [gB] using hg
          simp -implicitDefEqProofs (maxSteps := 2000000) (disch := omega) only [go_sem, reduceCtorEq, Nat.reduceAdd, Nat.reduceSub, Nat.reduceMul, Nat.reduceLT, Nat.reduceLeDiff, Nat.reduceEqDiff, Nat.reduceBEq, Int.reduceToNat, Int.reduceLT, Int.reduceLE, Int.reduceEq, Int.reduceNeg, Int.reduceAdd, Int.reduceSub, Int.reduceMul, ↓reduceIte, Int.reduceBEq, Int.reduceBNe]
          exact (ih2 trivial []).castS (by simp) (by simp [upd, ins, subF, lookA, Rd.av, gH]; omega)
      · intro j _
        have l2 : (B ++ gBs gs i (m - 1 - i)).length ≤ 300 := by rw [List.length_append]; have := gBs_le hg i (m - 1 - i); omega
        simp -implicitDefEqProofs (maxSteps := 2000000) (disch := omega) only [go_sem, reduceCtorEq, Nat.reduceAdd, Nat.reduceSub, Nat.reduceMul, Nat.reduceLT, Nat.reduceLeDiff, Nat.reduceEqDiff, Nat.reduceBEq, Int.reduceToNat, Int.reduceLT, Int.reduceLE, Int.reduceEq, Int.reduceNeg, Int.reduceAdd, Int.reduceSub, Int.reduceMul, ↓reduceIte, Int.reduceBEq, Int.reduceBNe]
        exact (ih trivial []).castS (by simp) (by simp [upd, ins, subF, lookA, Rd.av, gH])
  · intro j _
    obtain ⟨b1, b2, b3⟩ := byGates_le hm hg (i := m) (by omega)
    simp -implicitDefEqProofs (maxSteps := 2000000) (disch := omega) only [go_sem, reduceCtorEq, Nat.reduceAdd, Nat.reduceSub, Nat.reduceMul, Nat.reduceLT, Nat.reduceLeDiff, Nat.reduceEqDiff, Nat.reduceBEq, Int.reduceToNat, Int.reduceLT, Int.reduceLE, Int.reduceEq, Int.reduceNeg, Int.reduceAdd, Int.reduceSub, Int.reduceMul, ↓reduceIte, Int.reduceBEq, Int.reduceBNe]
    refine concat_p [(.no, 6, gCC gs m), (.no, 6, gBB gs m m), (.no, 6, gHH m m)] (by simp) (by simp) (by simp only [List.flatMap_cons, List.flatMap_nil, List.append_nil, List.length_append]; omega) _ _ ?_
    simp -implicitDefEqProofs (maxSteps := 2000000) (disch := omega) only [go_sem, reduceCtorEq, Nat.reduceAdd, Nat.reduceSub, Nat.reduceMul, Nat.reduceLT, Nat.reduceLeDiff, Nat.reduceEqDiff, Nat.reduceBEq, Int.reduceToNat, Int.reduceLT, Int.reduceLE, Int.reduceEq, Int.reduceNeg, Int.reduceAdd, Int.reduceSub, Int.reduceMul, ↓reduceIte, Int.reduceBEq, Int.reduceBNe]
    simp [byGatesL]
def byGates_s := spec2 tI tIs fun m gs => if 0 ≤ m ∧ m ≤ 3 ∧ gs.length ≤ 20 then some (.list .no 6 ((byGatesL m.toNat gs).map Rd.av)) else none
theorem byGates_ok : ∀ xs v, byGates_s xs = some v → PureV Try.prog 86 xs v :=
  spec2_ok fun m gs v h => by
    have h := someIf h
    rw [← h.2]
    have := byGates_p m.toNat gs (by omega) h.1.2.2
    rw [Int.toNat_of_nonneg h.1.1] at this
    exact this
end Go.Proofs
