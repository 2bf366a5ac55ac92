/- Texts of a proof: lemmas. -/
import Derived.Test.YthejgnlikaiddaaGreatDoorPND1
import Derived.Test.YthejgnlikaiddaaGreatDoorPRJ
set_option linter.unusedSimpArgs false
set_option linter.unusedVariables false
set_option maxRecDepth 100000
namespace Go.Proofs
open Go Go.Mu

def fs129 (f : FuncId) (xs : List AV) : Option AV := if f = 38 then pNext_s xs else if f = 39 then rNext_s xs else if f = 40 then pDecides_s xs else if f = 41 then rDecides_s xs else fs115 f xs
theorem fs129_ok : ∀ f xs v, fs129 f xs = some v → PureV Tryz.prog f xs v := by
  intro f xs v h
  unfold fs129 at h
  split at h
  · rename_i e; subst e; exact pNext_ok _ _ h
  split at h
  · rename_i e; subst e; exact rNext_ok _ _ h
  split at h
  · rename_i e; subst e; exact pDecides_ok _ _ h
  split at h
  · rename_i e; subst e; exact rDecides_ok _ _ h
  exact fs115_ok _ _ _ h
attribute [go_sem] fs129 pNext_s rNext_s pDecides_s rDecides_s
def Tryz.ordQ : Nat → List Nat × List (Nat × List Nat)
  | 7 => ([0, 0, 3, 7, 15, 0, 0, 96, 224, 511, 0, 0, 4095, 8191], [(0, []), (1, []), (2, []), (3, []), (4, [4]), (5, []), (6, []), (7, []), (8, []), (9, [9]), (10, []), (11, []), (12, []), (13, [])])
  | 9 => Tryz.ord6 9
  | 11 => Tryz.ord6 11
  | 12 => ([0, 0, 3, 7, 15, 15, 63, 127, 255, 511, 511, 2047, 4095, 8191, 16383, 16383, 65535, 131071, 262143, 524287, 524287, 2097151, 4194303, 8388607, 16777215, 16777215, 16777215, 117440511, 251658239, 536870911, 1073741823, 2147483647, 4294967295, 8589934591, 8589934591, 8589934591, 60129542143, 128849018879, 274877906943, 549755813887, 1099511627775], [(0, []), (1, []), (2, []), (3, []), (4, []), (5, []), (6, []), (7, []), (8, []), (9, []), (10, []), (11, []), (12, []), (13, []), (14, []), (15, []), (16, []), (17, []), (18, []), (19, []), (20, []), (21, []), (22, []), (23, []), (24, []), (25, []), (26, []), (27, []), (28, []), (29, [29]), (30, []), (31, []), (32, []), (33, []), (34, []), (35, []), (36, []), (37, []), (38, [38]), (39, []), (40, [])])
  | _ => ([], [])
theorem Tryz.ordQ_7 : Tryz.ordQ 7 = ([0, 0, 3, 7, 15, 0, 0, 96, 224, 511, 0, 0, 4095, 8191], [(0, []), (1, []), (2, []), (3, []), (4, [4]), (5, []), (6, []), (7, []), (8, []), (9, [9]), (10, []), (11, []), (12, []), (13, [])]) := rfl
theorem Tryz.ordQ_9 : Tryz.ordQ 9 = Tryz.ord6 9 := rfl
theorem Tryz.ordQ_11 : Tryz.ordQ 11 = Tryz.ord6 11 := rfl
theorem Tryz.ordQ_12 : Tryz.ordQ 12 = ([0, 0, 3, 7, 15, 15, 63, 127, 255, 511, 511, 2047, 4095, 8191, 16383, 16383, 65535, 131071, 262143, 524287, 524287, 2097151, 4194303, 8388607, 16777215, 16777215, 16777215, 117440511, 251658239, 536870911, 1073741823, 2147483647, 4294967295, 8589934591, 8589934591, 8589934591, 60129542143, 128849018879, 274877906943, 549755813887, 1099511627775], [(0, []), (1, []), (2, []), (3, []), (4, []), (5, []), (6, []), (7, []), (8, []), (9, []), (10, []), (11, []), (12, []), (13, []), (14, []), (15, []), (16, []), (17, []), (18, []), (19, []), (20, []), (21, []), (22, []), (23, []), (24, []), (25, []), (26, []), (27, []), (28, []), (29, [29]), (30, []), (31, []), (32, []), (33, []), (34, []), (35, []), (36, []), (37, []), (38, [38]), (39, []), (40, [])]) := rfl
attribute [go_sem] Tryz.ordQ_7 Tryz.ordQ_9 Tryz.ordQ_11 Tryz.ordQ_12
set_option maxHeartbeats 400000000 in
theorem plateNext_c (c : Cat) (o : Old) (other : ByteArray) (nums : List Int) (hc : Go.Proofs.okCat c) (ho : Go.Proofs.okOld o) (hz : other.size ≤ 4294967296) (hl : nums.length ≤ 4294967296) (σ : List AObj) :
    ACalls Tryz.prog 6 [c.av, o.av, .str other, .list .no 1 (nums.map (.int .i64))] σ (fun v _ => v = .bool true) := by
  refine ACalls.of_ev (E := Tryz.Ev 137 Tryz.ordQ fs129) (Tryz.envOKV 137 Tryz.ordQ fs129 fs129_ok) Tryz.kp6 Tryz.func6 rfl (by kernel_rfl) (by simp [Tryz.Ev]) (Callable.of Tryz.func6 (by kernel_rfl) (by kernel_rfl)) (by kernel_rfl) ?_
  have hcav : ∀ c : Cat, c.av = .agg [.int .i64 c.features, .list .no 3 (c.models.map Model.av)] := fun _ => rfl
  have hoav : ∀ o : Old, o.av = .agg [.list .no 1 (o.seen.map (.int .i64)), .str o.plate, .int .i64 o.changed] := fun _ => rfl
  rw [hcav c, hoav o]
  simp -implicitDefEqProofs (maxSteps := 2000000) (disch := omega) only [go_sem, reduceCtorEq, Nat.reduceAdd, Nat.reduceSub, Nat.reduceMul, Nat.reduceLT, Nat.reduceLeDiff, Nat.reduceEqDiff, Nat.reduceBEq, Int.reduceToNat, Int.reduceLT, Int.reduceLE, Int.reduceEq, Int.reduceNeg, Int.reduceAdd, Int.reduceSub, Int.reduceMul, ↓reduceIte, Int.reduceBEq, Int.reduceBNe]
  rw [← hcav c, ← hoav o]
  refine thick_c c o hc ho _ _ (fun junk => ?_) (fun junk hT => ?_)
  · simp -implicitDefEqProofs (maxSteps := 2000000) (disch := omega) only [go_sem, reduceCtorEq, Nat.reduceAdd, Nat.reduceSub, Nat.reduceMul, Nat.reduceLT, Nat.reduceLeDiff, Nat.reduceEqDiff, Nat.reduceBEq, Int.reduceToNat, Int.reduceLT, Int.reduceLE, Int.reduceEq, Int.reduceNeg, Int.reduceAdd, Int.reduceSub, Int.reduceMul, ↓reduceIte, Int.reduceBEq, Int.reduceBNe]
  · by_cases h40 : 40 < other.size
    · simp -implicitDefEqProofs (maxSteps := 2000000) (disch := omega) only [go_sem, reduceCtorEq, Nat.reduceAdd, Nat.reduceSub, Nat.reduceMul, Nat.reduceLT, Nat.reduceLeDiff, Nat.reduceEqDiff, Nat.reduceBEq, Int.reduceToNat, Int.reduceLT, Int.reduceLE, Int.reduceEq, Int.reduceNeg, Int.reduceAdd, Int.reduceSub, Int.reduceMul, ↓reduceIte, Int.reduceBEq, Int.reduceBNe]
    · simp only [List.append_assoc, List.cons_append, List.nil_append]
      simp -implicitDefEqProofs (maxSteps := 2000000) (disch := omega) only [go_sem, reduceCtorEq, Nat.reduceAdd, Nat.reduceSub, Nat.reduceMul, Nat.reduceLT, Nat.reduceLeDiff, Nat.reduceEqDiff, Nat.reduceBEq, Int.reduceToNat, Int.reduceLT, Int.reduceLE, Int.reduceEq, Int.reduceNeg, Int.reduceAdd, Int.reduceSub, Int.reduceMul, ↓reduceIte, Int.reduceBEq, Int.reduceBNe]
      rw [← hcav c, ← hoav o]
      refine cases_c c o other nums hl _ _ fun c1 o1 junk2 hC1 hO1 => ?_
      have hc1 := okCat_of hC1
      have ho1 := okOld_of hC1 hO1
      have ho2 : Go.Proofs.okOld ⟨o1.seen, other, o1.changed⟩ := ⟨ho1.1, by simp only; omega⟩
      have hf := fun (i : Nat) (hi : i < 4) => four_at (c := c) (c1 := c1) (o := o) (o1 := o1) (o2 := ⟨o1.seen, other, o1.changed⟩) hc hc1 ho ho1 ho2 hi
      have hlc : ((fourC c c1).map Cat.av).length = 4 := rfl
      clear hC1 hO1
      generalize (fourC c c1).map Cat.av = A at hf hlc ⊢
      generalize (fourO o o1 ⟨o1.seen, other, o1.changed⟩).map Old.av = B at hf ⊢
      simp -implicitDefEqProofs (maxSteps := 2000000) (disch := omega) only [go_sem, reduceCtorEq, Nat.reduceAdd, Nat.reduceSub, Nat.reduceMul, Nat.reduceLT, Nat.reduceLeDiff, Nat.reduceEqDiff, Nat.reduceBEq, Int.reduceToNat, Int.reduceLT, Int.reduceLE, Int.reduceEq, Int.reduceNeg, Int.reduceAdd, Int.reduceSub, Int.reduceMul, ↓reduceIte, Int.reduceBEq, Int.reduceBNe, hlc]
      refine ARun.forG (Tryz.envOKV 137 Tryz.ordQ fs129 fs129_ok) 4 (fun _ => True) (fun i => [(11, .int .i64 i)]) (fun _ j => σ ++ (.cells [.int .i64 c.features, .list .no 3 (c.models.map Model.av)] :: .cells [.list .no 1 (o.seen.map (.int .i64)), .str o.plate, .int .i64 o.changed] :: j)) (junk ++ junk2) (by kernel_rfl) (by kernel_rfl) (by simp) (by simp [upd, ins, subF, lookA]) trivial ?_ ?_
      · intro K Q' hK i j hi _ ih
        obtain ⟨ci, oi, e1, e2, e3, e4⟩ := hf i hi
        rw [hcav ci] at e1
        rw [hoav oi] at e2
        have e5 := e4.1
        simp -implicitDefEqProofs (maxSteps := 2000000) (disch := omega) only [go_sem, reduceCtorEq, Nat.reduceAdd, Nat.reduceSub, Nat.reduceMul, Nat.reduceLT, Nat.reduceLeDiff, Nat.reduceEqDiff, Nat.reduceBEq, Int.reduceToNat, Int.reduceLT, Int.reduceLE, Int.reduceEq, Int.reduceNeg, Int.reduceAdd, Int.reduceSub, Int.reduceMul, ↓reduceIte, Int.reduceBEq, Int.reduceBNe, hlc, e1, e2, List.append_eq, Cat_eta, Old_eta, e3, e4, e5]
        exact (ih trivial (j ++ _)).castS (by first | (simp; done) | (simp; rfl) | rfl) (by simp [upd, ins, subF, lookA])
      · intro j _
        simp -implicitDefEqProofs (maxSteps := 2000000) (disch := omega) only [go_sem, reduceCtorEq, Nat.reduceAdd, Nat.reduceSub, Nat.reduceMul, Nat.reduceLT, Nat.reduceLeDiff, Nat.reduceEqDiff, Nat.reduceBEq, Int.reduceToNat, Int.reduceLT, Int.reduceLE, Int.reduceEq, Int.reduceNeg, Int.reduceAdd, Int.reduceSub, Int.reduceMul, ↓reduceIte, Int.reduceBEq, Int.reduceBNe, hlc]
end Go.Proofs
