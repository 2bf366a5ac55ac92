/- Texts of a proof: lemmas. -/
import Derived.Test.YthejgnlikaiddaaGreatDoorPTC1
import Derived.Test.YthejgnlikaiddaaGreatDoorPRJ
set_option linter.unusedSimpArgs false
set_option linter.unusedVariables false
set_option maxRecDepth 100000
namespace Go.Proofs
open Go Go.Mu

def pAlteredZ_s := spw2 tyCat.w tyOld.w fun c o => if okCat c ∧ okOld o then some (.tup [isv (alteredM c o).1, .int .i64 (alteredM c o).2]) else none
theorem pAlteredZ_ok : ∀ xs v, pAlteredZ_s xs = some v → PureV Tryz.prog 32 xs v :=
  spw2_ok fun c o v h => by have h := someIf h; rw [← h.2]; exact pAltered_p c o h.1.1 h.1.2
def fs125 (f : FuncId) (xs : List AV) : Option AV := if f = 32 then pAlteredZ_s xs else if f = 33 then rAltered_s xs else if f = 34 then pLeast_s xs else if f = 35 then rLeast_s xs else if f = 36 then forged_s xs else if f = 37 then rForged_s xs else fs115 f xs
theorem fs125_ok : ∀ f xs v, fs125 f xs = some v → PureV Tryz.prog f xs v := by
  intro f xs v h
  unfold fs125 at h
  split at h
  · rename_i e; subst e; exact pAlteredZ_ok _ _ h
  split at h
  · rename_i e; subst e; exact rAltered_ok _ _ h
  split at h
  · rename_i e; subst e; exact pLeast_ok _ _ h
  split at h
  · rename_i e; subst e; exact rLeast_ok _ _ h
  split at h
  · rename_i e; subst e; exact forged_ok _ _ h
  split at h
  · rename_i e; subst e; exact rForged_ok _ _ h
  exact fs115_ok _ _ _ h
attribute [go_sem] fs125 pAlteredZ_s rAltered_s pLeast_s rLeast_s forged_s rForged_s
theorem altered_len {c : Cat} {o : Old} : (alteredM c o).1.length ≤ 16 := by
  unfold alteredM
  by_cases h : (knownM c o []).2 = 0
  · rw [if_pos h]
    obtain ⟨hv, _, _⟩ := knownM_ok h
    obtain ⟨hC, hO⟩ := okO_of_ck hv
    have := seen_len hC hO
    simp only [altP, List.length_map, List.length_range]; omega
  · rw [if_neg h]; simp
def Tryz.ordB : Nat → List Nat × List (Nat × List Nat)
  | 7 => ([0, 0, 3, 7, 15, 0, 0, 96, 224, 511, 0, 0, 4095, 8191], [(0, []), (1, []), (2, []), (3, []), (4, [4]), (5, []), (6, []), (7, []), (8, []), (9, [9]), (10, []), (11, []), (12, []), (13, [])])
  | 9 => Tryz.ord5 9
  | 11 => Tryz.ord5 11
  | 13 => Tryz.ord5 13
  | 14 => ([0, 0, 3, 7, 15, 15, 63, 127, 255, 511, 511, 2047, 4095, 8191, 16383, 16383, 65535, 131071, 262143, 524287, 524287, 2097151, 4194303, 8388607, 16777215, 16777215, 67108863, 134217727, 268435455, 536870911, 1073741823, 1073741823, 1073741823, 7516192767, 16106127359, 34359738367, 68719476735, 137438953471, 274877906943, 549755813887, 549755813887, 549755813887, 3848290697215, 8246337208319, 17592186044415, 35184372088831, 70368744177663], [(0, []), (1, []), (2, []), (3, []), (4, []), (5, []), (6, []), (7, []), (8, []), (9, []), (10, []), (11, []), (12, []), (13, []), (14, []), (15, []), (16, []), (17, []), (18, []), (19, []), (20, []), (21, []), (22, []), (23, []), (24, []), (25, []), (26, [26]), (27, []), (28, []), (29, []), (30, []), (31, []), (32, []), (33, []), (34, []), (35, [35]), (36, []), (37, []), (38, []), (39, []), (40, []), (41, []), (42, []), (43, []), (44, [44]), (45, []), (46, [])])
  | _ => ([], [])
theorem Tryz.ordB_7 : Tryz.ordB 7 = ([0, 0, 3, 7, 15, 0, 0, 96, 224, 511, 0, 0, 4095, 8191], [(0, []), (1, []), (2, []), (3, []), (4, [4]), (5, []), (6, []), (7, []), (8, []), (9, [9]), (10, []), (11, []), (12, []), (13, [])]) := rfl
theorem Tryz.ordB_9 : Tryz.ordB 9 = Tryz.ord5 9 := rfl
theorem Tryz.ordB_11 : Tryz.ordB 11 = Tryz.ord5 11 := rfl
theorem Tryz.ordB_13 : Tryz.ordB 13 = Tryz.ord5 13 := rfl
theorem Tryz.ordB_14 : Tryz.ordB 14 = ([0, 0, 3, 7, 15, 15, 63, 127, 255, 511, 511, 2047, 4095, 8191, 16383, 16383, 65535, 131071, 262143, 524287, 524287, 2097151, 4194303, 8388607, 16777215, 16777215, 67108863, 134217727, 268435455, 536870911, 1073741823, 1073741823, 1073741823, 7516192767, 16106127359, 34359738367, 68719476735, 137438953471, 274877906943, 549755813887, 549755813887, 549755813887, 3848290697215, 8246337208319, 17592186044415, 35184372088831, 70368744177663], [(0, []), (1, []), (2, []), (3, []), (4, []), (5, []), (6, []), (7, []), (8, []), (9, []), (10, []), (11, []), (12, []), (13, []), (14, []), (15, []), (16, []), (17, []), (18, []), (19, []), (20, []), (21, []), (22, []), (23, []), (24, []), (25, []), (26, [26]), (27, []), (28, []), (29, []), (30, []), (31, []), (32, []), (33, []), (34, []), (35, [35]), (36, []), (37, []), (38, []), (39, []), (40, []), (41, []), (42, []), (43, []), (44, [44]), (45, []), (46, [])]) := rfl
attribute [go_sem] Tryz.ordB_7 Tryz.ordB_9 Tryz.ordB_11 Tryz.ordB_13 Tryz.ordB_14
set_option maxHeartbeats 400000000 in
theorem plateAltered_c (c : Cat) (o : Old) (other : ByteArray) (nums : List Int) (hc : Go.Proofs.okCat c) (ho : Go.Proofs.okOld o) (hz : other.size ≤ 4294967296) (hl : nums.length ≤ 4294967296) (σ : List AObj) :
    ACalls Tryz.prog 5 [c.av, o.av, .str other, .list .no 1 (nums.map (.int .i64))] σ (fun v _ => v = .bool true) := by
  refine ACalls.of_ev (E := Tryz.Ev 161 Tryz.ordB fs125) (Tryz.envOKV 161 Tryz.ordB fs125 fs125_ok) Tryz.kp5 Tryz.func5 rfl (by kernel_rfl) (by simp [Tryz.Ev]) (Callable.of Tryz.func5 (by kernel_rfl) (by kernel_rfl)) (by kernel_rfl) ?_
  have hcav : ∀ c : Cat, c.av = .agg [.int .i64 c.features, .list .no 3 (c.models.map Model.av)] := fun _ => rfl
  have hoav : ∀ o : Old, o.av = .agg [.list .no 1 (o.seen.map (.int .i64)), .str o.plate, .int .i64 o.changed] := fun _ => rfl
  rw [hcav c, hoav o]
  simp -implicitDefEqProofs (maxSteps := 2000000) (disch := omega) only [go_sem, reduceCtorEq, Nat.reduceAdd, Nat.reduceSub, Nat.reduceMul, Nat.reduceLT, Nat.reduceLeDiff, Nat.reduceEqDiff, Nat.reduceBEq, Int.reduceToNat, Int.reduceLT, Int.reduceLE, Int.reduceEq, Int.reduceNeg, Int.reduceAdd, Int.reduceSub, Int.reduceMul, ↓reduceIte, Int.reduceBEq, Int.reduceBNe]
  rw [← hcav c, ← hoav o]
  refine thick_c c o hc ho _ _ (fun junk => ?_) (fun junk hT => ?_)
  · simp -implicitDefEqProofs (maxSteps := 2000000) (disch := omega) only [go_sem, reduceCtorEq, Nat.reduceAdd, Nat.reduceSub, Nat.reduceMul, Nat.reduceLT, Nat.reduceLeDiff, Nat.reduceEqDiff, Nat.reduceBEq, Int.reduceToNat, Int.reduceLT, Int.reduceLE, Int.reduceEq, Int.reduceNeg, Int.reduceAdd, Int.reduceSub, Int.reduceMul, ↓reduceIte, Int.reduceBEq, Int.reduceBNe]
  · by_cases h40 : 40 < other.size
    · simp -implicitDefEqProofs (maxSteps := 2000000) (disch := omega) only [go_sem, reduceCtorEq, Nat.reduceAdd, Nat.reduceSub, Nat.reduceMul, Nat.reduceLT, Nat.reduceLeDiff, Nat.reduceEqDiff, Nat.reduceBEq, Int.reduceToNat, Int.reduceLT, Int.reduceLE, Int.reduceEq, Int.reduceNeg, Int.reduceAdd, Int.reduceSub, Int.reduceMul, ↓reduceIte, Int.reduceBEq, Int.reduceBNe]
    · simp only [List.append_assoc, List.cons_append, List.nil_append]
      simp -implicitDefEqProofs (maxSteps := 2000000) (disch := omega) only [go_sem, reduceCtorEq, Nat.reduceAdd, Nat.reduceSub, Nat.reduceMul, Nat.reduceLT, Nat.reduceLeDiff, Nat.reduceEqDiff, Nat.reduceBEq, Int.reduceToNat, Int.reduceLT, Int.reduceLE, Int.reduceEq, Int.reduceNeg, Int.reduceAdd, Int.reduceSub, Int.reduceMul, ↓reduceIte, Int.reduceBEq, Int.reduceBNe]
      rw [← hcav c, ← hoav o]
      refine cases_c c o other nums hl _ _ fun c1 o1 junk2 hC1 hO1 => ?_
      have hc1 := okCat_of hC1
      have ho1 := okOld_of hC1 hO1
      have ho2 : Go.Proofs.okOld ⟨o1.seen, other, o1.changed⟩ := ⟨ho1.1, by simp only; omega⟩
      have hf := fun (i : Nat) (hi : i < 4) => four_at (c := c) (c1 := c1) (o := o) (o1 := o1) (o2 := ⟨o1.seen, other, o1.changed⟩) hc hc1 ho ho1 ho2 hi
      have hlc : ((fourC c c1).map Cat.av).length = 4 := rfl
      clear hC1 hO1
      generalize (fourC c c1).map Cat.av = A at hf hlc ⊢
      generalize (fourO o o1 ⟨o1.seen, other, o1.changed⟩).map Old.av = B at hf ⊢
      simp -implicitDefEqProofs (maxSteps := 2000000) (disch := omega) only [go_sem, reduceCtorEq, Nat.reduceAdd, Nat.reduceSub, Nat.reduceMul, Nat.reduceLT, Nat.reduceLeDiff, Nat.reduceEqDiff, Nat.reduceBEq, Int.reduceToNat, Int.reduceLT, Int.reduceLE, Int.reduceEq, Int.reduceNeg, Int.reduceAdd, Int.reduceSub, Int.reduceMul, ↓reduceIte, Int.reduceBEq, Int.reduceBNe, hlc]
      refine ARun.forG (Tryz.envOKV 161 Tryz.ordB fs125 fs125_ok) 4 (fun _ => True) (fun i => [(11, .int .i64 i)]) (fun _ j => σ ++ (.cells [.int .i64 c.features, .list .no 3 (c.models.map Model.av)] :: .cells [.list .no 1 (o.seen.map (.int .i64)), .str o.plate, .int .i64 o.changed] :: j)) (junk ++ junk2) (by kernel_rfl) (by kernel_rfl) (by simp) (by simp [upd, ins, subF, lookA]) trivial ?_ ?_
      · intro K Q' hK i j hi _ ih
        obtain ⟨ci, oi, e1, e2, e3, e4⟩ := hf i hi
        rw [hcav ci] at e1
        rw [hoav oi] at e2
        have e5 := e4.1
        have b3 := @altered_len ci oi
        have b3' : (alteredM ci oi).1.length ≤ 4294967296 := by omega
        simp -implicitDefEqProofs (maxSteps := 2000000) (disch := omega) only [go_sem, reduceCtorEq, Nat.reduceAdd, Nat.reduceSub, Nat.reduceMul, Nat.reduceLT, Nat.reduceLeDiff, Nat.reduceEqDiff, Nat.reduceBEq, Int.reduceToNat, Int.reduceLT, Int.reduceLE, Int.reduceEq, Int.reduceNeg, Int.reduceAdd, Int.reduceSub, Int.reduceMul, ↓reduceIte, Int.reduceBEq, Int.reduceBNe, hlc, e1, e2, List.append_eq, Cat_eta, Old_eta, e3, e4, e5, b3']
        exact (ih trivial (j ++ _)).castS (by first | (simp; done) | (simp; rfl) | rfl) (by simp [upd, ins, subF, lookA])
      · intro j _
        simp -implicitDefEqProofs (maxSteps := 2000000) (disch := omega) only [go_sem, reduceCtorEq, Nat.reduceAdd, Nat.reduceSub, Nat.reduceMul, Nat.reduceLT, Nat.reduceLeDiff, Nat.reduceEqDiff, Nat.reduceBEq, Int.reduceToNat, Int.reduceLT, Int.reduceLE, Int.reduceEq, Int.reduceNeg, Int.reduceAdd, Int.reduceSub, Int.reduceMul, ↓reduceIte, Int.reduceBEq, Int.reduceBNe, hlc]
end Go.Proofs
