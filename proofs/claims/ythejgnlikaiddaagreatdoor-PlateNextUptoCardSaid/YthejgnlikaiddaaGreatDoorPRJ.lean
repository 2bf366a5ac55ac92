/- Texts of a proof: lemmas. -/
import Derived.Test.YthejgnlikaiddaaGreatDoorPRI
set_option linter.unusedSimpArgs false
set_option linter.unusedVariables false
set_option maxRecDepth 100000
namespace Go.Proofs
open Go Go.Mu

theorem fits_len {c : Cat} {o : Old} : (fitsM c o).1.length ≤ 16 ∧ ∀ t ∈ (fitsM c o).1, t.length ≤ 4294967296 := by
  unfold fitsM
  by_cases h : (knownM c o []).2 = 0
  · rw [if_pos h]
    obtain ⟨hv, _, _⟩ := knownM_ok h
    refine ⟨by rw [List.length_map]; exact truthsM_len (okO_of_ck hv).1, fun t ht => ?_⟩
    obtain ⟨m, _, rfl⟩ := List.mem_map.1 ht; simp [Made.pair]
  · rw [if_neg h]; simp
theorem models_len {c : Cat} {o : Old} : (modelsM c o).1.length ≤ 16 := by
  by_cases h : (knownM c o []).2 = 0
  · obtain ⟨vs, h1, _, _, h4⟩ := models_val h
    rw [h1]; exact h4
  · unfold modelsM; rw [if_neg h]; simp
/-- One of the four. -/
theorem four_at {c c1 : Cat} {o o1 o2 : Old} (h : Go.Proofs.okCat c) (h1 : Go.Proofs.okCat c1) (g : Go.Proofs.okOld o) (g1 : Go.Proofs.okOld o1) (g2 : Go.Proofs.okOld o2) {i : Nat} (hi : i < 4) :
    ∃ ci oi, idx ((fourC c c1).map Cat.av) (i : Int) = some ci.av ∧ idx ((fourO o o1 o2).map Old.av) (i : Int) = some oi.av ∧ Go.Proofs.okCat ci ∧ Go.Proofs.okOld oi := by
  have : i = 0 ∨ i = 1 ∨ i = 2 ∨ i = 3 := by omega
  rcases this with rfl | rfl | rfl | rfl
  · exact ⟨c, o, rfl, rfl, h, g⟩
  · exact ⟨c1, o1, rfl, rfl, h1, g1⟩
  · exact ⟨c1, o2, rfl, rfl, h1, g2⟩
  · exact ⟨c1, o, rfl, rfl, h1, g⟩
def Tryz.ordF : Nat → List Nat × List (Nat × List Nat)
  | 7 => ([0, 0, 3, 7, 15, 0, 0, 96, 224, 511, 0, 0, 4095, 8191], [(0, []), (1, []), (2, []), (3, []), (4, [4]), (5, []), (6, []), (7, []), (8, []), (9, [9]), (10, []), (11, []), (12, []), (13, [])])
  | 9 => Tryz.ord3 9
  | 11 => Tryz.ord3 11
  | 13 => Tryz.ord3 13
  | 14 => ([0, 1, 0, 0, 12, 28, 63, 127, 255, 511, 511, 2047, 511, 511, 12799, 29183, 511, 511, 197119, 459263, 1048575, 2097151, 4194303, 8388607, 16777215, 16777215, 67108863, 134217727, 268435455, 536870911, 536870911, 2147483647, 4294967295, 8589934591, 17179869183, 17179869183, 68719476735, 137438953471, 274877906943, 549755813887, 549755813887, 2199023255551, 4398046511103, 8796093022207, 17592186044415, 17592186044415, 70368744177663, 140737488355327, 281474976710655, 562949953421311, 1125899906842623, 1125899906842623, 4503599627370495, 9007199254740991, 18014398509481983, 36028797018963967, 72057594037927935, 72057594037927935, 72057594037927935, 504403158265495551, 1080863910568919039, 2305843009213693951, 4611686018427387903, 9223372036854775807, 18446744073709551615, 36893488147419103231, 36893488147419103231, 36893488147419103231, 258254417031933722623, 553402322211286548479, 1180591620717411303423, 2361183241434822606847, 4722366482869645213695], [(0, []), (1, [1]), (2, []), (3, []), (4, []), (5, []), (6, [6]), (7, []), (8, []), (9, []), (10, []), (11, [11]), (12, []), (13, []), (14, []), (15, []), (16, []), (17, []), (18, []), (19, []), (20, [20]), (21, []), (22, []), (23, []), (24, []), (25, []), (26, []), (27, []), (28, []), (29, []), (30, []), (31, []), (32, []), (33, []), (34, []), (35, []), (36, []), (37, []), (38, []), (39, []), (40, []), (41, []), (42, []), (43, []), (44, []), (45, []), (46, [46]), (47, []), (48, []), (49, []), (50, []), (51, []), (52, [52]), (53, []), (54, []), (55, []), (56, []), (57, []), (58, []), (59, []), (60, []), (61, [61]), (62, []), (63, []), (64, []), (65, []), (66, []), (67, []), (68, []), (69, []), (70, [70]), (71, []), (72, [])])
  | _ => ([], [])
theorem Tryz.ordF_7 : Tryz.ordF 7 = ([0, 0, 3, 7, 15, 0, 0, 96, 224, 511, 0, 0, 4095, 8191], [(0, []), (1, []), (2, []), (3, []), (4, [4]), (5, []), (6, []), (7, []), (8, []), (9, [9]), (10, []), (11, []), (12, []), (13, [])]) := rfl
theorem Tryz.ordF_9 : Tryz.ordF 9 = Tryz.ord3 9 := rfl
theorem Tryz.ordF_11 : Tryz.ordF 11 = Tryz.ord3 11 := rfl
theorem Tryz.ordF_13 : Tryz.ordF 13 = Tryz.ord3 13 := rfl
theorem Tryz.ordF_14 : Tryz.ordF 14 = ([0, 1, 0, 0, 12, 28, 63, 127, 255, 511, 511, 2047, 511, 511, 12799, 29183, 511, 511, 197119, 459263, 1048575, 2097151, 4194303, 8388607, 16777215, 16777215, 67108863, 134217727, 268435455, 536870911, 536870911, 2147483647, 4294967295, 8589934591, 17179869183, 17179869183, 68719476735, 137438953471, 274877906943, 549755813887, 549755813887, 2199023255551, 4398046511103, 8796093022207, 17592186044415, 17592186044415, 70368744177663, 140737488355327, 281474976710655, 562949953421311, 1125899906842623, 1125899906842623, 4503599627370495, 9007199254740991, 18014398509481983, 36028797018963967, 72057594037927935, 72057594037927935, 72057594037927935, 504403158265495551, 1080863910568919039, 2305843009213693951, 4611686018427387903, 9223372036854775807, 18446744073709551615, 36893488147419103231, 36893488147419103231, 36893488147419103231, 258254417031933722623, 553402322211286548479, 1180591620717411303423, 2361183241434822606847, 4722366482869645213695], [(0, []), (1, [1]), (2, []), (3, []), (4, []), (5, []), (6, [6]), (7, []), (8, []), (9, []), (10, []), (11, [11]), (12, []), (13, []), (14, []), (15, []), (16, []), (17, []), (18, []), (19, []), (20, [20]), (21, []), (22, []), (23, []), (24, []), (25, []), (26, []), (27, []), (28, []), (29, []), (30, []), (31, []), (32, []), (33, []), (34, []), (35, []), (36, []), (37, []), (38, []), (39, []), (40, []), (41, []), (42, []), (43, []), (44, []), (45, []), (46, [46]), (47, []), (48, []), (49, []), (50, []), (51, []), (52, [52]), (53, []), (54, []), (55, []), (56, []), (57, []), (58, []), (59, []), (60, []), (61, [61]), (62, []), (63, []), (64, []), (65, []), (66, []), (67, []), (68, []), (69, []), (70, [70]), (71, []), (72, [])]) := rfl
attribute [go_sem] Tryz.ordF_7 Tryz.ordF_9 Tryz.ordF_11 Tryz.ordF_13 Tryz.ordF_14
set_option maxHeartbeats 400000000 in
theorem plateFits_c (c : Cat) (o : Old) (other : ByteArray) (nums : List Int) (hc : Go.Proofs.okCat c) (ho : Go.Proofs.okOld o) (hz : other.size ≤ 4294967296) (hl : nums.length ≤ 4294967296) (σ : List AObj) :
    ACalls Tryz.prog 3 [c.av, o.av, .str other, .list .no 1 (nums.map (.int .i64))] σ (fun v _ => v = .bool true) := by
  refine ACalls.of_ev (E := Tryz.Ev 187 Tryz.ordF fs115) (Tryz.envOKV 187 Tryz.ordF fs115 fs115_ok) Tryz.kp3 Tryz.func3 rfl (by kernel_rfl) (by simp [Tryz.Ev]) (Callable.of Tryz.func3 (by kernel_rfl) (by kernel_rfl)) (by kernel_rfl) ?_
  have hcav : ∀ c : Cat, c.av = .agg [.int .i64 c.features, .list .no 3 (c.models.map Model.av)] := fun _ => rfl
  have hoav : ∀ o : Old, o.av = .agg [.list .no 1 (o.seen.map (.int .i64)), .str o.plate, .int .i64 o.changed] := fun _ => rfl
  rw [hcav c, hoav o]
  simp -implicitDefEqProofs (maxSteps := 2000000) (disch := omega) only [go_sem, reduceCtorEq, Nat.reduceAdd, Nat.reduceSub, Nat.reduceMul, Nat.reduceLT, Nat.reduceLeDiff, Nat.reduceEqDiff, Nat.reduceBEq, Int.reduceToNat, Int.reduceLT, Int.reduceLE, Int.reduceEq, Int.reduceNeg, Int.reduceAdd, Int.reduceSub, Int.reduceMul, ↓reduceIte, Int.reduceBEq, Int.reduceBNe]
  rw [← hcav c, ← hoav o]
  refine thick_c c o hc ho _ _ (fun junk => ?_) (fun junk hT => ?_)
  · simp -implicitDefEqProofs (maxSteps := 2000000) (disch := omega) only [go_sem, reduceCtorEq, Nat.reduceAdd, Nat.reduceSub, Nat.reduceMul, Nat.reduceLT, Nat.reduceLeDiff, Nat.reduceEqDiff, Nat.reduceBEq, Int.reduceToNat, Int.reduceLT, Int.reduceLE, Int.reduceEq, Int.reduceNeg, Int.reduceAdd, Int.reduceSub, Int.reduceMul, ↓reduceIte, Int.reduceBEq, Int.reduceBNe]
  · by_cases h40 : 40 < other.size
    · simp -implicitDefEqProofs (maxSteps := 2000000) (disch := omega) only [go_sem, reduceCtorEq, Nat.reduceAdd, Nat.reduceSub, Nat.reduceMul, Nat.reduceLT, Nat.reduceLeDiff, Nat.reduceEqDiff, Nat.reduceBEq, Int.reduceToNat, Int.reduceLT, Int.reduceLE, Int.reduceEq, Int.reduceNeg, Int.reduceAdd, Int.reduceSub, Int.reduceMul, ↓reduceIte, Int.reduceBEq, Int.reduceBNe]
    · simp only [List.append_assoc, List.cons_append, List.nil_append]
      simp -implicitDefEqProofs (maxSteps := 2000000) (disch := omega) only [go_sem, reduceCtorEq, Nat.reduceAdd, Nat.reduceSub, Nat.reduceMul, Nat.reduceLT, Nat.reduceLeDiff, Nat.reduceEqDiff, Nat.reduceBEq, Int.reduceToNat, Int.reduceLT, Int.reduceLE, Int.reduceEq, Int.reduceNeg, Int.reduceAdd, Int.reduceSub, Int.reduceMul, ↓reduceIte, Int.reduceBEq, Int.reduceBNe]
      rw [← hcav c, ← hoav o]
      refine cases_c c o other nums hl _ _ fun c1 o1 junk2 hC1 hO1 => ?_
      have hc1 := okCat_of hC1
      have ho1 := okOld_of hC1 hO1
      have ho2 : Go.Proofs.okOld ⟨o1.seen, other, o1.changed⟩ := ⟨ho1.1, by simp only; omega⟩
      have hf := fun (i : Nat) (hi : i < 4) => four_at (c := c) (c1 := c1) (o := o) (o1 := o1) (o2 := ⟨o1.seen, other, o1.changed⟩) hc hc1 ho ho1 ho2 hi
      have hlc : ((fourC c c1).map Cat.av).length = 4 := rfl
      clear hC1 hO1
      generalize (fourC c c1).map Cat.av = A at hf hlc ⊢
      generalize (fourO o o1 ⟨o1.seen, other, o1.changed⟩).map Old.av = B at hf ⊢
      simp -implicitDefEqProofs (maxSteps := 2000000) (disch := omega) only [go_sem, reduceCtorEq, Nat.reduceAdd, Nat.reduceSub, Nat.reduceMul, Nat.reduceLT, Nat.reduceLeDiff, Nat.reduceEqDiff, Nat.reduceBEq, Int.reduceToNat, Int.reduceLT, Int.reduceLE, Int.reduceEq, Int.reduceNeg, Int.reduceAdd, Int.reduceSub, Int.reduceMul, ↓reduceIte, Int.reduceBEq, Int.reduceBNe, hlc]
      refine ARun.forG (Tryz.envOKV 187 Tryz.ordF fs115 fs115_ok) 4 (fun _ => True) (fun i => [(11, .int .i64 i)]) (fun _ j => σ ++ (.cells [.int .i64 c.features, .list .no 3 (c.models.map Model.av)] :: .cells [.list .no 1 (o.seen.map (.int .i64)), .str o.plate, .int .i64 o.changed] :: j)) (junk ++ junk2) (by kernel_rfl) (by kernel_rfl) (by simp) (by simp [upd, ins, subF, lookA]) trivial ?_ ?_
      · intro K Q' hK i j hi _ ih
        obtain ⟨ci, oi, e1, e2, e3, e4⟩ := hf i hi
        rw [hcav ci] at e1
        rw [hoav oi] at e2
        have e5 := e4.1
        obtain ⟨b1, b2⟩ := @fits_len ci oi
        have b2e : (∀ x ∈ (fitsM ci oi).1, x.length ≤ 4294967296) = True := eq_true b2
        have b1' : (fitsM ci oi).1.length ≤ 4294967296 := by omega
        have b3 := @models_len ci oi
        have b3' : (modelsM ci oi).1.length ≤ 4294967296 := by omega
        have e5i : ∀ o : Old, isv o.seen = .list .no 1 (o.seen.map (.int .i64)) := fun _ => rfl
        simp -implicitDefEqProofs (maxSteps := 2000000) (disch := omega) only [go_sem, reduceCtorEq, Nat.reduceAdd, Nat.reduceSub, Nat.reduceMul, Nat.reduceLT, Nat.reduceLeDiff, Nat.reduceEqDiff, Nat.reduceBEq, Int.reduceToNat, Int.reduceLT, Int.reduceLE, Int.reduceEq, Int.reduceNeg, Int.reduceAdd, Int.reduceSub, Int.reduceMul, ↓reduceIte, Int.reduceBEq, Int.reduceBNe, hlc, e1, e2, List.append_eq, Cat_eta, Old_eta, e3, e4, e5, b1', b2e, b3']
        exact (ih trivial (j ++ _)).castS (by first | (simp; done) | (simp; rfl) | rfl) (by simp [upd, ins, subF, lookA])
      · intro j _
        simp -implicitDefEqProofs (maxSteps := 2000000) (disch := omega) only [go_sem, reduceCtorEq, Nat.reduceAdd, Nat.reduceSub, Nat.reduceMul, Nat.reduceLT, Nat.reduceLeDiff, Nat.reduceEqDiff, Nat.reduceBEq, Int.reduceToNat, Int.reduceLT, Int.reduceLE, Int.reduceEq, Int.reduceNeg, Int.reduceAdd, Int.reduceSub, Int.reduceMul, ↓reduceIte, Int.reduceBEq, Int.reduceBNe, hlc]
end Go.Proofs
