/- Texts of a proof: lemmas. -/
import Derived.Test.YthejgnlikaiddaaGreatDoorPTA1
import Derived.Test.YthejgnlikaiddaaGreatDoorPRJ
set_option linter.unusedSimpArgs false
set_option linter.unusedVariables false
set_option maxRecDepth 100000
namespace Go.Proofs
open Go Go.Mu

/-! The program's Known for any catalogue. -/
def featW (c : Cat) (f : Int) : Int := if 0 ≤ f ∧ f ≤ IntKind.i64.wrap (c.features - 1) then 0 else 3
theorem isFeatureW_p (c : Cat) (f : Int) : PureV Tryz.prog 66 [c.av, .int .i64 f] (.int .i64 (featW c f)) := by
  refine PureV.of_ev (E := Tryz.E 11 (fun _ => ([], [])) fs4) (Tryz.envOK 11 (fun _ => ([], [])) fs4 fs4_ok) (.int) Tryz.kp66 Tryz.func66 rfl (by kernel_rfl) (by simp [Tryz.E]) (Callable.of Tryz.func66 (by kernel_rfl) (by kernel_rfl)) (by kernel_rfl) ?_
  intro σ
  simp only [Cat.av]
  unfold featW
  generalize hw : IntKind.i64.wrap (c.features - 1) = w
  simp -implicitDefEqProofs (maxSteps := 2000000) (disch := omega) only [go_sem, reduceCtorEq, Nat.reduceAdd, Nat.reduceSub, Nat.reduceMul, Nat.reduceLT, Nat.reduceLeDiff, Nat.reduceEqDiff, Nat.reduceBEq, Int.reduceToNat, Int.reduceLT, Int.reduceLE, Int.reduceEq, Int.reduceNeg, Int.reduceAdd, Int.reduceSub, Int.reduceMul, ↓reduceIte, Int.reduceBEq, Int.reduceBNe, hw]
  refine ⟨fun h1 h2 => ?_, fun h => ?_⟩
  · grind
  · grind
def isFeatureW_s := spw2 tyCat.w tyI.w fun c f => some (.int .i64 (featW c f))
theorem isFeatureW_ok : ∀ xs v, isFeatureW_s xs = some v → PureV Tryz.prog 66 xs v :=
  spw2_ok fun c f v h => by simp only [Option.some.injEq] at h; rw [← h]; exact isFeatureW_p c f
def fs123 (f : FuncId) (xs : List AV) : Option AV := if f = 66 then isFeatureW_s xs else fs10 f xs
theorem fs123_ok : ∀ f xs v, fs123 f xs = some v → PureV Tryz.prog f xs v := by
  intro f xs v h
  unfold fs123 at h
  split at h
  · rename_i e; subst e; exact isFeatureW_ok _ _ h
  exact fs10_ok _ _ _ h
attribute [go_sem] fs123 isFeatureW_s
set_option maxHeartbeats 4000000 in
theorem pKnownW_p (c : Cat) (o : Old) (f : Int) (hc : okCat c) (ho : okOld o) (hv : ckOld c o ≠ 0) : PureV Tryz.prog 30 [c.av, o.av, .int .i64 f] (.tup [isv [], .int .i64 (ckOld c o)]) := by
  refine PureV.of_ev (E := Tryz.E 26 Tryz.ord30 fs123) (Tryz.envOK 26 Tryz.ord30 fs123 fs123_ok) (isvI_plain) Tryz.kp30 Tryz.func30 rfl (by kernel_rfl) (by simp [Tryz.E]) (Callable.of Tryz.func30 (by kernel_rfl) (by kernel_rfl)) (by kernel_rfl) ?_
  intro σ
  simp only [Cat.av, Old.av]
  have hk : ∀ ws, knownM c o ws = ([], ckOld c o) := fun ws => by unfold knownM; rw [if_pos hv]
  simp -implicitDefEqProofs (maxSteps := 2000000) (disch := omega) only [go_sem, reduceCtorEq, Nat.reduceAdd, Nat.reduceSub, Nat.reduceMul, Nat.reduceLT, Nat.reduceLeDiff, Nat.reduceEqDiff, Nat.reduceBEq, Int.reduceToNat, Int.reduceLT, Int.reduceLE, Int.reduceEq, Int.reduceNeg, Int.reduceAdd, Int.reduceSub, Int.reduceMul, ↓reduceIte, Int.reduceBEq, Int.reduceBNe, Cat_eta, Old_eta, hc, ho, hk, hv, isv]
theorem pKnownZ_p (c : Cat) (o : Old) (f : Int) (hc : okCat c) (ho : okOld o) : PureV Tryz.prog 30 [c.av, o.av, .int .i64 f] (.tup [isv (knownFM c o f).1, .int .i64 (knownFM c o f).2]) := by
  by_cases hv : ckOld c o = 0
  · have hfe := (okO_of_ck hv).1.features
    exact pKnown_p c o f hc ho ⟨by omega, by omega⟩
  · have hk : knownM c o [featE c f] = ([], ckOld c o) := by unfold knownM; rw [if_pos hv]
    have hr : knownFM c o f = ([], ckOld c o) := by unfold knownFM; rw [hk, if_neg hv]
    rw [hr]; exact pKnownW_p c o f hc ho hv
def pKnownZ_s := spw3 tyCat.w tyOld.w tyI.w fun c o f => if okCat c ∧ okOld o then some (.tup [isv (knownFM c o f).1, .int .i64 (knownFM c o f).2]) else none
theorem pKnownZ_ok : ∀ xs v, pKnownZ_s xs = some v → PureV Tryz.prog 30 xs v :=
  spw3_ok fun c o f v h => by have h := someIf h; rw [← h.2]; exact pKnownZ_p c o f h.1.1 h.1.2
def pYearsZ_s := spw2 tyCat.w tyOld.w fun c o => if okCat c ∧ okOld o then some (.tup [.agg [.int .i64 (yearsM c o).1.lo, .int .i64 (yearsM c o).1.hi], .int .i64 (yearsM c o).2]) else none
theorem pYearsZ_ok : ∀ xs v, pYearsZ_s xs = some v → PureV Tryz.prog 26 xs v :=
  spw2_ok fun c o v h => by have h := someIf h; rw [← h.2]; exact pYears_p c o h.1.1 h.1.2
def pNumbersZ_s := spw2 tyCat.w tyOld.w fun c o => if okCat c ∧ okOld o then some (.tup [.agg [.int .i64 (numbersM c o).1.lo, .int .i64 (numbersM c o).1.hi], .int .i64 (numbersM c o).2]) else none
theorem pNumbersZ_ok : ∀ xs v, pNumbersZ_s xs = some v → PureV Tryz.prog 28 xs v :=
  spw2_ok fun c o v h => by have h := someIf h; rw [← h.2]; exact pNumbers_p c o h.1.1 h.1.2
def fs124 (f : FuncId) (xs : List AV) : Option AV := if f = 30 then pKnownZ_s xs else if f = 31 then rKnown_s xs else if f = 26 then pYearsZ_s xs else if f = 27 then rYears_s xs else if f = 28 then pNumbersZ_s xs else if f = 29 then rNumbers_s xs else fs115 f xs
theorem fs124_ok : ∀ f xs v, fs124 f xs = some v → PureV Tryz.prog f xs v := by
  intro f xs v h
  unfold fs124 at h
  split at h
  · rename_i e; subst e; exact pKnownZ_ok _ _ h
  split at h
  · rename_i e; subst e; exact rKnown_ok _ _ h
  split at h
  · rename_i e; subst e; exact pYearsZ_ok _ _ h
  split at h
  · rename_i e; subst e; exact rYears_ok _ _ h
  split at h
  · rename_i e; subst e; exact pNumbersZ_ok _ _ h
  split at h
  · rename_i e; subst e; exact rNumbers_ok _ _ h
  exact fs115_ok _ _ _ h
attribute [go_sem] fs124 pKnownZ_s rKnown_s pYearsZ_s rYears_s pNumbersZ_s rNumbers_s
theorem knownF_len {c : Cat} {o : Old} {f : Int} : (knownFM c o f).1.length ≤ 16 := by
  unfold knownFM
  by_cases h : (knownM c o [featE c f]).2 = 0
  · rw [if_pos h]
    obtain ⟨hv, _, _⟩ := knownM_ok h
    exact Nat.le_trans valuesZ_len (truthsM_len (okO_of_ck hv).1)
  · rw [if_neg h]; simp
def Tryz.ordY : Nat → List Nat × List (Nat × List Nat)
  | 7 => ([0, 0, 3, 7, 15, 0, 0, 96, 224, 511, 0, 0, 4095, 8191], [(0, []), (1, []), (2, []), (3, []), (4, [4]), (5, []), (6, []), (7, []), (8, []), (9, [9]), (10, []), (11, []), (12, []), (13, [])])
  | 9 => Tryz.ord4 9
  | 11 => Tryz.ord4 11
  | 13 => Tryz.ord4 13
  | 14 => ([0, 0, 3, 7, 15, 15, 63, 127, 255, 511, 511, 2047, 4095, 8191, 16383, 16383, 65535, 131071, 262143, 524287, 524287, 2097151, 4194303, 8388607, 16777215, 16777215, 67108863, 134217727, 268435455, 536870911, 1073741823, 1073741823, 1073741823, 7516192767, 16106127359, 34359738367, 68719476735, 137438953471, 274877906943, 549755813887, 549755813887, 549755813887, 3848290697215, 8246337208319, 17592186044415, 35184372088831, 70368744177663], [(0, []), (1, []), (2, []), (3, []), (4, []), (5, []), (6, []), (7, []), (8, []), (9, []), (10, []), (11, []), (12, []), (13, []), (14, []), (15, []), (16, []), (17, []), (18, []), (19, []), (20, []), (21, []), (22, []), (23, []), (24, []), (25, []), (26, [26]), (27, []), (28, []), (29, []), (30, []), (31, []), (32, []), (33, []), (34, []), (35, [35]), (36, []), (37, []), (38, []), (39, []), (40, []), (41, []), (42, []), (43, []), (44, [44]), (45, []), (46, [])])
  | _ => ([], [])
theorem Tryz.ordY_7 : Tryz.ordY 7 = ([0, 0, 3, 7, 15, 0, 0, 96, 224, 511, 0, 0, 4095, 8191], [(0, []), (1, []), (2, []), (3, []), (4, [4]), (5, []), (6, []), (7, []), (8, []), (9, [9]), (10, []), (11, []), (12, []), (13, [])]) := rfl
theorem Tryz.ordY_9 : Tryz.ordY 9 = Tryz.ord4 9 := rfl
theorem Tryz.ordY_11 : Tryz.ordY 11 = Tryz.ord4 11 := rfl
theorem Tryz.ordY_13 : Tryz.ordY 13 = Tryz.ord4 13 := rfl
theorem Tryz.ordY_14 : Tryz.ordY 14 = ([0, 0, 3, 7, 15, 15, 63, 127, 255, 511, 511, 2047, 4095, 8191, 16383, 16383, 65535, 131071, 262143, 524287, 524287, 2097151, 4194303, 8388607, 16777215, 16777215, 67108863, 134217727, 268435455, 536870911, 1073741823, 1073741823, 1073741823, 7516192767, 16106127359, 34359738367, 68719476735, 137438953471, 274877906943, 549755813887, 549755813887, 549755813887, 3848290697215, 8246337208319, 17592186044415, 35184372088831, 70368744177663], [(0, []), (1, []), (2, []), (3, []), (4, []), (5, []), (6, []), (7, []), (8, []), (9, []), (10, []), (11, []), (12, []), (13, []), (14, []), (15, []), (16, []), (17, []), (18, []), (19, []), (20, []), (21, []), (22, []), (23, []), (24, []), (25, []), (26, [26]), (27, []), (28, []), (29, []), (30, []), (31, []), (32, []), (33, []), (34, []), (35, [35]), (36, []), (37, []), (38, []), (39, []), (40, []), (41, []), (42, []), (43, []), (44, [44]), (45, []), (46, [])]) := rfl
attribute [go_sem] Tryz.ordY_7 Tryz.ordY_9 Tryz.ordY_11 Tryz.ordY_13 Tryz.ordY_14
set_option maxHeartbeats 400000000 in
theorem plateYears_c (c : Cat) (o : Old) (other : ByteArray) (feature : Int) (nums : List Int) (hc : Go.Proofs.okCat c) (ho : Go.Proofs.okOld o) (hz : other.size ≤ 4294967296) (hl : nums.length ≤ 4294967296) (σ : List AObj) :
    ACalls Tryz.prog 4 [c.av, o.av, .str other, .int .i64 feature, .list .no 1 (nums.map (.int .i64))] σ (fun v _ => v = .bool true) := by
  refine ACalls.of_ev (E := Tryz.Ev 165 Tryz.ordY fs124) (Tryz.envOKV 165 Tryz.ordY fs124 fs124_ok) Tryz.kp4 Tryz.func4 rfl (by kernel_rfl) (by simp [Tryz.Ev]) (Callable.of Tryz.func4 (by kernel_rfl) (by kernel_rfl)) (by kernel_rfl) ?_
  have hcav : ∀ c : Cat, c.av = .agg [.int .i64 c.features, .list .no 3 (c.models.map Model.av)] := fun _ => rfl
  have hoav : ∀ o : Old, o.av = .agg [.list .no 1 (o.seen.map (.int .i64)), .str o.plate, .int .i64 o.changed] := fun _ => rfl
  rw [hcav c, hoav o]
  simp -implicitDefEqProofs (maxSteps := 2000000) (disch := omega) only [go_sem, reduceCtorEq, Nat.reduceAdd, Nat.reduceSub, Nat.reduceMul, Nat.reduceLT, Nat.reduceLeDiff, Nat.reduceEqDiff, Nat.reduceBEq, Int.reduceToNat, Int.reduceLT, Int.reduceLE, Int.reduceEq, Int.reduceNeg, Int.reduceAdd, Int.reduceSub, Int.reduceMul, ↓reduceIte, Int.reduceBEq, Int.reduceBNe]
  rw [← hcav c, ← hoav o]
  refine thick_c c o hc ho _ _ (fun junk => ?_) (fun junk hT => ?_)
  · simp -implicitDefEqProofs (maxSteps := 2000000) (disch := omega) only [go_sem, reduceCtorEq, Nat.reduceAdd, Nat.reduceSub, Nat.reduceMul, Nat.reduceLT, Nat.reduceLeDiff, Nat.reduceEqDiff, Nat.reduceBEq, Int.reduceToNat, Int.reduceLT, Int.reduceLE, Int.reduceEq, Int.reduceNeg, Int.reduceAdd, Int.reduceSub, Int.reduceMul, ↓reduceIte, Int.reduceBEq, Int.reduceBNe]
  · by_cases h40 : 40 < other.size
    · simp -implicitDefEqProofs (maxSteps := 2000000) (disch := omega) only [go_sem, reduceCtorEq, Nat.reduceAdd, Nat.reduceSub, Nat.reduceMul, Nat.reduceLT, Nat.reduceLeDiff, Nat.reduceEqDiff, Nat.reduceBEq, Int.reduceToNat, Int.reduceLT, Int.reduceLE, Int.reduceEq, Int.reduceNeg, Int.reduceAdd, Int.reduceSub, Int.reduceMul, ↓reduceIte, Int.reduceBEq, Int.reduceBNe]
    · simp only [List.append_assoc, List.cons_append, List.nil_append]
      simp -implicitDefEqProofs (maxSteps := 2000000) (disch := omega) only [go_sem, reduceCtorEq, Nat.reduceAdd, Nat.reduceSub, Nat.reduceMul, Nat.reduceLT, Nat.reduceLeDiff, Nat.reduceEqDiff, Nat.reduceBEq, Int.reduceToNat, Int.reduceLT, Int.reduceLE, Int.reduceEq, Int.reduceNeg, Int.reduceAdd, Int.reduceSub, Int.reduceMul, ↓reduceIte, Int.reduceBEq, Int.reduceBNe]
      rw [← hcav c, ← hoav o]
      refine cases_c c o other nums hl _ _ fun c1 o1 junk2 hC1 hO1 => ?_
      have hc1 := okCat_of hC1
      have ho1 := okOld_of hC1 hO1
      have ho2 : Go.Proofs.okOld ⟨o1.seen, other, o1.changed⟩ := ⟨ho1.1, by simp only; omega⟩
      have hf := fun (i : Nat) (hi : i < 4) => four_at (c := c) (c1 := c1) (o := o) (o1 := o1) (o2 := ⟨o1.seen, other, o1.changed⟩) hc hc1 ho ho1 ho2 hi
      have hlc : ((fourC c c1).map Cat.av).length = 4 := rfl
      clear hC1 hO1
      generalize (fourC c c1).map Cat.av = A at hf hlc ⊢
      generalize (fourO o o1 ⟨o1.seen, other, o1.changed⟩).map Old.av = B at hf ⊢
      simp -implicitDefEqProofs (maxSteps := 2000000) (disch := omega) only [go_sem, reduceCtorEq, Nat.reduceAdd, Nat.reduceSub, Nat.reduceMul, Nat.reduceLT, Nat.reduceLeDiff, Nat.reduceEqDiff, Nat.reduceBEq, Int.reduceToNat, Int.reduceLT, Int.reduceLE, Int.reduceEq, Int.reduceNeg, Int.reduceAdd, Int.reduceSub, Int.reduceMul, ↓reduceIte, Int.reduceBEq, Int.reduceBNe, hlc]
      refine ARun.forG (Tryz.envOKV 165 Tryz.ordY fs124 fs124_ok) 4 (fun _ => True) (fun i => [(13, .int .i64 i)]) (fun _ j => σ ++ (.cells [.int .i64 c.features, .list .no 3 (c.models.map Model.av)] :: .cells [.list .no 1 (o.seen.map (.int .i64)), .str o.plate, .int .i64 o.changed] :: j)) (junk ++ junk2) (by kernel_rfl) (by kernel_rfl) (by simp) (by simp [upd, ins, subF, lookA]) trivial ?_ ?_
      · intro K Q' hK i j hi _ ih
        obtain ⟨ci, oi, e1, e2, e3, e4⟩ := hf i hi
        rw [hcav ci] at e1
        rw [hoav oi] at e2
        have e5 := e4.1
        have b3 := @knownF_len ci oi feature
        have b3' : (knownFM ci oi feature).1.length ≤ 4294967296 := by omega
        simp -implicitDefEqProofs (maxSteps := 2000000) (disch := omega) only [go_sem, reduceCtorEq, Nat.reduceAdd, Nat.reduceSub, Nat.reduceMul, Nat.reduceLT, Nat.reduceLeDiff, Nat.reduceEqDiff, Nat.reduceBEq, Int.reduceToNat, Int.reduceLT, Int.reduceLE, Int.reduceEq, Int.reduceNeg, Int.reduceAdd, Int.reduceSub, Int.reduceMul, ↓reduceIte, Int.reduceBEq, Int.reduceBNe, hlc, e1, e2, List.append_eq, Cat_eta, Old_eta, e3, e4, e5, b3']
        exact (ih trivial (j ++ _)).castS (by first | (simp; done) | (simp; rfl) | rfl) (by simp [upd, ins, subF, lookA])
      · intro j _
        simp -implicitDefEqProofs (maxSteps := 2000000) (disch := omega) only [go_sem, reduceCtorEq, Nat.reduceAdd, Nat.reduceSub, Nat.reduceMul, Nat.reduceLT, Nat.reduceLeDiff, Nat.reduceEqDiff, Nat.reduceBEq, Int.reduceToNat, Int.reduceLT, Int.reduceLE, Int.reduceEq, Int.reduceNeg, Int.reduceAdd, Int.reduceSub, Int.reduceMul, ↓reduceIte, Int.reduceBEq, Int.reduceBNe, hlc]
end Go.Proofs
