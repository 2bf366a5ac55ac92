/- Texts of a proof: lemmas. -/
import Derived.Test.YthejgnlikaiddaaGreatDoorPRA
import Derived.Test.YthejgnlikaiddaaGreatDoorPE1
set_option linter.unusedSimpArgs false
set_option linter.unusedVariables false
set_option maxRecDepth 100000
namespace Go.Proofs
open Go Go.Mu

theorem div_pow {n : Int} (h : 0 ≤ n) (k : Nat) : (n / 10 ^ k).tdiv 10 = n / 10 ^ (k + 1) := by
  have h1 : 0 ≤ n / 10 ^ k := Int.ediv_nonneg h (Int.le_of_lt (Int.pow_pos (by omega)))
  rw [Int.tdiv_eq_ediv_of_nonneg h1, Int.ediv_ediv_of_nonneg (Int.le_of_lt (Int.pow_pos (by omega))), Int.pow_succ]
theorem pow_le {n : Int} (h : 0 ≤ n) (k : Nat) : 0 ≤ n / 10 ^ k ∧ n / 10 ^ k ≤ n := ⟨Int.ediv_nonneg h (Int.le_of_lt (Int.pow_pos (by omega))), Int.ediv_le_self _ h⟩
theorem rdigit_p (n : Int) (i : Nat) (h0 : 0 ≤ n) (h1 : n ≤ 9999) (hi : i < 4) : PureV Tryz.prog 110 [.int .i64 n, .int .i64 i] (.int .u8 (digitAt n i)) := by
  refine PureV.of_ev (E := Tryz.E 17 (fun _ => ([], [])) fs103) (Tryz.envOK 17 (fun _ => ([], [])) fs103 fs103_ok) (.int) Tryz.kp110 Tryz.func110 rfl (by kernel_rfl) (by simp [Tryz.E]) (Callable.of Tryz.func110 (by kernel_rfl) (by kernel_rfl)) (by kernel_rfl) ?_
  intro σ
  simp -implicitDefEqProofs (maxSteps := 2000000) (disch := omega) only [go_sem, reduceCtorEq, Nat.reduceAdd, Nat.reduceSub, Nat.reduceMul, Nat.reduceLT, Nat.reduceLeDiff, Nat.reduceEqDiff, Nat.reduceBEq, Int.reduceToNat, Int.reduceLT, Int.reduceLE, Int.reduceEq, Int.reduceNeg, Int.reduceAdd, Int.reduceSub, Int.reduceMul, ↓reduceIte, Int.reduceBEq, Int.reduceBNe]
  refine ARun.forG (Tryz.envOK 17 (fun _ => ([], [])) fs103 fs103_ok) (3 - i) (fun _ => True) (fun k => [(0, .int .i64 (n / 10 ^ k)), (5, .int .i64 ((i : Int) + k))]) (fun _ j => σ) [] (by kernel_rfl) (by kernel_rfl) rfl (by simp [upd, ins, subF, lookA]) trivial ?_ ?_
  · intro K Q' hK k j hk _ ih
    have hd := div_pow h0 k
    have hb := pow_le h0 k
    have hb2 := pow_le h0 (k + 1)
    generalize n / 10 ^ k = x at hd hb ⊢
    generalize n / 10 ^ (k + 1) = y at hd hb2 ih
    simp -implicitDefEqProofs (maxSteps := 2000000) (disch := omega) only [go_sem, reduceCtorEq, Nat.reduceAdd, Nat.reduceSub, Nat.reduceMul, Nat.reduceLT, Nat.reduceLeDiff, Nat.reduceEqDiff, Nat.reduceBEq, Int.reduceToNat, Int.reduceLT, Int.reduceLE, Int.reduceEq, Int.reduceNeg, Int.reduceAdd, Int.reduceSub, Int.reduceMul, ↓reduceIte, Int.reduceBEq, Int.reduceBNe, hd]
    exact (ih trivial j).castS rfl (by simp [upd, ins, subF, lookA, Int.add_assoc])
  · intro j _
    have hb := pow_le h0 (3 - i)
    have hdd : digitAt n i = 48 + (n / 10 ^ (3 - i)) % 10 := rfl
    rw [hdd]
    generalize n / 10 ^ (3 - i) = x at hb ⊢
    have hm : x.tmod 10 = x % 10 := Int.tmod_eq_emod_of_nonneg hb.1
    have hw : IntKind.u8.wrap (48 + x % 10) = 48 + x % 10 := by
      have : IntKind.u8.wrap (48 + x % 10) = (48 + x % 10) % 256 := rfl
      rw [this]; omega
    simp -implicitDefEqProofs (maxSteps := 2000000) (disch := omega) only [go_sem, reduceCtorEq, Nat.reduceAdd, Nat.reduceSub, Nat.reduceMul, Nat.reduceLT, Nat.reduceLeDiff, Nat.reduceEqDiff, Nat.reduceBEq, Int.reduceToNat, Int.reduceLT, Int.reduceLE, Int.reduceEq, Int.reduceNeg, Int.reduceAdd, Int.reduceSub, Int.reduceMul, ↓reduceIte, Int.reduceBEq, Int.reduceBNe, hm, hw]
def rdigit_s := spec2 tI tI fun n i => if (0 ≤ n ∧ n ≤ 9999) ∧ 0 ≤ i ∧ i < 4 then some (.int .u8 (digitAt n i.toNat)) else none
theorem rdigit_ok : ∀ xs v, rdigit_s xs = some v → PureV Tryz.prog 110 xs v :=
  spec2_ok fun n i v h => by
    have h := someIf h
    obtain ⟨k, rfl⟩ : ∃ k : Nat, i = k := ⟨i.toNat, by omega⟩
    rw [← h.2]; exact rdigit_p n k h.1.1.1 h.1.1.2 (by omega)
def fs104 (f : FuncId) (xs : List AV) : Option AV := if f = 110 then rdigit_s xs else fs103 f xs
theorem fs104_ok : ∀ f xs v, fs104 f xs = some v → PureV Tryz.prog f xs v := by
  intro f xs v h
  unfold fs104 at h
  split at h
  · rename_i e; subst e; exact rdigit_ok _ _ h
  exact fs103_ok _ _ _ h
attribute [go_sem] fs104 rdigit_s
set_option maxHeartbeats 4000000 in
theorem rshows_p (pl : ByteArray) (n : Int) (hp : pl.size ≤ 4) (h0 : 0 ≤ n) (h1 : n ≤ 9999) : PureV Tryz.prog 100 [.str pl, .int .i64 n] (.bool (readsP pl n)) := by
  refine PureV.of_ev (E := Tryz.E 25 Tryz.ord100 fs104) (Tryz.envOK 25 Tryz.ord100 fs104 fs104_ok) (.bool) Tryz.kp100 Tryz.func100 rfl (by kernel_rfl) (by simp [Tryz.E]) (Callable.of Tryz.func100 (by kernel_rfl) (by kernel_rfl)) (by kernel_rfl) ?_
  intro σ
  have hpl : pl.data.toList.length = pl.size := Array.length_toList
  simp -implicitDefEqProofs (maxSteps := 2000000) (disch := omega) only [go_sem, reduceCtorEq, Nat.reduceAdd, Nat.reduceSub, Nat.reduceMul, Nat.reduceLT, Nat.reduceLeDiff, Nat.reduceEqDiff, Nat.reduceBEq, Int.reduceToNat, Int.reduceLT, Int.reduceLE, Int.reduceEq, Int.reduceNeg, Int.reduceAdd, Int.reduceSub, Int.reduceMul, ↓reduceIte, Int.reduceBEq, Int.reduceBNe]
  refine ARun.forS (Tryz.envOK 25 Tryz.ord100 fs104 fs104_ok) pl.size (fun i => ∀ k, k < i → readB n k (pl.data.toList.getD k 0) = true) (fun i => [(5, .int .i64 i)]) (fun i j => σ) [] (by kernel_rfl) rfl (by simp [upd, ins, subF, lookA]) (fun k hk => by omega) ?_ ?_
  · intro i j hi hP ih
    have hg := str_get hi
    have hno : readB n i (pl.data.toList.getD i 0) = false → readsP pl n = false := fun h => Bool.eq_false_iff.2 fun h' => by have := readsP_iff.1 h' i hi; rw [h] at this; cases this
    have hyes : readB n i (pl.data.toList.getD i 0) = true → ∀ k, k < i + 1 → readB n k (pl.data.toList.getD k 0) = true := fun h k hk => by
      by_cases e : k = i
      · subst e; exact h
      · exact hP k (by omega)
    generalize pl.data.toList.getD i 0 = b at hg hno hyes
    have hdi : readB n i b = (decide ((b.toNat : Int) = 63) || decide ((b.toNat : Int) = digitAt n i)) := by
      unfold readB
      congr 1
      rw [Bool.eq_iff_iff, beq_iff_eq, decide_eq_true_eq, ← UInt8.toNat_inj]
      have : (63 : UInt8).toNat = 63 := rfl
      omega
    rw [hdi] at hno hyes
    have hltb : ((b.toNat : Nat) : Int) ≤ 255 := by have := b.toNat_lt; omega
    clear hP hdi
    have hg1 : pl[((i : Nat) : Int).toNat]? = some b := by rw [Int.toNat_natCast]; exact hg
    generalize hx : ((b.toNat : Nat) : Int) = x at hno hyes hltb
    generalize hy : digitAt n i = y at hno hyes
    have hi4 : (i : Int) < 4 := by omega
    by_cases r1 : x = 63
    · simp -implicitDefEqProofs (maxSteps := 2000000) (disch := omega) only [go_sem, reduceCtorEq, Nat.reduceAdd, Nat.reduceSub, Nat.reduceMul, Nat.reduceLT, Nat.reduceLeDiff, Nat.reduceEqDiff, Nat.reduceBEq, Int.reduceToNat, Int.reduceLT, Int.reduceLE, Int.reduceEq, Int.reduceNeg, Int.reduceAdd, Int.reduceSub, Int.reduceMul, ↓reduceIte, Int.reduceBEq, Int.reduceBNe, Int.toNat_natCast, hg, hg1, hx, hy]
      exact (ih (hyes (by simp [r1])) j).castS rfl (by simp [upd, ins, subF, lookA])
    · by_cases r2 : x = y
      · simp -implicitDefEqProofs (maxSteps := 2000000) (disch := omega) only [go_sem, reduceCtorEq, Nat.reduceAdd, Nat.reduceSub, Nat.reduceMul, Nat.reduceLT, Nat.reduceLeDiff, Nat.reduceEqDiff, Nat.reduceBEq, Int.reduceToNat, Int.reduceLT, Int.reduceLE, Int.reduceEq, Int.reduceNeg, Int.reduceAdd, Int.reduceSub, Int.reduceMul, ↓reduceIte, Int.reduceBEq, Int.reduceBNe, Int.toNat_natCast, hg, hg1, hx, hy]
        exact (ih (hyes (by simp [r2])) j).castS rfl (by simp [upd, ins, subF, lookA])
      · simp -implicitDefEqProofs (maxSteps := 2000000) (disch := omega) only [go_sem, reduceCtorEq, Nat.reduceAdd, Nat.reduceSub, Nat.reduceMul, Nat.reduceLT, Nat.reduceLeDiff, Nat.reduceEqDiff, Nat.reduceBEq, Int.reduceToNat, Int.reduceLT, Int.reduceLE, Int.reduceEq, Int.reduceNeg, Int.reduceAdd, Int.reduceSub, Int.reduceMul, ↓reduceIte, Int.reduceBEq, Int.reduceBNe, Int.toNat_natCast, hg, hg1, hx, hy]
        exact (hno (by simp [r1, r2])).symm
  · intro j hP
    rw [readsP_iff.2 hP]
    simp -implicitDefEqProofs (maxSteps := 2000000) (disch := omega) only [go_sem, reduceCtorEq, Nat.reduceAdd, Nat.reduceSub, Nat.reduceMul, Nat.reduceLT, Nat.reduceLeDiff, Nat.reduceEqDiff, Nat.reduceBEq, Int.reduceToNat, Int.reduceLT, Int.reduceLE, Int.reduceEq, Int.reduceNeg, Int.reduceAdd, Int.reduceSub, Int.reduceMul, ↓reduceIte, Int.reduceBEq, Int.reduceBNe]
def rshows_s := spw2 tyS.w tyI.w fun pl n => if pl.size ≤ 4 ∧ 0 ≤ n ∧ n ≤ 9999 then some (.bool (readsP pl n)) else none
theorem rshows_ok : ∀ xs v, rshows_s xs = some v → PureV Tryz.prog 100 xs v :=
  spw2_ok fun pl n v h => by have h := someIf h; rw [← h.2]; exact rshows_p pl n h.1.1 h.1.2.1 h.1.2.2
def rchanged_s := spec2 tI tI fun s l => some (.bool (decide (s ≠ 0) && decide (s ≠ l)))
theorem rchanged_ok : ∀ xs v, rchanged_s xs = some v → PureV Tryz.prog 70 xs v := by
  refine spec2_ok fun s l v h => ?_
  simp only [Option.some.injEq] at h; subst h
  refine PureV.of_ev (E := Tryz.E 12 (fun _ => ([], [])) fs0) (Tryz.envOK 12 (fun _ => ([], [])) fs0 fs0_ok) (.bool) Tryz.kp70 Tryz.func70 rfl (by kernel_rfl) (by simp [Tryz.E]) (Callable.of Tryz.func70 (by kernel_rfl) (by kernel_rfl)) (by kernel_rfl) ?_
  intro σ
  simp only [tI]
  by_cases r1 : s = 0
  · simp -implicitDefEqProofs (maxSteps := 2000000) (disch := omega) only [go_sem, reduceCtorEq, Nat.reduceAdd, Nat.reduceSub, Nat.reduceMul, Nat.reduceLT, Nat.reduceLeDiff, Nat.reduceEqDiff, Nat.reduceBEq, Int.reduceToNat, Int.reduceLT, Int.reduceLE, Int.reduceEq, Int.reduceNeg, Int.reduceAdd, Int.reduceSub, Int.reduceMul, ↓reduceIte, Int.reduceBEq, Int.reduceBNe]
    try simp [r1]
  · by_cases r2 : s = l
    · simp -implicitDefEqProofs (maxSteps := 2000000) (disch := omega) only [go_sem, reduceCtorEq, Nat.reduceAdd, Nat.reduceSub, Nat.reduceMul, Nat.reduceLT, Nat.reduceLeDiff, Nat.reduceEqDiff, Nat.reduceBEq, Int.reduceToNat, Int.reduceLT, Int.reduceLE, Int.reduceEq, Int.reduceNeg, Int.reduceAdd, Int.reduceSub, Int.reduceMul, ↓reduceIte, Int.reduceBEq, Int.reduceBNe]
      try simp [r1, r2]
    · simp -implicitDefEqProofs (maxSteps := 2000000) (disch := omega) only [go_sem, reduceCtorEq, Nat.reduceAdd, Nat.reduceSub, Nat.reduceMul, Nat.reduceLT, Nat.reduceLeDiff, Nat.reduceEqDiff, Nat.reduceBEq, Int.reduceToNat, Int.reduceLT, Int.reduceLE, Int.reduceEq, Int.reduceNeg, Int.reduceAdd, Int.reduceSub, Int.reduceMul, ↓reduceIte, Int.reduceBEq, Int.reduceBNe]
      try simp [r1, r2]
def fs105 (f : FuncId) (xs : List AV) : Option AV := if f = 100 then rshows_s xs else if f = 70 then rchanged_s xs else fs104 f xs
theorem fs105_ok : ∀ f xs v, fs105 f xs = some v → PureV Tryz.prog f xs v := by
  intro f xs v h
  unfold fs105 at h
  split at h
  · rename_i e; subst e; exact rshows_ok _ _ h
  split at h
  · rename_i e; subst e; exact rchanged_ok _ _ h
  exact fs104_ok _ _ _ h
attribute [go_sem] fs105 rshows_s rchanged_s
set_option maxHeartbeats 4000000 in
theorem rchanges_p (o : Old) (l : List Int) (hl : l.length = o.seen.length) (h4 : l.length ≤ 4) (hb : ∀ x ∈ o.seen, 0 ≤ x) : PureV Tryz.prog 103 [o.av, isv l] (.int .i64 (changedN l o.seen)) := by
  refine PureV.of_ev (E := Tryz.E 26 Tryz.ord103 fs105) (Tryz.envOK 26 Tryz.ord103 fs105 fs105_ok) (.int) Tryz.kp103 Tryz.func103 rfl (by kernel_rfl) (by simp [Tryz.E]) (Callable.of Tryz.func103 (by kernel_rfl) (by kernel_rfl)) (by kernel_rfl) ?_
  intro σ
  simp only [Old.av]
  have hd : changedN l o.seen = cntN (chg l o.seen) o.seen.length := rfl
  rw [hd]
  generalize o.seen = S at hl hb ⊢
  simp only [isv]
  simp -implicitDefEqProofs (maxSteps := 2000000) (disch := omega) only [go_sem, reduceCtorEq, Nat.reduceAdd, Nat.reduceSub, Nat.reduceMul, Nat.reduceLT, Nat.reduceLeDiff, Nat.reduceEqDiff, Nat.reduceBEq, Int.reduceToNat, Int.reduceLT, Int.reduceLE, Int.reduceEq, Int.reduceNeg, Int.reduceAdd, Int.reduceSub, Int.reduceMul, ↓reduceIte, Int.reduceBEq, Int.reduceBNe]
  refine ARun.forG (Tryz.envOK 26 Tryz.ord103 fs105 fs105_ok) l.length (fun _ => True) (fun i => [(5, .int .i64 (cntN (chg l S) i)), (6, .int .i64 i)]) (fun _ j => σ ++ (.cells [.list .no 1 (S.map (.int .i64)), .str o.plate, .int .i64 o.changed] :: j)) [] (by kernel_rfl) (by kernel_rfl) rfl (by simp [upd, ins, subF, lookA, cntN]) trivial ?_ ?_
  · intro K Q' hK i j hi _ ih
    have hsi : idx (S.map (AV.int .i64)) (i : Int) = some (.int .i64 (tg S i)) := by rw [idx_nat (by omega), tgE (by omega)]
    have hli : idx (l.map (AV.int .i64)) (i : Int) = some (.int .i64 (tg l i)) := by rw [idx_nat hi, tgE hi]
    have hc : chg l S i = (decide (0 < tg S i) && decide (tg S i ≠ tg l i)) := rfl
    have hs0 : 0 ≤ tg S i := by rw [tgE (by omega)]; exact hb _ (List.getElem_mem _)
    rw [cntN_succ, hc] at ih
    have hle := @cntN_le (chg l S) i
    generalize cntN (chg l S) i = n at ih hle ⊢
    generalize tg S i = x at hsi ih hs0
    generalize tg l i = y at hli ih
    clear hc
    by_cases r1 : x = 0
    · simp -implicitDefEqProofs (maxSteps := 2000000) (disch := omega) only [go_sem, reduceCtorEq, Nat.reduceAdd, Nat.reduceSub, Nat.reduceMul, Nat.reduceLT, Nat.reduceLeDiff, Nat.reduceEqDiff, Nat.reduceBEq, Int.reduceToNat, Int.reduceLT, Int.reduceLE, Int.reduceEq, Int.reduceNeg, Int.reduceAdd, Int.reduceSub, Int.reduceMul, ↓reduceIte, Int.reduceBEq, Int.reduceBNe, hsi, hli]
      exact (ih trivial j).castS rfl (by simp [upd, ins, subF, lookA, r1])
    · have r3 : 0 < x := by omega
      by_cases r2 : x = y
      · simp -implicitDefEqProofs (maxSteps := 2000000) (disch := omega) only [go_sem, reduceCtorEq, Nat.reduceAdd, Nat.reduceSub, Nat.reduceMul, Nat.reduceLT, Nat.reduceLeDiff, Nat.reduceEqDiff, Nat.reduceBEq, Int.reduceToNat, Int.reduceLT, Int.reduceLE, Int.reduceEq, Int.reduceNeg, Int.reduceAdd, Int.reduceSub, Int.reduceMul, ↓reduceIte, Int.reduceBEq, Int.reduceBNe, hsi, hli]
        exact (ih trivial j).castS rfl (by simp [upd, ins, subF, lookA, r2])
      · simp -implicitDefEqProofs (maxSteps := 2000000) (disch := omega) only [go_sem, reduceCtorEq, Nat.reduceAdd, Nat.reduceSub, Nat.reduceMul, Nat.reduceLT, Nat.reduceLeDiff, Nat.reduceEqDiff, Nat.reduceBEq, Int.reduceToNat, Int.reduceLT, Int.reduceLE, Int.reduceEq, Int.reduceNeg, Int.reduceAdd, Int.reduceSub, Int.reduceMul, ↓reduceIte, Int.reduceBEq, Int.reduceBNe, hsi, hli]
        exact (ih trivial j).castS rfl (by simp [upd, ins, subF, lookA, r1, r2, r3])
  · intro j _
    rw [hl]
    simp -implicitDefEqProofs (maxSteps := 2000000) (disch := omega) only [go_sem, reduceCtorEq, Nat.reduceAdd, Nat.reduceSub, Nat.reduceMul, Nat.reduceLT, Nat.reduceLeDiff, Nat.reduceEqDiff, Nat.reduceBEq, Int.reduceToNat, Int.reduceLT, Int.reduceLE, Int.reduceEq, Int.reduceNeg, Int.reduceAdd, Int.reduceSub, Int.reduceMul, ↓reduceIte, Int.reduceBEq, Int.reduceBNe]
def rchanges_s := spw2 tyOld.w tyIs.w fun o l => if l.length = o.seen.length ∧ l.length ≤ 4 ∧ ∀ x ∈ o.seen, 0 ≤ x then some (.int .i64 (changedN l o.seen)) else none
theorem rchanges_ok : ∀ xs v, rchanges_s xs = some v → PureV Tryz.prog 103 xs v :=
  spw2_ok fun o l v h => by have h := someIf h; rw [← h.2]; exact rchanges_p o l h.1.1 h.1.2.1 h.1.2.2
end Go.Proofs
