/- Texts of a proof: lemmas. -/
import Derived.Test.YthejgnlikaiddaaDoorPA1
import Derived.Test.YthejgnlikaiddaaDoorSL
import Derived.Test.YthejgnlikaiddaaDoorMS
set_option linter.unusedSimpArgs false
set_option linter.unusedVariables false
set_option maxRecDepth 100000
namespace Go.Proofs
open Go Go.Mu

/-- A number's decimal numeral. -/
def itoaS (n : Int) : ByteArray := ⟨(Lib.itoa n).toArray⟩
theorem dec_small {u : Nat} (h : u < 10) : Lib.decDigits u = [UInt8.ofNat (48 + u)] := by rw [Lib.decDigits, dif_pos h]
theorem dec_big {u : Nat} (h : ¬ u < 10) : Lib.decDigits u = Lib.decDigits (u / 10) ++ [UInt8.ofNat (48 + u % 10)] := by rw [Lib.decDigits, dif_neg h]
theorem itoa_five {n : Int} (h0 : 0 ≤ n) (h1 : n ≤ 9999) : Lib.itoa (10000 + n) = [49, UInt8.ofNat (48 + n.toNat / 1000 % 10), UInt8.ofNat (48 + n.toNat / 100 % 10), UInt8.ofNat (48 + n.toNat / 10 % 10), UInt8.ofNat (48 + n.toNat % 10)] := by
  have e : (10000 + n).toNat = 10000 + n.toNat := by omega
  have hk : n.toNat ≤ 9999 := by omega
  unfold Lib.itoa
  rw [if_neg (by omega), e]
  generalize n.toNat = k at hk ⊢
  rw [dec_big (by omega), dec_big (by omega), dec_big (by omega), dec_big (by omega), dec_small (by omega)]
  have h4 : (10000 + k) / 10 / 10 / 10 / 10 = 1 := by omega
  have h3 : (10000 + k) / 10 / 10 / 10 % 10 = k / 1000 % 10 := by omega
  have h2 : (10000 + k) / 10 / 10 % 10 = k / 100 % 10 := by omega
  have h1' : (10000 + k) / 10 % 10 = k / 10 % 10 := by omega
  have h0' : (10000 + k) % 10 = k % 10 := by omega
  rw [h4, h3, h2, h1', h0']
  rfl
theorem itoaS_size {n : Int} (h0 : 0 ≤ n) (h1 : n ≤ 9999) : (itoaS (10000 + n)).size = 5 := by
  unfold itoaS; rw [itoa_five h0 h1]; rfl
/-- The four digits of a number. -/
def dg4 (n : Int) : ByteArray := (itoaS (10000 + n)).extract 1 5
theorem dg4_data {n : Int} (h0 : 0 ≤ n) (h1 : n ≤ 9999) : (dg4 n).data.toList = [UInt8.ofNat (48 + n.toNat / 1000 % 10), UInt8.ofNat (48 + n.toNat / 100 % 10), UInt8.ofNat (48 + n.toNat / 10 % 10), UInt8.ofNat (48 + n.toNat % 10)] := by
  unfold dg4 itoaS; rw [itoa_five h0 h1, ByteArray.data_extract]; simp
theorem dg4_size {n : Int} (h0 : 0 ≤ n) (h1 : n ≤ 9999) : (dg4 n).size = 4 := by
  show (dg4 n).data.size = 4
  rw [← Array.length_toList, dg4_data h0 h1]; rfl
theorem dg4_get {n : Int} (h0 : 0 ≤ n) (h1 : n ≤ 9999) {i : Nat} (hi : i < 4) : ∃ b : UInt8, (dg4 n)[i]? = some b ∧ (b.toNat : Int) = digitAt n i := by
  refine ⟨_, str_get (by rw [dg4_size h0 h1]; exact hi), ?_⟩
  rw [dg4_data h0 h1]
  have : i = 0 ∨ i = 1 ∨ i = 2 ∨ i = 3 := by omega
  rcases this with rfl | rfl | rfl | rfl <;> simp only [List.getD, List.getElem?_cons_zero, List.getElem?_cons_succ, Option.getD_some, digitAt, UInt8.toNat_ofNat'] <;> omega
theorem itoa_ok' (n : Int) (h0 : -9223372036854775808 ≤ n) (h1 : n ≤ 9223372036854775807) : PureV Tryd.prog 45 [.int .i64 n] (.str (itoaS n)) :=
  itoa_p Tryd.lays171 (Callable.of Tryd.func45 (by kernel_rfl) (by kernel_rfl)) (g := 0) (by kernel_rfl) rfl n h0 h1
def itoa_s := spec1 tI fun n => if -9223372036854775808 ≤ n ∧ n ≤ 9223372036854775807 then some (.str (itoaS n)) else none
theorem itoa_ok : ∀ xs v, itoa_s xs = some v → PureV Tryd.prog 45 xs v :=
  spec1_ok fun n v h => by have h := someIf h; rw [← h.2]; exact itoa_ok' n h.1.1 h.1.2
def fs6 (f : FuncId) (xs : List AV) : Option AV := if f = 45 then itoa_s xs else fs5 f xs
theorem fs6_ok : ∀ f xs v, fs6 f xs = some v → PureV Tryd.prog f xs v := by
  intro f xs v h
  unfold fs6 at h
  split at h
  · rename_i e; subst e; exact itoa_ok _ _ h
  exact fs5_ok _ _ _ h
attribute [go_sem] fs6 itoa_s
theorem okB_small {b : UInt8} (h : okByte b = true) : b.toNat < 128 := by
  have := okB_byte.1 h; omega
theorem readsP_iff {pl : ByteArray} {n : Int} : readsP pl n = true ↔ ∀ i, i < pl.size → readB n i (pl.data.toList.getD i 0) = true := by
  unfold readsP; rw [List.all_eq_true]; simp
theorem all_getD {l : List UInt8} {p : UInt8 → Bool} (h : l.all p = true) {i : Nat} (hi : i < l.length) : p (l.getD i 0) = true := by
  have : l.getD i 0 = l[i] := by simp [List.getD, List.getElem?_eq_getElem hi]
  rw [this]; exact List.all_eq_true.1 h _ (List.getElem_mem hi)
set_option maxHeartbeats 4000000 in
theorem reads_p (pl : ByteArray) (n : Int) (hp : pl.size ≤ 4) (hall : pl.data.toList.all okByte = true) (h0 : 0 ≤ n) (h1 : n ≤ 9999) : PureV Tryd.prog 87 [.str pl, .int .i64 n] (.bool (readsP pl n)) := by
  refine PureV.of_ev (E := Tryd.E 28 (fun _ => ([], [])) fs6) (Tryd.envOK 28 (fun _ => ([], [])) fs6 fs6_ok) (.bool) Tryd.kp87 Tryd.func87 rfl (by kernel_rfl) (by simp [Tryd.E]) (Callable.of Tryd.func87 (by kernel_rfl) (by kernel_rfl)) (by kernel_rfl) ?_
  intro σ
  have hpl : pl.data.toList.length = pl.size := Array.length_toList
  have hsz := itoaS_size h0 h1
  have hdg : (itoaS (10000 + n)).extract 1 5 = dg4 n := rfl
  simp -implicitDefEqProofs (maxSteps := 2000000) (disch := omega) only [go_sem, reduceCtorEq, Nat.reduceAdd, Nat.reduceSub, Nat.reduceMul, Nat.reduceLT, Nat.reduceLeDiff, Nat.reduceEqDiff, Nat.reduceBEq, Int.reduceToNat, Int.reduceLT, Int.reduceLE, Int.reduceEq, Int.reduceNeg, Int.reduceAdd, Int.reduceSub, Int.reduceMul, ↓reduceIte, Int.reduceBEq, Int.reduceBNe, hsz, hdg]
  refine ARun.forS (Tryd.envOK 28 (fun _ => ([], [])) fs6 fs6_ok) pl.size (fun i => ∀ k, k < i → readB n k (pl.data.toList.getD k 0) = true) (fun i => []) (fun i j => σ ++ (.siter pl i :: j)) [] (by kernel_rfl) rfl (by simp [upd, ins, subF, lookA]) (fun k hk => by omega) ?_ ?_
  · intro i j hi hP ih
    have hg := str_get hi
    have hok := all_getD hall (i := i) (by omega)
    have hno : readB n i (pl.data.toList.getD i 0) = false → readsP pl n = false := fun h => Bool.eq_false_iff.2 fun h' => by have := readsP_iff.1 h' i hi; rw [h] at this; cases this
    have hyes : readB n i (pl.data.toList.getD i 0) = true → ∀ k, k < i + 1 → readB n k (pl.data.toList.getD k 0) = true := fun h k hk => by
      by_cases e : k = i
      · subst e; exact h
      · exact hP k (by omega)
    generalize pl.data.toList.getD i 0 = b at hg hok hno hyes
    have hlt := okB_small hok
    obtain ⟨d, hd1, hd2⟩ := dg4_get h0 h1 (i := i) (by omega)
    have hd3 : (dg4 n)[((i : Nat) : Int).toNat]? = some d := by rw [Int.toNat_natCast]; exact hd1
    have hdi : readB n i b = (decide ((b.toNat : Int) = 63) || decide ((b.toNat : Int) = digitAt n i)) := by
      unfold readB
      congr 1
      rw [Bool.eq_iff_iff, beq_iff_eq, decide_eq_true_eq, ← UInt8.toNat_inj]
      have : (63 : UInt8).toNat = 63 := rfl
      omega
    rw [hdi] at hno hyes
    rw [← hd2] at hno hyes
    have hltd : ((d.toNat : Nat) : Int) ≤ 255 := by have := d.toNat_lt; omega
    have hltb : ((b.toNat : Nat) : Int) < 128 := by omega
    clear hP hok hd1 hd2 hdi hall
    generalize hx : ((b.toNat : Nat) : Int) = x at hno hyes hltb
    generalize hy : ((d.toNat : Nat) : Int) = y at hno hyes hltd
    have hx0 : 0 ≤ x := by omega
    have hw : IntKind.u8.wrap x = x := by
      have : IntKind.u8.wrap x = x % 256 := rfl
      rw [this]; omega
    simp -implicitDefEqProofs (maxSteps := 2000000) (disch := omega) only [go_sem, reduceCtorEq, Nat.reduceAdd, Nat.reduceSub, Nat.reduceMul, Nat.reduceLT, Nat.reduceLeDiff, Nat.reduceEqDiff, Nat.reduceBEq, Int.reduceToNat, Int.reduceLT, Int.reduceLE, Int.reduceEq, Int.reduceNeg, Int.reduceAdd, Int.reduceSub, Int.reduceMul, ↓reduceIte, Int.reduceBEq, Int.reduceBNe, hg, hx, hd3, hy, hw]
    refine ⟨fun r1 => ⟨fun r2 => ?_, fun r2 => ?_⟩, fun r1 => ?_⟩
    · exact (hno (by simp [r1, r2])).symm
    · exact (ih (hyes (by simp [r2])) j).castS rfl (by simp [upd, ins, subF, lookA])
    · exact (ih (hyes (by simp [r1])) j).castS rfl (by simp [upd, ins, subF, lookA])
  · intro j hP
    have hgn : pl[pl.size]? = none := getElem?_neg pl pl.size (Nat.lt_irrefl _)
    rw [readsP_iff.2 hP]
    simp -implicitDefEqProofs (maxSteps := 2000000) (disch := omega) only [go_sem, reduceCtorEq, Nat.reduceAdd, Nat.reduceSub, Nat.reduceMul, Nat.reduceLT, Nat.reduceLeDiff, Nat.reduceEqDiff, Nat.reduceBEq, Int.reduceToNat, Int.reduceLT, Int.reduceLE, Int.reduceEq, Int.reduceNeg, Int.reduceAdd, Int.reduceSub, Int.reduceMul, ↓reduceIte, Int.reduceBEq, Int.reduceBNe, hgn]
def okPlate (pl : ByteArray) : Prop := pl.size ≤ 4 ∧ pl.data.toList.all okByte = true
instance (pl : ByteArray) : Decidable (okPlate pl) := by unfold okPlate; infer_instance
def reads_s := spw2 tyS.w tyI.w fun pl n => if okPlate pl ∧ 0 ≤ n ∧ n ≤ 9999 then some (.bool (readsP pl n)) else none
theorem reads_ok : ∀ xs v, reads_s xs = some v → PureV Tryd.prog 87 xs v :=
  spw2_ok fun pl n v h => by have h := someIf h; rw [← h.2]; exact reads_p pl n h.1.1.1 h.1.1.2 h.1.2.1 h.1.2.2
theorem putAt_nil0 {cs : List AV} : putAt 0 [] cs = cs := by simp [putAt]
theorem lookOf_p (l : List Int) (h1 : l.length ≤ 4) : PureV Tryd.prog 92 [isv l] (lkv l) := by
  refine PureV.of_ev (E := Tryd.E 8 (fun _ => ([], [])) fs6) (Tryd.envOK 8 (fun _ => ([], [])) fs6 fs6_ok) (.agg (by simp; exact ⟨.int, .int, .int, .int⟩)) Tryd.kp92 Tryd.func92 rfl (by kernel_rfl) (by simp [Tryd.E]) (Callable.of Tryd.func92 (by kernel_rfl) (by kernel_rfl)) (by kernel_rfl) ?_
  intro σ
  match l, h1 with
  | [], _ => simp only [isv, lkv, tg]; simp -implicitDefEqProofs (maxSteps := 2000000) (disch := omega) only [go_sem, reduceCtorEq, Nat.reduceAdd, Nat.reduceSub, Nat.reduceMul, Nat.reduceLT, Nat.reduceLeDiff, Nat.reduceEqDiff, Nat.reduceBEq, Int.reduceToNat, Int.reduceLT, Int.reduceLE, Int.reduceEq, Int.reduceNeg, Int.reduceAdd, Int.reduceSub, Int.reduceMul, ↓reduceIte, Int.reduceBEq, Int.reduceBNe, putAt_nil0]; simp
  | [a], _ => simp only [isv, lkv, tg]; simp -implicitDefEqProofs (maxSteps := 2000000) (disch := omega) only [go_sem, reduceCtorEq, Nat.reduceAdd, Nat.reduceSub, Nat.reduceMul, Nat.reduceLT, Nat.reduceLeDiff, Nat.reduceEqDiff, Nat.reduceBEq, Int.reduceToNat, Int.reduceLT, Int.reduceLE, Int.reduceEq, Int.reduceNeg, Int.reduceAdd, Int.reduceSub, Int.reduceMul, ↓reduceIte, Int.reduceBEq, Int.reduceBNe]; simp [wk0]
  | [a, b], _ => simp only [isv, lkv, tg]; simp -implicitDefEqProofs (maxSteps := 2000000) (disch := omega) only [go_sem, reduceCtorEq, Nat.reduceAdd, Nat.reduceSub, Nat.reduceMul, Nat.reduceLT, Nat.reduceLeDiff, Nat.reduceEqDiff, Nat.reduceBEq, Int.reduceToNat, Int.reduceLT, Int.reduceLE, Int.reduceEq, Int.reduceNeg, Int.reduceAdd, Int.reduceSub, Int.reduceMul, ↓reduceIte, Int.reduceBEq, Int.reduceBNe]; simp [wk0]
  | [a, b, c], _ => simp only [isv, lkv, tg]; simp -implicitDefEqProofs (maxSteps := 2000000) (disch := omega) only [go_sem, reduceCtorEq, Nat.reduceAdd, Nat.reduceSub, Nat.reduceMul, Nat.reduceLT, Nat.reduceLeDiff, Nat.reduceEqDiff, Nat.reduceBEq, Int.reduceToNat, Int.reduceLT, Int.reduceLE, Int.reduceEq, Int.reduceNeg, Int.reduceAdd, Int.reduceSub, Int.reduceMul, ↓reduceIte, Int.reduceBEq, Int.reduceBNe]; simp [wk0]
  | [a, b, c, d], _ => simp only [isv, lkv, tg]; simp -implicitDefEqProofs (maxSteps := 2000000) (disch := omega) only [go_sem, reduceCtorEq, Nat.reduceAdd, Nat.reduceSub, Nat.reduceMul, Nat.reduceLT, Nat.reduceLeDiff, Nat.reduceEqDiff, Nat.reduceBEq, Int.reduceToNat, Int.reduceLT, Int.reduceLE, Int.reduceEq, Int.reduceNeg, Int.reduceAdd, Int.reduceSub, Int.reduceMul, ↓reduceIte, Int.reduceBEq, Int.reduceBNe]; simp [wk0]
def lookOf_s := spw1 tyIs.w fun l => if l.length ≤ 4 then some (lkv l) else none
theorem lookOf_ok : ∀ xs v, lookOf_s xs = some v → PureV Tryd.prog 92 xs v :=
  spw1_ok fun l v h => by have h := someIf h; rw [← h.2]; exact lookOf_p l h.1
/-- How many numbers below n are so. -/
def cntN (p : Nat → Bool) (n : Nat) : Nat := ((List.range n).filter p).length
theorem cntN_succ {p : Nat → Bool} {n : Nat} : cntN p (n + 1) = cntN p n + if p n then 1 else 0 := by
  unfold cntN; rw [List.range_succ, List.filter_append, List.length_append]
  cases h : p n <;> simp [h]
theorem cntN_le {p : Nat → Bool} {n : Nat} : cntN p n ≤ n := Nat.le_trans (List.length_filter_le _ _) (by simp)
theorem tgE {g : List Int} {i : Nat} (h : i < g.length) : tg g i = g[i] := by
  simp [tg, List.getD, List.getElem?_eq_getElem h]
theorem get4 {a b c d : Int} {i : Nat} (h : i < 4) : [AV.int .i64 a, .int .i64 b, .int .i64 c, .int .i64 d][((i : Nat) : Int).toNat]? = some (.int .i64 (tg [a, b, c, d] i)) := by
  rw [Int.toNat_natCast]
  have : i = 0 ∨ i = 1 ∨ i = 2 ∨ i = 3 := by omega
  rcases this with rfl | rfl | rfl | rfl <;> rfl
theorem changed_p (a b c d : Int) (seen : List Int) (hs : seen.length ≤ 4) : PureV Tryd.prog 51 [.agg [.int .i64 a, .int .i64 b, .int .i64 c, .int .i64 d], isv seen] (.int .i64 (changedN [a, b, c, d] seen)) := by
  refine PureV.of_ev (E := Tryd.E 28 (fun _ => ([], [])) fs6) (Tryd.envOK 28 (fun _ => ([], [])) fs6 fs6_ok) (.int) Tryd.kp51 Tryd.func51 rfl (by kernel_rfl) (by simp [Tryd.E]) (Callable.of Tryd.func51 (by kernel_rfl) (by kernel_rfl)) (by kernel_rfl) ?_
  intro σ
  have hd : changedN [a, b, c, d] seen = cntN (chg [a, b, c, d] seen) seen.length := rfl
  rw [hd]
  simp only [isv]
  simp -implicitDefEqProofs (maxSteps := 2000000) (disch := omega) only [go_sem, reduceCtorEq, Nat.reduceAdd, Nat.reduceSub, Nat.reduceMul, Nat.reduceLT, Nat.reduceLeDiff, Nat.reduceEqDiff, Nat.reduceBEq, Int.reduceToNat, Int.reduceLT, Int.reduceLE, Int.reduceEq, Int.reduceNeg, Int.reduceAdd, Int.reduceSub, Int.reduceMul, ↓reduceIte, Int.reduceBEq, Int.reduceBNe]
  refine ARun.forS (Tryd.envOK 28 (fun _ => ([], [])) fs6 fs6_ok) seen.length (fun _ => True) (fun i => [(5, .int .i64 (cntN (chg [a, b, c, d] seen) i)), (10, .int .i64 i)]) (fun _ j => σ ++ (.cells [.int .i64 a, .int .i64 b, .int .i64 c, .int .i64 d] :: j)) [] (by kernel_rfl) rfl (by simp [upd, ins, subF, lookA, cntN]) trivial ?_ ?_
  · intro i j hi _ ih
    have hg := @get4 a b c d i (by omega)
    have hsi : idx (seen.map (AV.int .i64)) (i : Int) = some (.int .i64 (tg seen i)) := by rw [idx_nat hi, tgE hi]
    have hc : chg [a, b, c, d] seen i = (decide (0 < tg seen i) && decide (tg seen i ≠ tg [a, b, c, d] i)) := rfl
    rw [cntN_succ, hc] at ih
    have hle := @cntN_le (chg [a, b, c, d] seen) i
    generalize cntN (chg [a, b, c, d] seen) i = n at ih hle ⊢
    generalize tg seen i = x at hsi ih
    generalize tg [a, b, c, d] i = y at hg ih
    clear hc
    simp -implicitDefEqProofs (maxSteps := 2000000) (disch := omega) only [go_sem, reduceCtorEq, Nat.reduceAdd, Nat.reduceSub, Nat.reduceMul, Nat.reduceLT, Nat.reduceLeDiff, Nat.reduceEqDiff, Nat.reduceBEq, Int.reduceToNat, Int.reduceLT, Int.reduceLE, Int.reduceEq, Int.reduceNeg, Int.reduceAdd, Int.reduceSub, Int.reduceMul, ↓reduceIte, Int.reduceBEq, Int.reduceBNe, hg, hsi]
    refine ⟨fun r1 => ⟨fun r2 => ?_, fun r2 => ?_⟩, fun r1 => ?_⟩
    · refine (ih trivial j).castS rfl (by simp [upd, ins, subF, lookA, r1, r2])
    · refine (ih trivial j).castS rfl (by simp [upd, ins, subF, lookA, r1, r2])
    · refine (ih trivial j).castS rfl (by simp [upd, ins, subF, lookA, r1])
  · intro j _
    simp -implicitDefEqProofs (maxSteps := 2000000) (disch := omega) only [go_sem, reduceCtorEq, Nat.reduceAdd, Nat.reduceSub, Nat.reduceMul, Nat.reduceLT, Nat.reduceLeDiff, Nat.reduceEqDiff, Nat.reduceBEq, Int.reduceToNat, Int.reduceLT, Int.reduceLE, Int.reduceEq, Int.reduceNeg, Int.reduceAdd, Int.reduceSub, Int.reduceMul, ↓reduceIte, Int.reduceBEq, Int.reduceBNe]
def changed_s := spw2 tyLk.w tyIs.w fun l seen => if seen.length ≤ 4 then match l with | [a, b, c, d] => some (.int .i64 (changedN [a, b, c, d] seen)) | _ => none else none
theorem changed_ok : ∀ xs v, changed_s xs = some v → PureV Tryd.prog 51 xs v := by
  refine spw2_ok fun l seen v h => ?_
  split at h
  · rename_i h1
    split at h
    · simp at h; subst h
      exact changed_p _ _ _ _ seen h1
    · cases h
  · cases h
def fs7 (f : FuncId) (xs : List AV) : Option AV := if f = 87 then reads_s xs else if f = 92 then lookOf_s xs else if f = 51 then changed_s xs else fs6 f xs
theorem fs7_ok : ∀ f xs v, fs7 f xs = some v → PureV Tryd.prog f xs v := by
  intro f xs v h
  unfold fs7 at h
  split at h
  · rename_i e; subst e; exact reads_ok _ _ h
  split at h
  · rename_i e; subst e; exact lookOf_ok _ _ h
  split at h
  · rename_i e; subst e; exact changed_ok _ _ h
  exact fs6_ok _ _ _ h
attribute [go_sem] fs7 reads_s lookOf_s changed_s
/-- A catalogue that is valid. -/
structure OkM (f : Int) (m : Model) : Prop where
  first : 1800 ≤ m.first ∧ m.first ≤ 1999
  looks : 1 ≤ m.looks.length ∧ m.looks.length ≤ 4
  nums : m.nums.length = m.looks.length
  look : ∀ l ∈ m.looks, (l.length : Int) = f ∧ ∀ x ∈ l, 1 ≤ x ∧ x ≤ 3
  num : ∀ x ∈ m.nums, 0 ≤ x.lo ∧ x.lo ≤ x.hi ∧ x.hi ≤ 9999
structure OkC (c : Cat) : Prop where
  features : 1 ≤ c.features ∧ c.features ≤ 4
  models : 1 ≤ c.models.length ∧ c.models.length ≤ 4
  model : ∀ m ∈ c.models, OkM c.features m
theorem firstE_all {α : Type} {f : α → Int} : ∀ {l : List α}, firstE f l = 0 → ∀ x ∈ l, f x = 0
  | [], _, x, h => by simp at h
  | y :: l, e, x, h => by
    simp only [firstE] at e
    split at e
    · rename_i hy
      rcases List.mem_cons.1 h with rfl | h
      · exact hy
      · exact firstE_all e x h
    · rename_i hy; exact absurd e hy
theorem firstE_of {α : Type} {f : α → Int} : ∀ {l : List α}, (∀ x ∈ l, f x = 0) → firstE f l = 0
  | [], _ => rfl
  | y :: l, h => by
    simp only [firstE, h y (by simp), if_true]
    exact firstE_of fun x hx => h x (by simp [hx])
theorem countE_zero {n lo hi : Int} : countE n lo hi = 0 ↔ lo ≤ n ∧ n ≤ hi := by unfold countE; grind
theorem ckVals_zero {l : List Int} {f least : Int} : ckVals l f least = 0 ↔ (l.length : Int) = f ∧ ∀ x ∈ l, least ≤ x ∧ x ≤ 3 := by
  unfold ckVals
  constructor
  · intro h
    split at h
    · rename_i hn; exact absurd h hn
    · rename_i hn
      have h1 := countE_zero.1 (by simpa using hn)
      refine ⟨by omega, fun x hx => ?_⟩
      have := firstE_all h x hx
      unfold ckVal at this; grind
  · rintro ⟨h1, h2⟩
    have h3 : countE (l.length : Int) f f = 0 := countE_zero.2 (by omega)
    rw [h3, if_neg (by simp)]
    exact firstE_of fun x hx => by have := h2 x hx; unfold ckVal; rw [if_pos this]
theorem okM_of_ck {f : Int} {m : Model} (h : ckModel f m = 0) : OkM f m := by
  unfold ckModel at h
  split at h
  · cases h
  split at h
  · rename_i hn; exact absurd h hn
  split at h
  · rename_i hn; exact absurd h hn
  split at h
  · rename_i hn; exact absurd h hn
  rename_i h1 h2 h3 h4
  have h2 := countE_zero.1 (by simpa using h2)
  have h3 := countE_zero.1 (by simpa using h3)
  refine ⟨by simpa using h1, by omega, by omega, fun l hl => ?_, fun x hx => ?_⟩
  · have := firstE_all (f := fun l => ckVals l f 1) (by simpa using h4) l hl
    exact ckVals_zero.1 this
  · have := firstE_all h x hx
    unfold ckNum at this; grind
theorem okC_of_ck {c : Cat} (h : ckCat c = 0) : OkC c := by
  unfold ckCat at h
  split at h
  · cases h
  split at h
  · rename_i hn; exact absurd h hn
  rename_i h1 h2
  have h2 := countE_zero.1 (by simpa using h2)
  exact ⟨by simpa using h1, by omega, fun m hm => okM_of_ck (firstE_all h m hm)⟩
end Go.Proofs
