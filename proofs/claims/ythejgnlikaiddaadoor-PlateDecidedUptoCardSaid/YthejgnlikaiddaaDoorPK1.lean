/- Texts of a proof: lemmas. -/
import Derived.Test.YthejgnlikaiddaaDoorPJ
import Derived.Laws.Bits64
import Derived.Laws.BitsLemmas
set_option linter.unusedSimpArgs false
set_option linter.unusedVariables false
set_option maxRecDepth 100000
namespace Go.Proofs
open Go Go.Mu

/-- The bits of a number that are so. -/
def bitsOf (p : Nat → Bool) : Nat → Nat
  | 0 => 0
  | n + 1 => bitsOf p n + if p n then 2 ^ n else 0
theorem bitsOf_lt (p : Nat → Bool) : ∀ n, bitsOf p n < 2 ^ n
  | 0 => by simp [bitsOf]
  | n + 1 => by
    have := bitsOf_lt p n
    simp only [bitsOf, Nat.pow_succ]
    split <;> omega
theorem bitsOf_test (p : Nat → Bool) : ∀ n i, (bitsOf p n).testBit i = (decide (i < n) && p i)
  | 0, i => by simp [bitsOf]
  | n + 1, i => by
    have hl := bitsOf_lt p n
    have ih := bitsOf_test p n i
    simp only [bitsOf]
    by_cases hp : p n
    · rw [if_pos hp, Nat.add_comm]
      rcases (by omega : i < n ∨ i = n ∨ n < i) with h | h | h
      · rw [Nat.testBit_two_pow_add_gt h, ih]; simp [h, Nat.lt_succ_of_lt h]
      · subst h
        rw [Nat.testBit_two_pow_add_eq, ih]; simp [hp]
      · rw [Nat.testBit_lt_two_pow]
        · simp; omega
        · have : 2 ^ (n + 1) ≤ 2 ^ i := Nat.pow_le_pow_right (by omega) (by omega)
          rw [Nat.pow_succ] at this; omega
    · rw [if_neg hp, Nat.add_zero, ih]
      rcases (by omega : i < n ∨ i = n ∨ n < i) with h | h | h
      · simp [h, Nat.lt_succ_of_lt h]
      · subst h; simp [hp]
      · have h1 : decide (i < n) = false := decide_eq_false (by omega)
        have h2 : decide (i < n + 1) = false := decide_eq_false (by omega)
        rw [h1, h2]
theorem bitsOf_or (p : Nat → Bool) (n : Nat) : bitsOf p n ||| 2 ^ n = bitsOf p n + 2 ^ n := by
  have := Nat.two_pow_add_eq_or_of_lt (bitsOf_lt p n) 1
  rw [Nat.mul_one] at this
  rw [Nat.or_comm, ← this, Nat.add_comm]
/-- How many bits a number has. -/
def popN (m : Nat) : Nat := if h : m = 0 then 0 else m % 2 + popN (m / 2)
termination_by m
decreasing_by omega
theorem popN_zero : popN 0 = 0 := by rw [popN]; rfl
theorem popN_step (m : Nat) : popN m = m % 2 + popN (m / 2) := by
  by_cases h : m = 0
  · subst h; rw [popN_zero]
  · rw [popN, dif_neg h]
theorem popN_add : ∀ (n m : Nat), m < 2 ^ n → popN (m + 2 ^ n) = popN m + 1
  | 0, m, h => by
    have : m = 0 := by simpa using h
    subst this
    rw [popN_step]
    have e1 : (0 + 2 ^ 0) / 2 = 0 := rfl
    have e2 : (0 + 2 ^ 0) % 2 = 1 := rfl
    rw [e1, e2, popN_zero]
  | n + 1, m, h => by
    rw [Nat.pow_succ] at h ⊢
    rw [popN_step, popN_step m]
    have e1 : (m + 2 ^ n * 2) % 2 = m % 2 := by omega
    have e2 : (m + 2 ^ n * 2) / 2 = m / 2 + 2 ^ n := by omega
    rw [e1, e2, popN_add n (m / 2) (by omega)]; omega
theorem popN_bits (p : Nat → Bool) : ∀ n, popN (bitsOf p n) = cntN p n
  | 0 => by simp [bitsOf, popN_zero, cntN]
  | n + 1 => by
    rw [cntN_succ]
    simp only [bitsOf]
    by_cases hp : p n
    · rw [if_pos hp, if_pos hp, popN_add n _ (bitsOf_lt p n), popN_bits p n]
    · rw [if_neg hp, if_neg hp, Nat.add_zero, Nat.add_zero, popN_bits p n]
/-- What OnesCount64 reckons. -/
def popF (x : Nat) : Nat :=
  let a := ((x / 2 &&& 6148914691236517205) + (x &&& 6148914691236517205)) % 18446744073709551616
  let b := ((a / 4 &&& 3689348814741910323) + (a &&& 3689348814741910323)) % 18446744073709551616
  let c := (b / 16 + b) % 18446744073709551616 &&& 1085102592571150095
  let d := (c + c / 256) % 18446744073709551616
  let e := (d + d / 65536) % 18446744073709551616
  let g := (e + e / 4294967296) % 18446744073709551616
  g &&& 127
def allB (f : Nat → Bool) : Nat → Nat → Bool
  | 0, b => f b
  | k + 1, b => allB f k (2 * b) && allB f k (2 * b + 1)
theorem allB_all {f : Nat → Bool} : ∀ {k b : Nat}, allB f k b = true → ∀ i, i < 2 ^ k → f (b * 2 ^ k + i) = true
  | 0, b, h, i, hi => by
    have : i = 0 := by simpa using hi
    subst this
    rw [Nat.pow_zero, Nat.mul_one, Nat.add_zero]; exact h
  | k + 1, b, h, i, hi => by
    simp only [allB, Bool.and_eq_true] at h
    rw [Nat.pow_succ] at hi ⊢
    by_cases hl : i < 2 ^ k
    · have := allB_all h.1 i hl
      rwa [show 2 * b * 2 ^ k = b * (2 ^ k * 2) by rw [Nat.mul_comm 2 b, Nat.mul_assoc, Nat.mul_comm 2]] at this
    · have := allB_all h.2 (i - 2 ^ k) (by omega)
      have e : (2 * b + 1) * 2 ^ k + (i - 2 ^ k) = b * (2 ^ k * 2) + i := by
        rw [Nat.add_mul, Nat.mul_comm 2 b, Nat.mul_assoc, Nat.mul_comm 2, Nat.one_mul]; omega
      rwa [e] at this
set_option maxRecDepth 1000000 in
theorem popF_chk : allB (fun x => Nat.beq (popF x) (x % 2 + popF (x / 2))) 16 0 = true := by kernel_rfl
theorem popF_eq : ∀ x, x < 65536 → popF x = popN x := by
  intro x
  induction x using Nat.strongRecOn with
  | _ x ih =>
    intro hx
    by_cases h0 : x = 0
    · subst h0; rw [popN_zero]; rfl
    · have h1 := allB_all popF_chk x (by omega)
      rw [Nat.zero_mul, Nat.zero_add] at h1
      have h2 := Nat.eq_of_beq_eq_true h1
      rw [h2, popN_step x, ih (x / 2) (by omega) (by omega)]
theorem ofInt_nat (a : Nat) : BitVec.ofInt 64 (a : Int) = BitVec.ofNat 64 a := by simp
theorem and_nat (a M : Nat) (hM : M < 2 ^ 64) : (BitVec.ofNat 64 a &&& BitVec.ofNat 64 M).toNat = a &&& M := by
  rw [BitVec.toNat_and, BitVec.toNat_ofNat, BitVec.toNat_ofNat]
  apply Nat.eq_of_testBit_eq
  intro i
  simp only [Nat.testBit_and, Nat.testBit_mod_two_pow]
  by_cases h : i < 64
  · simp [h]
  · have : M.testBit i = false := Nat.testBit_lt_two_pow (Nat.lt_of_lt_of_le hM (Nat.pow_le_pow_right (by omega) (by omega)))
    simp [this]
theorem shr_nat (a : Nat) (k : Nat) : ((a : Nat) : Int).fdiv (2 ^ k) = ((a / 2 ^ k : Nat) : Int) := by
  rw [Int.fdiv_eq_ediv_of_nonneg _ (Int.le_of_lt (Int.pow_pos (by omega)))]
  push_cast; rfl
theorem i64_ofInt (z : Int) : BitVec.ofInt 64 (IntKind.i64.wrap z) = BitVec.ofInt 64 z := by
  apply BitVec.eq_of_toNat_eq
  rw [BitVec.toNat_ofInt, BitVec.toNat_ofInt, IntKind.wrap_i64]
  have : (2 ^ 64 : Int) = 18446744073709551616 := by decide
  simp only [Nat.reducePow, Int.cast_ofNat_Int]
  omega
theorem i64_and (g : Nat) : IntKind.i64.wrap (((BitVec.ofInt 64 (IntKind.i64.wrap (g : Int)) &&& BitVec.ofInt 64 127).toNat : Nat) : Int) = ((g &&& 127 : Nat) : Int) := by
  have e : BitVec.ofInt 64 127 = BitVec.ofNat 64 127 := rfl
  rw [i64_ofInt, ofInt_nat, e, and_nat g 127 (by decide), IntKind.wrap_i64]
  have : g &&& 127 ≤ 127 := Nat.and_le_right
  omega
theorem u64_nat (a : Nat) : IntKind.u64.wrap ((a : Nat) : Int) = ((a % 18446744073709551616 : Nat) : Int) := by rw [IntKind.wrap_u64]; omega
theorem u64_add (a b : Nat) : IntKind.u64.wrap ((a : Int) + (b : Int)) = (((a + b) % 18446744073709551616 : Nat) : Int) := by rw [IntKind.wrap_u64]; omega
theorem u64_and (a M : Nat) (hM : M < 2 ^ 64) : IntKind.u64.wrap (((BitVec.ofInt 64 (a : Int) &&& BitVec.ofInt 64 (M : Int)).toNat : Nat) : Int) = ((a &&& M : Nat) : Int) := by
  rw [ofInt_nat, ofInt_nat, and_nat a M hM, u64_nat, Nat.mod_eq_of_lt]
  exact Nat.lt_of_le_of_lt Nat.and_le_right hM
end Go.Proofs
set_option linter.unusedSimpArgs false
set_option linter.unusedVariables false
set_option maxRecDepth 100000
namespace Go.Proofs
open Go Go.Mu

theorem pop_m0 (a : Nat) : IntKind.u64.wrap ((BitVec.toNat (w := 64) (@HAnd.hAnd (BitVec 64) (BitVec 64) (BitVec 64) (@instHAndOfAndOp (BitVec IntKind.u64.bits) (@BitVec.instAndOp IntKind.u64.bits)) (BitVec.ofInt 64 (a : Int)) (BitVec.ofInt 64 6148914691236517205)) : Nat) : Int) = ((a &&& 6148914691236517205 : Nat) : Int) := u64_and a 6148914691236517205 (by decide)
theorem pop_m1 (a : Nat) : IntKind.u64.wrap ((BitVec.toNat (w := 64) (@HAnd.hAnd (BitVec 64) (BitVec 64) (BitVec 64) (@instHAndOfAndOp (BitVec IntKind.u64.bits) (@BitVec.instAndOp IntKind.u64.bits)) (BitVec.ofInt 64 (a : Int)) (BitVec.ofInt 64 3689348814741910323)) : Nat) : Int) = ((a &&& 3689348814741910323 : Nat) : Int) := u64_and a 3689348814741910323 (by decide)
theorem pop_m2 (a : Nat) : IntKind.u64.wrap ((BitVec.toNat (w := 64) (@HAnd.hAnd (BitVec 64) (BitVec 64) (BitVec 64) (@instHAndOfAndOp (BitVec IntKind.u64.bits) (@BitVec.instAndOp IntKind.u64.bits)) (BitVec.ofInt 64 (a : Int)) (BitVec.ofInt 64 1085102592571150095)) : Nat) : Int) = ((a &&& 1085102592571150095 : Nat) : Int) := u64_and a 1085102592571150095 (by decide)
theorem pop_i (g : Nat) : IntKind.i64.wrap ((BitVec.toNat (w := 64) (@HAnd.hAnd (BitVec 64) (BitVec 64) (BitVec 64) (@instHAndOfAndOp (BitVec IntKind.i64.bits) (@BitVec.instAndOp IntKind.i64.bits)) (BitVec.ofInt 64 (IntKind.i64.wrap (g : Int))) (BitVec.ofInt 64 127)) : Nat) : Int) = ((g &&& 127 : Nat) : Int) := i64_and g
theorem OnesCount64_p (x : Nat) (hx : x < 65536) : PureV Tryd.prog 94 [.int .u64 x] (.int .i64 (popN x)) := by
  refine PureV.of_ev (E := Tryd.E 35 (fun _ => ([], [])) fs0) (Tryd.envOK 35 (fun _ => ([], [])) fs0 fs0_ok) (.int) Tryd.kp94 Tryd.func94 rfl (by kernel_rfl) (by simp [Tryd.E]) (Callable.of Tryd.func94 (by kernel_rfl) (by kernel_rfl)) (by kernel_rfl) ?_
  intro σ
  rw [← popF_eq x hx]
  have s1 : ∀ a : Nat, ((a : Nat) : Int).fdiv (2 ^ min 1 64) = ((a / 2 : Nat) : Int) := fun a => shr_nat a 1
  have s2 : ∀ a : Nat, ((a : Nat) : Int).fdiv (2 ^ min 2 64) = ((a / 4 : Nat) : Int) := fun a => shr_nat a 2
  have s4 : ∀ a : Nat, ((a : Nat) : Int).fdiv (2 ^ min 4 64) = ((a / 16 : Nat) : Int) := fun a => shr_nat a 4
  have s8 : ∀ a : Nat, ((a : Nat) : Int).fdiv (2 ^ min 8 64) = ((a / 256 : Nat) : Int) := fun a => shr_nat a 8
  have s16 : ∀ a : Nat, ((a : Nat) : Int).fdiv (2 ^ min 16 64) = ((a / 65536 : Nat) : Int) := fun a => shr_nat a 16
  have s32 : ∀ a : Nat, ((a : Nat) : Int).fdiv (2 ^ min 32 64) = ((a / 4294967296 : Nat) : Int) := fun a => shr_nat a 32
  simp -implicitDefEqProofs (maxSteps := 2000000) (disch := omega) only [go_sem, reduceCtorEq, Nat.reduceAdd, Nat.reduceSub, Nat.reduceMul, Nat.reduceLT, Nat.reduceLeDiff, Nat.reduceEqDiff, Nat.reduceBEq, Int.reduceToNat, Int.reduceLT, Int.reduceLE, Int.reduceEq, Int.reduceNeg, Int.reduceAdd, Int.reduceSub, Int.reduceMul, ↓reduceIte, Int.reduceBEq, Int.reduceBNe, s1, s2, s4, s8, s16, s32, pop_m0, pop_m1, pop_m2, u64_add, pop_i]
  simp only [popF]
def popS : List AV → Option AV
  | [.int .u64 z] => if 0 ≤ z ∧ z < 65536 then some (.int .i64 (popN z.toNat)) else none
  | _ => none
theorem popS_inv {xs : List AV} {v : AV} (h : popS xs = some v) : ∃ x : Nat, x < 65536 ∧ xs = [.int .u64 x] ∧ v = .int .i64 (popN x) := by
  unfold popS at h
  split at h
  · rename_i z
    have h := someIf h
    refine ⟨z.toNat, by omega, ?_, h.2.symm⟩
    rw [Int.toNat_of_nonneg h.1.1]
  · cases h
def oc64_s := popS
theorem oc64_ok : ∀ xs v, oc64_s xs = some v → PureV Tryd.prog 94 xs v := fun xs v h => by
  obtain ⟨x, h1, rfl, rfl⟩ := popS_inv h
  exact OnesCount64_p x h1
def fs13 (f : FuncId) (xs : List AV) : Option AV := if f = 94 then oc64_s xs else fs12 f xs
theorem fs13_ok : ∀ f xs v, fs13 f xs = some v → PureV Tryd.prog f xs v := by
  intro f xs v h
  unfold fs13 at h
  split at h
  · rename_i e; subst e; exact oc64_ok _ _ h
  exact fs12_ok _ _ _ h
attribute [go_sem] fs13 oc64_s
attribute [go_sem] popS Int.toNat_natCast
theorem OnesCount_p (x : Nat) (hx : x < 65536) : PureV Tryd.prog 82 [.int .u64 x] (.int .i64 (popN x)) := by
  refine PureV.of_ev (E := Tryd.E 8 (fun _ => ([], [])) fs13) (Tryd.envOK 8 (fun _ => ([], [])) fs13 fs13_ok) (.int) Tryd.kp82 Tryd.func82 rfl (by kernel_rfl) (by simp [Tryd.E]) (Callable.of Tryd.func82 (by kernel_rfl) (by kernel_rfl)) (by kernel_rfl) ?_
  intro σ
  simp -implicitDefEqProofs (maxSteps := 2000000) (disch := omega) only [go_sem, reduceCtorEq, Nat.reduceAdd, Nat.reduceSub, Nat.reduceMul, Nat.reduceLT, Nat.reduceLeDiff, Nat.reduceEqDiff, Nat.reduceBEq, Int.reduceToNat, Int.reduceLT, Int.reduceLE, Int.reduceEq, Int.reduceNeg, Int.reduceAdd, Int.reduceSub, Int.reduceMul, ↓reduceIte, Int.reduceBEq, Int.reduceBNe]
def oc_s := popS
theorem oc_ok : ∀ xs v, oc_s xs = some v → PureV Tryd.prog 82 xs v := fun xs v h => by
  obtain ⟨x, h1, rfl, rfl⟩ := popS_inv h
  exact OnesCount_p x h1
def fs14 (f : FuncId) (xs : List AV) : Option AV := if f = 82 then oc_s xs else fs13 f xs
theorem fs14_ok : ∀ f xs v, fs14 f xs = some v → PureV Tryd.prog f xs v := by
  intro f xs v h
  unfold fs14 at h
  split at h
  · rename_i e; subst e; exact oc_ok _ _ h
  exact fs13_ok _ _ _ h
attribute [go_sem] fs14 oc_s
theorem many_p (x : Nat) (hx : x < 65536) : PureV Tryd.prog 61 [.int .u64 x] (.int .i64 (popN x)) := by
  refine PureV.of_ev (E := Tryd.E 5 (fun _ => ([], [])) fs14) (Tryd.envOK 5 (fun _ => ([], [])) fs14 fs14_ok) (.int) Tryd.kp61 Tryd.func61 rfl (by kernel_rfl) (by simp [Tryd.E]) (Callable.of Tryd.func61 (by kernel_rfl) (by kernel_rfl)) (by kernel_rfl) ?_
  intro σ
  simp -implicitDefEqProofs (maxSteps := 2000000) (disch := omega) only [go_sem, reduceCtorEq, Nat.reduceAdd, Nat.reduceSub, Nat.reduceMul, Nat.reduceLT, Nat.reduceLeDiff, Nat.reduceEqDiff, Nat.reduceBEq, Int.reduceToNat, Int.reduceLT, Int.reduceLE, Int.reduceEq, Int.reduceNeg, Int.reduceAdd, Int.reduceSub, Int.reduceMul, ↓reduceIte, Int.reduceBEq, Int.reduceBNe]
def many_s := popS
theorem many_ok : ∀ xs v, many_s xs = some v → PureV Tryd.prog 61 xs v := fun xs v h => by
  obtain ⟨x, h1, rfl, rfl⟩ := popS_inv h
  exact many_p x h1
theorem has_bit (x n : Nat) : (((x / 2 ^ n &&& 1 : Nat) : Int) = 1) = (x.testBit n = true) := by
  have h1 : x.testBit n = (x / 2 ^ n % 2 == 1) := by rw [Nat.testBit_eq_decide_div_mod_eq]; rfl
  rw [h1, Nat.and_one_is_mod, beq_iff_eq]
  apply propext; omega
theorem has_p (x n : Nat) (hx : x < 65536) (hn : n < 64) : PureV Tryd.prog 73 [.int .u64 x, .int .i64 n] (.bool (x.testBit n)) := by
  refine PureV.of_ev (E := Tryd.E 10 (fun _ => ([], [])) fs0) (Tryd.envOK 10 (fun _ => ([], [])) fs0 fs0_ok) (.bool) Tryd.kp73 Tryd.func73 rfl (by kernel_rfl) (by simp [Tryd.E]) (Callable.of Tryd.func73 (by kernel_rfl) (by kernel_rfl)) (by kernel_rfl) ?_
  intro σ
  simp -implicitDefEqProofs (maxSteps := 2000000) (disch := omega) only [go_sem, reduceCtorEq, Nat.reduceAdd, Nat.reduceSub, Nat.reduceMul, Nat.reduceLT, Nat.reduceLeDiff, Nat.reduceEqDiff, Nat.reduceBEq, Int.reduceToNat, Int.reduceLT, Int.reduceLE, Int.reduceEq, Int.reduceNeg, Int.reduceAdd, Int.reduceSub, Int.reduceMul, ↓reduceIte, Int.reduceBEq, Int.reduceBNe]
  have e1 : min n 64 = n := by omega
  have e2 := u64_and (x / 2 ^ n) 1 (by decide)
  have e3 : ((x : Nat) : Int).fdiv (2 ^ min n 64) = ((x / 2 ^ n : Nat) : Int) := by rw [e1]; exact shr_nat x n
  have e4 : IntKind.u64.wrap (((BitVec.ofInt 64 (((x : Nat) : Int).fdiv (2 ^ min n 64)) &&& BitVec.ofInt 64 1).toNat : Nat) : Int) = ((x / 2 ^ n &&& 1 : Nat) : Int) := by rw [e3]; exact e2
  have e5 := has_bit x n
  refine ⟨fun h => ?_, fun h => ?_⟩
  · have h2 : ((x / 2 ^ n &&& 1 : Nat) : Int) = 1 := e4.symm.trans h
    rw [e5] at h2; exact h2.symm
  · have h2 : ¬ ((x / 2 ^ n &&& 1 : Nat) : Int) = 1 := fun e => h (e4.trans e)
    rw [e5] at h2; exact (Bool.eq_false_iff.2 h2).symm
theorem with_p (x n : Nat) (hx : x < 65536) (hn : n < 16) : PureV Tryd.prog 74 [.int .u64 x, .int .i64 n] (.int .u64 ((x ||| 2 ^ n : Nat) : Int)) := by
  refine PureV.of_ev (E := Tryd.E 9 (fun _ => ([], [])) fs0) (Tryd.envOK 9 (fun _ => ([], [])) fs0 fs0_ok) (.int) Tryd.kp74 Tryd.func74 rfl (by kernel_rfl) (by simp [Tryd.E]) (Callable.of Tryd.func74 (by kernel_rfl) (by kernel_rfl)) (by kernel_rfl) ?_
  intro σ
  simp -implicitDefEqProofs (maxSteps := 2000000) (disch := omega) only [go_sem, reduceCtorEq, Nat.reduceAdd, Nat.reduceSub, Nat.reduceMul, Nat.reduceLT, Nat.reduceLeDiff, Nat.reduceEqDiff, Nat.reduceBEq, Int.reduceToNat, Int.reduceLT, Int.reduceLE, Int.reduceEq, Int.reduceNeg, Int.reduceAdd, Int.reduceSub, Int.reduceMul, ↓reduceIte, Int.reduceBEq, Int.reduceBNe]
  have e1 : min n 64 = n := by omega
  have hp : (2 : Nat) ^ n ≤ 2 ^ 15 := Nat.pow_le_pow_right (by omega) (by omega)
  have e2 : IntKind.u64.wrap (1 * 2 ^ min n 64) = ((2 ^ n : Nat) : Int) := by
    rw [e1, Int.one_mul]
    have : ((2 : Int) ^ n) = ((2 ^ n : Nat) : Int) := by push_cast; rfl
    rw [this, u64_nat, Nat.mod_eq_of_lt (by omega)]
  have e3 : IntKind.u64.wrap (((BitVec.ofInt 64 (x : Int) ||| BitVec.ofInt 64 ((2 ^ n : Nat) : Int)).toNat : Nat) : Int) = ((x ||| 2 ^ n : Nat) : Int) := by
    rw [ofInt_nat, ofInt_nat, BitVec.toNat_or, BitVec.toNat_ofNat, BitVec.toNat_ofNat, Nat.mod_eq_of_lt (by omega), Nat.mod_eq_of_lt (by omega), u64_nat, Nat.mod_eq_of_lt]
    have : x ||| 2 ^ n < 2 ^ 16 := Nat.or_lt_two_pow (by omega) (by omega)
    omega
  rw [e2]; exact e3
def has_s : List AV → Option AV
  | [.int .u64 z, .int .i64 n] => if (0 ≤ z ∧ z < 65536) ∧ 0 ≤ n ∧ n < 64 then some (.bool (z.toNat.testBit n.toNat)) else none
  | _ => none
theorem has_ok : ∀ xs v, has_s xs = some v → PureV Tryd.prog 73 xs v := fun xs v h => by
  unfold has_s at h
  split at h
  · rename_i z n
    have h := someIf h
    rw [← h.2, ← Int.toNat_of_nonneg h.1.1.1, ← Int.toNat_of_nonneg h.1.2.1]
    simp only [Int.toNat_natCast]
    exact has_p _ _ (by omega) (by omega)
  · cases h
def with_s : List AV → Option AV
  | [.int .u64 z, .int .i64 n] => if (0 ≤ z ∧ z < 65536) ∧ 0 ≤ n ∧ n < 16 then some (.int .u64 ((z.toNat ||| 2 ^ n.toNat : Nat) : Int)) else none
  | _ => none
theorem with_ok : ∀ xs v, with_s xs = some v → PureV Tryd.prog 74 xs v := fun xs v h => by
  unfold with_s at h
  split at h
  · rename_i z n
    have h := someIf h
    rw [← h.2, ← Int.toNat_of_nonneg h.1.1.1, ← Int.toNat_of_nonneg h.1.2.1]
    simp only [Int.toNat_natCast]
    exact with_p _ _ (by omega) (by omega)
  · cases h
theorem whole_p (l : List Made) (hl : l.length ≤ 16) : PureV Tryd.prog 60 [.list .no 8 (l.map Made.av)] (.int .u64 ((2 ^ l.length - 1 : Nat) : Int)) := by
  refine PureV.of_ev (E := Tryd.E 7 (fun _ => ([], [])) fs0) (Tryd.envOK 7 (fun _ => ([], [])) fs0 fs0_ok) (.int) Tryd.kp60 Tryd.func60 rfl (by kernel_rfl) (by simp [Tryd.E]) (Callable.of Tryd.func60 (by kernel_rfl) (by kernel_rfl)) (by kernel_rfl) ?_
  intro σ
  simp -implicitDefEqProofs (maxSteps := 2000000) (disch := omega) only [go_sem, reduceCtorEq, Nat.reduceAdd, Nat.reduceSub, Nat.reduceMul, Nat.reduceLT, Nat.reduceLeDiff, Nat.reduceEqDiff, Nat.reduceBEq, Int.reduceToNat, Int.reduceLT, Int.reduceLE, Int.reduceEq, Int.reduceNeg, Int.reduceAdd, Int.reduceSub, Int.reduceMul, ↓reduceIte, Int.reduceBEq, Int.reduceBNe]
  generalize l.length = n at hl ⊢
  have e1 : min n 64 = n := by omega
  have hp : (2 : Nat) ^ n ≤ 2 ^ 16 := Nat.pow_le_pow_right (by omega) hl
  have hq : 1 ≤ (2 : Nat) ^ n := Nat.one_le_two_pow
  have e2 : IntKind.u64.wrap (1 * 2 ^ min n 64) = ((2 ^ n : Nat) : Int) := by
    rw [e1, Int.one_mul]
    have : ((2 : Int) ^ n) = ((2 ^ n : Nat) : Int) := by push_cast; rfl
    rw [this, u64_nat, Nat.mod_eq_of_lt (by omega)]
  rw [e2, IntKind.wrap_u64]; omega
def whole_s := spw1 tyMades.w fun l => if l.length ≤ 16 then some (.int .u64 ((2 ^ l.length - 1 : Nat) : Int)) else none
theorem whole_ok : ∀ xs v, whole_s xs = some v → PureV Tryd.prog 60 xs v :=
  spw1_ok fun l v h => by have h := someIf h; rw [← h.2]; exact whole_p l h.1
def fs15 (f : FuncId) (xs : List AV) : Option AV := if f = 61 then many_s xs else if f = 73 then has_s xs else if f = 74 then with_s xs else if f = 60 then whole_s xs else fs14 f xs
theorem fs15_ok : ∀ f xs v, fs15 f xs = some v → PureV Tryd.prog f xs v := by
  intro f xs v h
  unfold fs15 at h
  split at h
  · rename_i e; subst e; exact many_ok _ _ h
  split at h
  · rename_i e; subst e; exact has_ok _ _ h
  split at h
  · rename_i e; subst e; exact with_ok _ _ h
  split at h
  · rename_i e; subst e; exact whole_ok _ _ h
  exact fs14_ok _ _ _ h
attribute [go_sem] fs15 many_s has_s with_s whole_s
/-- The lost features. -/
def lostL (seen : List Int) : List Int := ((List.range seen.length).filter fun (f : Nat) => decide (tg seen f = 0)).map fun (f : Nat) => (f : Int)
theorem lost_p (o : Old) (hs : o.seen.length ≤ 4294967296) : PureV Tryd.prog 56 [o.av] (isv (lostL o.seen)) := by
  refine PureV.of_ev (E := Tryd.E 22 (fun _ => ([], [])) fs0) (Tryd.envOK 22 (fun _ => ([], [])) fs0 fs0_ok) (isv_plain _) Tryd.kp56 Tryd.func56 rfl (by kernel_rfl) (by simp [Tryd.E]) (Callable.of Tryd.func56 (by kernel_rfl) (by kernel_rfl)) (by kernel_rfl) ?_
  intro σ
  simp only [Old.av]
  generalize hS : o.seen = S at hs
  have hv : isv S = .list .no 1 (S.map (.int .i64)) := rfl
  rw [hv]
  simp -implicitDefEqProofs (maxSteps := 2000000) (disch := omega) only [go_sem, reduceCtorEq, Nat.reduceAdd, Nat.reduceSub, Nat.reduceMul, Nat.reduceLT, Nat.reduceLeDiff, Nat.reduceEqDiff, Nat.reduceBEq, Int.reduceToNat, Int.reduceLT, Int.reduceLE, Int.reduceEq, Int.reduceNeg, Int.reduceAdd, Int.reduceSub, Int.reduceMul, ↓reduceIte, Int.reduceBEq, Int.reduceBNe]
  refine ARun.ghost 3 1 (sz0 := 0) rfl (by simp [lookA]) ?_
  simp only [ins, ↓reduceIte, List.append_assoc, List.cons_append, List.nil_append, List.length_append, List.length_cons, List.length_nil, Nat.zero_add, Nat.reduceEqDiff]
  let L (i : Nat) : List Int := ((List.range i).filter fun (f : Nat) => decide (tg S f = 0)).map fun (f : Nat) => (f : Int)
  have hLs : ∀ i, L (i + 1) = L i ++ if tg S i = 0 then [(i : Int)] else [] := fun i => by
    simp only [L, List.range_succ, List.filter_append, List.map_append]
    by_cases h : tg S i = 0 <;> simp [h]
  have hLl : ∀ i, (L i).length ≤ i := fun i => by
    simp only [L, List.length_map]; exact Nat.le_trans (List.length_filter_le _ _) (by simp)
  have hL0 : L 0 = [] := rfl
  have hLn : lostL S = L S.length := rfl
  rw [hLn]
  clear_value L
  refine ARun.forS (Tryd.envOK 22 (fun _ => ([], [])) fs0 fs0_ok) S.length (fun _ => True) (fun i => [(3, .list (.own (σ.length + 1)) 1 ((L i).map (.int .i64))), (9, .int .i64 i)]) (fun i j => σ ++ (.cells [.list .no 1 (S.map (.int .i64)), .str o.plate, .int .i64 o.changed] :: .tail (L i).length 1 :: j)) [] (by kernel_rfl) (by simp [hL0]) (by simp [upd, ins, subF, lookA, hL0]) trivial ?_ ?_
  · intro i j hi _ ih
    have hsi : idx (S.map (AV.int .i64)) (i : Int) = some (.int .i64 (tg S i)) := by rw [idx_nat hi, tgE hi]
    rw [hLs] at ih
    have hli := hLl i
    generalize L i = M at ih hli ⊢
    generalize tg S i = x at hsi ih
    by_cases hx : x = 0
    · rw [if_pos hx] at ih
      simp -implicitDefEqProofs (maxSteps := 2000000) (disch := omega) only [go_sem, reduceCtorEq, Nat.reduceAdd, Nat.reduceSub, Nat.reduceMul, Nat.reduceLT, Nat.reduceLeDiff, Nat.reduceEqDiff, Nat.reduceBEq, Int.reduceToNat, Int.reduceLT, Int.reduceLE, Int.reduceEq, Int.reduceNeg, Int.reduceAdd, Int.reduceSub, Int.reduceMul, ↓reduceIte, Int.reduceBEq, Int.reduceBNe, hsi]
      exact (ih trivial j).castS (by simp) (by simp [upd, ins, subF, lookA])
    · rw [if_neg hx] at ih
      simp -implicitDefEqProofs (maxSteps := 2000000) (disch := omega) only [go_sem, reduceCtorEq, Nat.reduceAdd, Nat.reduceSub, Nat.reduceMul, Nat.reduceLT, Nat.reduceLeDiff, Nat.reduceEqDiff, Nat.reduceBEq, Int.reduceToNat, Int.reduceLT, Int.reduceLE, Int.reduceEq, Int.reduceNeg, Int.reduceAdd, Int.reduceSub, Int.reduceMul, ↓reduceIte, Int.reduceBEq, Int.reduceBNe, hsi]
      exact (ih trivial j).castS (by simp) (by simp [upd, ins, subF, lookA])
  · intro j _
    simp -implicitDefEqProofs (maxSteps := 2000000) (disch := omega) only [go_sem, reduceCtorEq, Nat.reduceAdd, Nat.reduceSub, Nat.reduceMul, Nat.reduceLT, Nat.reduceLeDiff, Nat.reduceEqDiff, Nat.reduceBEq, Int.reduceToNat, Int.reduceLT, Int.reduceLE, Int.reduceEq, Int.reduceNeg, Int.reduceAdd, Int.reduceSub, Int.reduceMul, ↓reduceIte, Int.reduceBEq, Int.reduceBNe, isv]
def lost_s := spw1 tyOld.w fun o => if o.seen.length ≤ 4294967296 then some (isv (lostL o.seen)) else none
theorem lost_ok : ∀ xs v, lost_s xs = some v → PureV Tryd.prog 56 xs v :=
  spw1_ok fun l v h => by have h := someIf h; rw [← h.2]; exact lost_p l h.1
def fs16 (f : FuncId) (xs : List AV) : Option AV := if f = 56 then lost_s xs else fs15 f xs
theorem fs16_ok : ∀ f xs v, fs16 f xs = some v → PureV Tryd.prog f xs v := by
  intro f xs v h
  unfold fs16 at h
  split at h
  · rename_i e; subst e; exact lost_ok _ _ h
  exact fs15_ok _ _ _ h
attribute [go_sem] fs16 lost_s
end Go.Proofs
