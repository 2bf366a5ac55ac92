/- Texts of a proof: lemmas. -/
import Derived.Test.YtpodkdondibbfaaRl
import Derived.Test.YtpodkdondibbfaaMu3
set_option linter.unusedSimpArgs false
set_option linter.unusedVariables false
set_option maxRecDepth 100000
namespace Go.Proofs
open Go Go.Mu

def in_s := spec3 tI tI tI fun n lo hi => some (.bool (decide (lo ≤ n ∧ n ≤ hi)))
theorem in_ok : ∀ xs v, in_s xs = some v → PureV Try.prog 54 xs v := by
  refine spec3_ok fun n lo hi v h => ?_
  simp only [Option.some.injEq] at h; subst h
  refine PureV.of_ev (E := Try.E 15 (fun _ => ([], [])) fs0) (Try.envOK 15 (fun _ => ([], [])) fs0 fs0_ok) (.bool) Try.kp54 Try.func54 rfl (by kernel_rfl) (by simp [Try.E]) (Callable.of Try.func54 (by kernel_rfl) (by kernel_rfl)) (by kernel_rfl) ?_
  intro σ
  simp only [tI]
  simp -implicitDefEqProofs (maxSteps := 2000000) (disch := omega) only [go_sem, reduceCtorEq, Nat.reduceAdd, Nat.reduceSub, Nat.reduceMul, Nat.reduceLT, Nat.reduceLeDiff, Nat.reduceEqDiff, Nat.reduceBEq, Int.reduceToNat, Int.reduceLT, Int.reduceLE, Int.reduceEq, Int.reduceNeg, Int.reduceAdd, Int.reduceSub, Int.reduceMul, ↓reduceIte, Int.reduceBEq, Int.reduceBNe]
  refine ⟨fun h1 => ⟨fun h2 => ?_, fun h2 => ?_⟩, fun h1 => ?_⟩ <;> simp [h1, *]

def fs1 (f : FuncId) (xs : List AV) : Option AV := if f = 54 then in_s xs else fs0 f xs
theorem fs1_ok : ∀ f xs v, fs1 f xs = some v → PureV Try.prog f xs v := by
  intro f xs v h
  unfold fs1 at h
  split at h
  · rename_i e; subst e; exact in_ok _ _ h
  exact fs0_ok _ _ _ h
attribute [go_sem] fs1 in_s
set_option maxHeartbeats 1000000 in
theorem ckR_p (r : Rd) (m : Int) (hm : 0 ≤ m) (hm' : m ≤ 4294967296) : PureV Try.prog 29 [r.av, .int .i64 m] (.int .i64 (ckR r m)) := by
  refine PureV.of_ev (E := Try.E 82 (fun _ => ([], [])) fs1) (Try.envOK 82 (fun _ => ([], [])) fs1 fs1_ok) (.int) Try.kp29 Try.func29 rfl (by kernel_rfl) (by simp [Try.E]) (Callable.of Try.func29 (by kernel_rfl) (by kernel_rfl)) (by kernel_rfl) ?_
  intro σ
  obtain ⟨k, a, b, s, x, y⟩ := r
  simp only [Rd.av]
  rcases (by omega : k = 1 ∨ k = 2 ∨ k = 3 ∨ (k < 1 ∨ 3 < k)) with rfl | rfl | rfl | hk
  · simp -implicitDefEqProofs (maxSteps := 2000000) (disch := omega) only [go_sem, reduceCtorEq, Nat.reduceAdd, Nat.reduceSub, Nat.reduceMul, Nat.reduceLT, Nat.reduceLeDiff, Nat.reduceEqDiff, Nat.reduceBEq, Int.reduceToNat, Int.reduceLT, Int.reduceLE, Int.reduceEq, Int.reduceNeg, Int.reduceAdd, Int.reduceSub, Int.reduceMul, ↓reduceIte, Int.reduceBEq, Int.reduceBNe]
    simp only [ckR]; grind
  · simp -implicitDefEqProofs (maxSteps := 2000000) (disch := omega) only [go_sem, reduceCtorEq, Nat.reduceAdd, Nat.reduceSub, Nat.reduceMul, Nat.reduceLT, Nat.reduceLeDiff, Nat.reduceEqDiff, Nat.reduceBEq, Int.reduceToNat, Int.reduceLT, Int.reduceLE, Int.reduceEq, Int.reduceNeg, Int.reduceAdd, Int.reduceSub, Int.reduceMul, ↓reduceIte, Int.reduceBEq, Int.reduceBNe]
    simp only [ckR]; grind
  · simp -implicitDefEqProofs (maxSteps := 2000000) (disch := omega) only [go_sem, reduceCtorEq, Nat.reduceAdd, Nat.reduceSub, Nat.reduceMul, Nat.reduceLT, Nat.reduceLeDiff, Nat.reduceEqDiff, Nat.reduceBEq, Int.reduceToNat, Int.reduceLT, Int.reduceLE, Int.reduceEq, Int.reduceNeg, Int.reduceAdd, Int.reduceSub, Int.reduceMul, ↓reduceIte, Int.reduceBEq, Int.reduceBNe]
    simp only [ckR]; grind
  · simp -implicitDefEqProofs (maxSteps := 2000000) (disch := omega) only [go_sem, reduceCtorEq, Nat.reduceAdd, Nat.reduceSub, Nat.reduceMul, Nat.reduceLT, Nat.reduceLeDiff, Nat.reduceEqDiff, Nat.reduceBEq, Int.reduceToNat, Int.reduceLT, Int.reduceLE, Int.reduceEq, Int.reduceNeg, Int.reduceAdd, Int.reduceSub, Int.reduceMul, ↓reduceIte, Int.reduceBEq, Int.reduceBNe]
    simp only [ckR]; grind
def ckR_s := spec2 tRd tI fun r m => if 0 ≤ m ∧ m ≤ 4294967296 then some (.int .i64 (ckR r m)) else none
theorem ckR_ok : ∀ xs v, ckR_s xs = some v → PureV Try.prog 29 xs v :=
  spec2_ok fun r m v h => by have h := someIf h; rw [← h.2]; exact ckR_p r m h.1.1 h.1.2

theorem apart_p (t : List Int) (a b : Int) (ht : t.length = 3) (hs : small t) (ha : 0 ≤ a ∧ a ≤ 2) (hb : 0 ≤ b ∧ b ≤ 2) : PureV Try.prog 72 [tav t, .int .i64 a, .int .i64 b] (.int .i64 (dist (tg t a) (tg t b))) := by
  refine PureV.of_ev (E := Try.E 22 Try.ord72 fs1) (Try.envOK 22 Try.ord72 fs1 fs1_ok) (.int) Try.kp72 Try.func72 rfl (by kernel_rfl) (by simp [Try.E]) (Callable.of Try.func72 (by kernel_rfl) (by kernel_rfl)) (by kernel_rfl) ?_
  intro σ
  simp only [tav]
  have h1 := small_tg hs a
  have h2 := small_tg hs b
  simp -implicitDefEqProofs (maxSteps := 2000000) (disch := omega) only [go_sem, reduceCtorEq, Nat.reduceAdd, Nat.reduceSub, Nat.reduceMul, Nat.reduceLT, Nat.reduceLeDiff, Nat.reduceEqDiff, Nat.reduceBEq, Int.reduceToNat, Int.reduceLT, Int.reduceLE, Int.reduceEq, Int.reduceNeg, Int.reduceAdd, Int.reduceSub, Int.reduceMul, ↓reduceIte, Int.reduceBEq, Int.reduceBNe]

  simp only [dist]; grind
theorem count_p (r : Rd) (sl : Int) (t : List Int) (ht : t.length = 3) (hs : small t) (ha : 0 ≤ r.a ∧ r.a ≤ 2) (hk : r.kind = 1) (h1 : 0 ≤ r.sec ∧ r.sec ≤ 20) (h2 : 0 ≤ r.shown.lo ∧ r.shown.lo ≤ 100000) (h3 : 0 ≤ r.shown.hi ∧ r.shown.hi ≤ 100000) (h4 : 0 ≤ sl ∧ sl ≤ 3) :
    PureV Try.prog 71 [.agg [.int .i64 r.kind, .int .i64 r.a, .int .i64 r.b, .int .i64 r.sec, .int .i64 r.shown.lo, .int .i64 r.shown.hi, .int .i64 sl], tav t] (.bool (isR r sl t)) := by
  refine PureV.of_ev (E := Try.E 39 Try.ord71 fs1) (Try.envOK 39 Try.ord71 fs1 fs1_ok) (.bool) Try.kp71 Try.func71 rfl (by kernel_rfl) (by simp [Try.E]) (Callable.of Try.func71 (by kernel_rfl) (by kernel_rfl)) (by kernel_rfl) ?_
  intro σ
  simp only [tav]
  have h5 := small_tg hs r.a
  have h6 : 0 ≤ tg t r.a * r.sec ∧ tg t r.a * r.sec ≤ 20000000 := ⟨Int.mul_nonneg h5.1 h1.1, by have := Int.mul_le_mul h5.2 h1.2 h1.1 (by omega); omega⟩
  simp -implicitDefEqProofs (maxSteps := 2000000) (disch := omega) only [go_sem, reduceCtorEq, Nat.reduceAdd, Nat.reduceSub, Nat.reduceMul, Nat.reduceLT, Nat.reduceLeDiff, Nat.reduceEqDiff, Nat.reduceBEq, Int.reduceToNat, Int.reduceLT, Int.reduceLE, Int.reduceEq, Int.reduceNeg, Int.reduceAdd, Int.reduceSub, Int.reduceMul, ↓reduceIte, Int.reduceBEq, Int.reduceBNe]

  simp only [isR, hk]; grind
end Go.Proofs
set_option linter.unusedSimpArgs false
set_option linter.unusedVariables false
set_option maxRecDepth 100000
namespace Go.Proofs
open Go Go.Mu

def fs2 (f : FuncId) (xs : List AV) : Option AV := if f = 29 then ckR_s xs else fs1 f xs
theorem fs2_ok : ∀ f xs v, fs2 f xs = some v → PureV Try.prog f xs v := by
  intro f xs v h
  unfold fs2 at h
  split at h
  · rename_i e; subst e; exact ckR_ok _ _ h
  exact fs1_ok _ _ _ h
attribute [go_sem] fs2 ckR_s
theorem drop_cons {α : Type} {l : List α} {i : Nat} (h : i < l.length) : l.drop i = l[i] :: l.drop (i + 1) := List.drop_eq_getElem_cons h
theorem firstE_drop {α : Type} {f : α → Int} {l : List α} {i : Nat} (h : i < l.length) : firstE f (l.drop i) = if f l[i] = 0 then firstE f (l.drop (i + 1)) else f l[i] := by rw [drop_cons h]; rfl
theorem firstE_end {α : Type} {f : α → Int} {l : List α} : firstE f (l.drop l.length) = 0 := by simp [firstE]

set_option maxHeartbeats 1000000 in
theorem check_p (e : Ear) (h1 : e.tones.length ≤ 4294967296) (h2 : e.rds.length ≤ 4294967296) : PureV Try.prog 28 [e.av] (.int .i64 (ck e)) := by
  refine PureV.of_ev (E := Try.E 73 (fun _ => ([], [])) fs2) (Try.envOK 73 (fun _ => ([], [])) fs2 fs2_ok) (.int) Try.kp28 Try.func28 rfl (by kernel_rfl) (by simp [Try.E]) (Callable.of Try.func28 (by kernel_rfl) (by kernel_rfl)) (by kernel_rfl) ?_
  intro σ
  obtain ⟨s, ts, rs⟩ := e
  simp only [Ear.av] at *
  simp -implicitDefEqProofs (maxSteps := 2000000) (disch := omega) only [go_sem, reduceCtorEq, Nat.reduceAdd, Nat.reduceSub, Nat.reduceMul, Nat.reduceLT, Nat.reduceLeDiff, Nat.reduceEqDiff, Nat.reduceBEq, Int.reduceToNat, Int.reduceLT, Int.reduceLE, Int.reduceEq, Int.reduceNeg, Int.reduceAdd, Int.reduceSub, Int.reduceMul, ↓reduceIte, Int.reduceBEq, Int.reduceBNe]
  refine ⟨fun g1 g2 => ⟨fun g3 => ?_, fun g3 => ⟨fun g4 => ?_, fun g4 => ?_⟩⟩, fun g1 => ?_⟩
  · simp only [ck]; grind
  · simp only [ck]; grind
  · refine ARun.forS (Try.envOK 73 (fun _ => ([], [])) fs2 fs2_ok) ts.length (fun i => firstE ckT (ts.drop i) = firstE ckT ts) (fun i => [(26, .int .i64 i)]) (fun _ j => σ ++ (.cells [.int .i64 s, .list .no 2 (ts.map Rng.av), .list .no 6 (rs.map Rd.av)] :: j)) [] (by kernel_rfl) rfl (by simp [upd, ins, subF, lookA]) (by simp) ?_ ?_
    · intro i j hi hp ih
      rw [firstE_drop hi] at hp
      simp -implicitDefEqProofs (maxSteps := 2000000) (disch := omega) only [go_sem, reduceCtorEq, Nat.reduceAdd, Nat.reduceSub, Nat.reduceMul, Nat.reduceLT, Nat.reduceLeDiff, Nat.reduceEqDiff, Nat.reduceBEq, Int.reduceToNat, Int.reduceLT, Int.reduceLE, Int.reduceEq, Int.reduceNeg, Int.reduceAdd, Int.reduceSub, Int.reduceMul, ↓reduceIte, Int.reduceBEq, Int.reduceBNe, Rng.av]
      have hlh : ∀ a b : Int, 1 ≤ a → a ≤ 100000 → 1 ≤ b → b ≤ 100000 → IntKind.i64.wrap (b - a) = b - a := fun a b _ _ _ _ => wrap64 (by omega) (by omega)
      refine ⟨fun q1 q2 => ⟨fun q3 q4 => ⟨fun q5 => ?_, fun q5 => ?_⟩, fun q3 => ?_⟩, fun q1 => ?_⟩
      · simp only [ckT, ck] at *; grind
      · rw [hlh _ _ q1 q2 q3 q4]
        refine ⟨fun q6 => ?_, fun q6 => ?_⟩
        · simp only [ckT, ck] at *; grind
        · refine (ih (by simp only [ckT] at *; grind) (j ++ [_])).castS rfl (by simp [upd, ins, subF, lookA])
      · simp only [ckT, ck] at *; grind
      · simp only [ckT, ck] at *; grind
    · intro j hp
      rw [firstE_end] at hp
      simp -implicitDefEqProofs (maxSteps := 2000000) (disch := omega) only [go_sem, reduceCtorEq, Nat.reduceAdd, Nat.reduceSub, Nat.reduceMul, Nat.reduceLT, Nat.reduceLeDiff, Nat.reduceEqDiff, Nat.reduceBEq, Int.reduceToNat, Int.reduceLT, Int.reduceLE, Int.reduceEq, Int.reduceNeg, Int.reduceAdd, Int.reduceSub, Int.reduceMul, ↓reduceIte, Int.reduceBEq, Int.reduceBNe]
      refine ⟨fun q1 => ?_, fun q1 => ?_⟩
      · simp only [ck]; grind
      · refine ARun.forS (Try.envOK 73 (fun _ => ([], [])) fs2 fs2_ok) rs.length (fun i => firstE (fun r => ckR r ts.length) (rs.drop i) = firstE (fun r => ckR r ts.length) rs) (fun i => [(60, .int .i64 i)]) (fun _ j => σ ++ (.cells [.int .i64 s, .list .no 2 (ts.map Rng.av), .list .no 6 (rs.map Rd.av)] :: j)) j (by kernel_rfl) rfl (by simp [upd, ins, subF, lookA]) (by simp) ?_ ?_
        · intro i j hi hp ih
          rw [firstE_drop hi] at hp
          simp -implicitDefEqProofs (maxSteps := 2000000) (disch := omega) only [go_sem, reduceCtorEq, Nat.reduceAdd, Nat.reduceSub, Nat.reduceMul, Nat.reduceLT, Nat.reduceLeDiff, Nat.reduceEqDiff, Nat.reduceBEq, Int.reduceToNat, Int.reduceLT, Int.reduceLE, Int.reduceEq, Int.reduceNeg, Int.reduceAdd, Int.reduceSub, Int.reduceMul, ↓reduceIte, Int.reduceBEq, Int.reduceBNe, Rd.av]
          refine ⟨fun q2 => ?_, fun q2 => ?_⟩
          · simp only [ck]; grind
          · refine (ih (by grind) (j ++ [_])).castS rfl (by simp [upd, ins, subF, lookA])
        · intro j hp2
          rw [firstE_end] at hp2
          simp -implicitDefEqProofs (maxSteps := 2000000) (disch := omega) only [go_sem, reduceCtorEq, Nat.reduceAdd, Nat.reduceSub, Nat.reduceMul, Nat.reduceLT, Nat.reduceLeDiff, Nat.reduceEqDiff, Nat.reduceBEq, Int.reduceToNat, Int.reduceLT, Int.reduceLE, Int.reduceEq, Int.reduceNeg, Int.reduceAdd, Int.reduceSub, Int.reduceMul, ↓reduceIte, Int.reduceBEq, Int.reduceBNe]
          simp only [ck]; grind
  · simp only [ck]; grind
def check_s := spec1 tEar fun e => if e.tones.length ≤ 4294967296 ∧ e.rds.length ≤ 4294967296 then some (.int .i64 (ck e)) else none
theorem check_ok : ∀ xs v, check_s xs = some v → PureV Try.prog 28 xs v :=
  spec1_ok fun e v h => by have h := someIf h; rw [← h.2]; exact check_p e h.1.1 h.1.2

theorem one_p (e : Ear) (x : Int) (h1 : e.tones.length ≤ 4294967296) : PureV Try.prog 42 [e.av, .int .i64 x] (.int .i64 (if 0 ≤ x ∧ x ≤ e.tones.length - 1 then 0 else 3)) := by
  refine PureV.of_ev (E := Try.E 12 (fun _ => ([], [])) fs2) (Try.envOK 12 (fun _ => ([], [])) fs2 fs2_ok) (.int) Try.kp42 Try.func42 rfl (by kernel_rfl) (by simp [Try.E]) (Callable.of Try.func42 (by kernel_rfl) (by kernel_rfl)) (by kernel_rfl) ?_
  intro σ
  simp only [Ear.av]
  simp -implicitDefEqProofs (maxSteps := 2000000) (disch := omega) only [go_sem, reduceCtorEq, Nat.reduceAdd, Nat.reduceSub, Nat.reduceMul, Nat.reduceLT, Nat.reduceLeDiff, Nat.reduceEqDiff, Nat.reduceBEq, Int.reduceToNat, Int.reduceLT, Int.reduceLE, Int.reduceEq, Int.reduceNeg, Int.reduceAdd, Int.reduceSub, Int.reduceMul, ↓reduceIte, Int.reduceBEq, Int.reduceBNe]
  grind
def one_s := spec2 tEar tI fun e x => if e.tones.length ≤ 4294967296 then some (.int .i64 (if 0 ≤ x ∧ x ≤ e.tones.length - 1 then 0 else 3)) else none
theorem one_ok : ∀ xs v, one_s xs = some v → PureV Try.prog 42 xs v :=
  spec2_ok fun e x v h => by have h := someIf h; rw [← h.2]; exact one_p e x h.1
def ckTwo (m a b : Int) : Int := if ¬ (0 ≤ a ∧ a ≤ m - 1) ∨ ¬ (0 ≤ b ∧ b ≤ m - 1) then 3 else if a = b then 4 else 0
def two_s := spec3 tEar tI tI fun e x y => if e.tones.length ≤ 4294967296 then some (.int .i64 (ckTwo e.tones.length x y)) else none
def fs3 (f : FuncId) (xs : List AV) : Option AV := if f = 28 then check_s xs else if f = 42 then one_s xs else fs2 f xs
theorem fs3_ok : ∀ f xs v, fs3 f xs = some v → PureV Try.prog f xs v := by
  intro f xs v h
  unfold fs3 at h
  split at h
  · rename_i e; subst e; exact check_ok _ _ h
  split at h
  · rename_i e; subst e; exact one_ok _ _ h
  exact fs2_ok _ _ _ h
attribute [go_sem] fs3 check_s one_s
def ckWant (m x : Int) (w : Rng) : Int := if ¬ (0 ≤ x ∧ x ≤ m - 1) then 3 else if w.lo > w.hi then 5 else 0
def wanted_s := spec3 tEar tI tRng fun e x y => if e.tones.length ≤ 4294967296 then some (.int .i64 (ckWant e.tones.length x y)) else none
def ckG (g : List Int) (i : Nat) : Int :=
  if ¬ (1 ≤ tg g i ∧ tg g i ≤ 20) then 1
  else if 0 < i ∧ tg g i ≤ tg g ((i : Int) - 1) then 5 else 0
def ckGates (g : List Int) : Int :=
  if g.length = 0 then 7 else if g.length > 3 then 6 else firstE (ckG g) (List.range g.length)
theorem tgE {g : List Int} {i : Nat} (h : i < g.length) : tg g i = g[i] := by
  simp [tg, List.getD, List.getElem?_eq_getElem h]
def gates_s := spec1 tIs fun g => if g.length ≤ 4294967296 then some (.int .i64 (ckGates g)) else none
def apart_s := spec3 tT tI tI fun t a b => if t.length = 3 ∧ small t ∧ (0 ≤ a ∧ a ≤ 2) ∧ (0 ≤ b ∧ b ≤ 2) then some (.int .i64 (dist (tg t a) (tg t b))) else none
theorem apart_ok : ∀ xs v, apart_s xs = some v → PureV Try.prog 72 xs v :=
  spec3_ok fun t a b v h => by have h := someIf h; rw [← h.2]; exact apart_p t a b h.1.1 h.1.2.1 h.1.2.2.1 h.1.2.2.2
def fs4 (f : FuncId) (xs : List AV) : Option AV := if f = 72 then apart_s xs else fs3 f xs
theorem fs4_ok : ∀ f xs v, fs4 f xs = some v → PureV Try.prog f xs v := by
  intro f xs v h
  unfold fs4 at h
  split at h
  · rename_i e; subst e; exact apart_ok _ _ h
  exact fs3_ok _ _ _ h
attribute [go_sem] fs4 apart_s
theorem dist_le {a b : Int} (ha : 0 ≤ a ∧ a ≤ 1000000) (hb : 0 ≤ b ∧ b ≤ 1000000) : 0 ≤ dist a b ∧ dist a b ≤ 1000000 := by unfold dist; omega
theorem mul_le {a s : Int} (ha : 0 ≤ a ∧ a ≤ 1000000) (h1 : 0 ≤ s ∧ s ≤ 20) : 0 ≤ a * s ∧ a * s ≤ 20000000 :=
  ⟨Int.mul_nonneg ha.1 h1.1, by have := Int.mul_le_mul ha.2 h1.2 h1.1 (by omega); omega⟩
theorem beat_p (r : Rd) (t : List Int) (sl : Int) (ht : t.length = 3) (hs : small t) (ha : 0 ≤ r.a ∧ r.a ≤ 2) (hb : 0 ≤ r.b ∧ r.b ≤ 2) (hk : r.kind = 2) (h1 : 0 ≤ r.sec ∧ r.sec ≤ 20) (h2 : 0 ≤ r.shown.lo ∧ r.shown.lo ≤ 100000) (h3 : 0 ≤ r.shown.hi ∧ r.shown.hi ≤ 100000) :
    PureV Try.prog 93 [r.av, tav t] (.bool (isR r sl t)) := by
  refine PureV.of_ev (E := Try.E 28 Try.ord93 fs4) (Try.envOK 28 Try.ord93 fs4 fs4_ok) (.bool) Try.kp93 Try.func93 rfl (by kernel_rfl) (by simp [Try.E]) (Callable.of Try.func93 (by kernel_rfl) (by kernel_rfl)) (by kernel_rfl) ?_
  intro σ
  simp only [tav, Rd.av]
  have h6 := mul_le (dist_le (small_tg hs r.a) (small_tg hs r.b)) h1
  simp -implicitDefEqProofs (maxSteps := 2000000) (disch := omega) only [go_sem, reduceCtorEq, Nat.reduceAdd, Nat.reduceSub, Nat.reduceMul, Nat.reduceLT, Nat.reduceLeDiff, Nat.reduceEqDiff, Nat.reduceBEq, Int.reduceToNat, Int.reduceLT, Int.reduceLE, Int.reduceEq, Int.reduceNeg, Int.reduceAdd, Int.reduceSub, Int.reduceMul, ↓reduceIte, Int.reduceBEq, Int.reduceBNe, hs]
  simp only [isR]; grind
theorem higher_p (r : Rd) (t : List Int) (sl : Int) (ht : t.length = 3) (ha : 0 ≤ r.a ∧ r.a ≤ 2) (hb : 0 ≤ r.b ∧ r.b ≤ 2) (hk : r.kind = 3) :
    PureV Try.prog 94 [r.av, tav t] (.bool (isR r sl t)) := by
  refine PureV.of_ev (E := Try.E 16 Try.ord94 fs4) (Try.envOK 16 Try.ord94 fs4 fs4_ok) (.bool) Try.kp94 Try.func94 rfl (by kernel_rfl) (by simp [Try.E]) (Callable.of Try.func94 (by kernel_rfl) (by kernel_rfl)) (by kernel_rfl) ?_
  intro σ
  simp only [tav, Rd.av]
  simp -implicitDefEqProofs (maxSteps := 2000000) (disch := omega) only [go_sem, reduceCtorEq, Nat.reduceAdd, Nat.reduceSub, Nat.reduceMul, Nat.reduceLT, Nat.reduceLeDiff, Nat.reduceEqDiff, Nat.reduceBEq, Int.reduceToNat, Int.reduceLT, Int.reduceLE, Int.reduceEq, Int.reduceNeg, Int.reduceAdd, Int.reduceSub, Int.reduceMul, ↓reduceIte, Int.reduceBEq, Int.reduceBNe]
  simp only [isR]; grind
def rdv (r : Rd) (sl : Int) : AV :=
  if r.kind = 1 then .iface 125 (.agg [.int .i64 r.kind, .int .i64 r.a, .int .i64 r.b, .int .i64 r.sec, .int .i64 r.shown.lo, .int .i64 r.shown.hi, .int .i64 sl])
  else if r.kind = 2 then .iface 127 r.av else .iface 128 r.av
theorem rdv_plain (r : Rd) (sl : Int) : Plain (rdv r sl) := by
  unfold rdv
  split
  · exact .iface (.agg (by simp; exact ⟨.int, .int, .int, .int, .int, .int, .int⟩))
  · split
    · exact .iface (Rd.plain r)
    · exact .iface (Rd.plain r)
theorem readingOf_p (r : Rd) (sl : Int) : PureV Try.prog 44 [r.av, .int .i64 sl] (rdv r sl) := by
  refine PureV.of_ev (E := Try.E 21 (fun _ => ([], [])) fs4) (Try.envOK 21 (fun _ => ([], [])) fs4 fs4_ok) (rdv_plain r sl) Try.kp44 Try.func44 rfl (by kernel_rfl) (by simp [Try.E]) (Callable.of Try.func44 (by kernel_rfl) (by kernel_rfl)) (by kernel_rfl) ?_
  intro σ
  simp only [Rd.av]
  simp -implicitDefEqProofs (maxSteps := 2000000) (disch := omega) only [go_sem, reduceCtorEq, Nat.reduceAdd, Nat.reduceSub, Nat.reduceMul, Nat.reduceLT, Nat.reduceLeDiff, Nat.reduceEqDiff, Nat.reduceBEq, Int.reduceToNat, Int.reduceLT, Int.reduceLE, Int.reduceEq, Int.reduceNeg, Int.reduceAdd, Int.reduceSub, Int.reduceMul, ↓reduceIte, Int.reduceBEq, Int.reduceBNe]
  refine ⟨fun h => ?_, fun h => ⟨fun h2 => ?_, fun h2 => ?_⟩⟩ <;> simp [rdv, h, *, wk, wk1, wk0, Rd.av]
def readingOf_s := spec2 tRd tI fun r sl => some (rdv r sl)
theorem readingOf_ok : ∀ xs v, readingOf_s xs = some v → PureV Try.prog 44 xs v :=
  spec2_ok fun r sl v h => by simp only [Option.some.injEq] at h; rw [← h]; exact readingOf_p r sl
def decC : AV → Option (Rd × Int)
  | .agg [.int .i64 k, .int .i64 a, .int .i64 b, .int .i64 s, .int .i64 x, .int .i64 y, .int .i64 sl] => some (⟨k, a, b, s, ⟨x, y⟩⟩, sl)
  | _ => none
def tC : Ty (Rd × Int) := ⟨decC, fun p => .agg [.int .i64 p.1.kind, .int .i64 p.1.a, .int .i64 p.1.b, .int .i64 p.1.sec, .int .i64 p.1.shown.lo, .int .i64 p.1.shown.hi, .int .i64 p.2], fun {a x} h => by
  unfold decC at h; split at h
  · simp at h; subst h; exact ⟨rfl, rfl, rfl, rfl, rfl, rfl, rfl, trivial⟩
  · cases h⟩
theorem tC_dec {a : AV} : tC.dec a = decC a := rfl
def count_s := spec2 tC tT fun p t => if t.length = 3 ∧ small t ∧ okR p.1 ∧ p.1.kind = 1 ∧ (0 ≤ p.2 ∧ p.2 ≤ 3) then some (.bool (isR p.1 p.2 t)) else none
theorem count_ok : ∀ xs v, count_s xs = some v → PureV Try.prog 71 xs v :=
  spec2_ok fun p t v h => by
    obtain ⟨⟨a, b, ⟨c1, c2, c3, c4, c5, c6⟩, d, e⟩, h⟩ := someIf h
    rw [← h]; exact count_p p.1 p.2 t a b c2 d c4 c5 c6 e
def beat_s := spec2 tRd tT fun r t => if t.length = 3 ∧ small t ∧ okR r ∧ r.kind = 2 then some (.bool (isR r 0 t)) else none
theorem beat_ok : ∀ xs v, beat_s xs = some v → PureV Try.prog 93 xs v :=
  spec2_ok fun r t v h => by
    obtain ⟨⟨a, b, ⟨c1, c2, c3, c4, c5, c6⟩, d⟩, h⟩ := someIf h
    rw [← h]; exact beat_p r t 0 a b c2 c3 d c4 c5 c6
def higher_s := spec2 tRd tT fun r t => if t.length = 3 ∧ okR r ∧ r.kind = 3 then some (.bool (isR r 0 t)) else none
theorem higher_ok : ∀ xs v, higher_s xs = some v → PureV Try.prog 94 xs v :=
  spec2_ok fun r t v h => by
    obtain ⟨⟨a, ⟨c1, c2, c3, c4, c5, c6⟩, d⟩, h⟩ := someIf h
    rw [← h]; exact higher_p r t 0 a c2 c3 d
def fs5 (f : FuncId) (xs : List AV) : Option AV := if f = 44 then readingOf_s xs else if f = 71 then count_s xs else if f = 93 then beat_s xs else if f = 94 then higher_s xs else fs4 f xs
theorem fs5_ok : ∀ f xs v, fs5 f xs = some v → PureV Try.prog f xs v := by
  intro f xs v h
  unfold fs5 at h
  split at h
  · rename_i e; subst e; exact readingOf_ok _ _ h
  split at h
  · rename_i e; subst e; exact count_ok _ _ h
  split at h
  · rename_i e; subst e; exact beat_ok _ _ h
  split at h
  · rename_i e; subst e; exact higher_ok _ _ h
  exact fs4_ok _ _ _ h
attribute [go_sem] fs5 readingOf_s count_s beat_s higher_s
theorem isR_slack {r : Rd} {sl : Int} {t : List Int} (h : r.kind ≠ 1) : isR r sl t = isR r 0 t := by simp [isR, h]
/-- A reading is asked through the interface. -/
theorem invoke_is {N : Nat} {ord : Nat → List Nat × List (Nat × List Nat)} {fs : FuncId → List AV → Option AV} (hf : ∀ xs, fs 71 xs = count_s xs ∧ fs 93 xs = beat_s xs ∧ fs 94 xs = higher_s xs) {r : Rd} {sl : Int} {t : List Int} {σ : List AObj} {X : AV → List AObj → Prop}
    (hr : okR r) (hsl : 0 ≤ sl ∧ sl ≤ 3) (ht : t.length = 3) (hs : small t) : callI (Try.E N ord fs) σ X "musette/meter.is" (some (rdv r sl)) (some [.agg (t.map (AV.int .i64))]) = giveC X σ (isR r sl t) := by
  have hk := hr.1
  rcases (by omega : r.kind = 1 ∨ r.kind = 2 ∨ r.kind = 3) with k | k | k
  · obtain ⟨rk, ra, rb, rs, rx, ry⟩ := r
    simp only at k
    subst k
    simp only [rdv, if_true, callI_some, Try.Emt, Try.mt_count, callM_some, callA_eq, Try.Efs, (hf _).1, count_s, spec2, tC_dec, decC, tT_dec, decT_agg, Option.bind_some, ht, hs, hr, hsl, true_and, and_self, if_true, callO_give, giveB_giveC]
  · simp only [rdv, k, if_true, callI_some, Try.Emt, Try.mt_beat, callM_some, callA_eq, Try.Efs, (hf _).2.1, beat_s, spec2, tRd_dec, decRd_av, tT_dec, decT_agg, Option.bind_some, ht, hs, hr, and_self, if_true, callO_give, giveB_giveC, isR_slack (r := r) (sl := sl) (by omega), (by decide : ¬ (2 : Int) = 1), if_false]
  · simp only [rdv, k, if_true, callI_some, Try.Emt, Try.mt_higher, callM_some, callA_eq, Try.Efs, (hf _).2.2, higher_s, spec2, tRd_dec, decRd_av, tT_dec, decT_agg, Option.bind_some, ht, hs, hr, and_self, if_true, callO_give, giveB_giveC, isR_slack (r := r) (sl := sl) (by omega), (by decide : ¬ (3 : Int) = 1), (by decide : ¬ (3 : Int) = 2), if_false]
end Go.Proofs
set_option linter.unusedSimpArgs false
set_option linter.unusedVariables false
set_option maxRecDepth 100000
namespace Go.Proofs
open Go Go.Mu

theorem appendSeq_c {g : FuncId} {p q L : List AV} {σ : List AObj} (hI : Iter Try.prog g p q σ L) (hL : L.length ≤ 4294967296) (hf : ∀ v ∈ L, ∃ cs, v = .agg cs ∧ cs.length = 3) (hp : Plain (.list .no 3 L)) {Q : AV → List AObj → Prop} (h : Q (.list .no 3 L) σ) :
    ACalls Try.prog 73 [.list .full 0 [], .fn (.func g) p q] σ Q := by
  refine ACalls.clean_ev (E := Try.E 13 (fun _ => ([], [])) fs0) (Try.envOK 13 (fun _ => ([], [])) fs0 fs0_ok) (hp _) (h) Try.kp73 Try.func73 rfl (by kernel_rfl) (by simp [Try.E]) (Callable.of Try.func73 (by kernel_rfl) (by kernel_rfl)) (by kernel_rfl) ?_
  simp -implicitDefEqProofs (maxSteps := 2000000) (disch := omega) only [go_sem, reduceCtorEq, Nat.reduceAdd, Nat.reduceSub, Nat.reduceMul, Nat.reduceLT, Nat.reduceLeDiff, Nat.reduceEqDiff, Nat.reduceBEq, Int.reduceToNat, Int.reduceLT, Int.reduceLE, Int.reduceEq, Int.reduceNeg, Int.reduceAdd, Int.reduceSub, Int.reduceMul, ↓reduceIte, Int.reduceBEq, Int.reduceBNe]
  refine ARun.ghostC σ.length 3 (sz0 := 0) (by simp [hget_at0]) ?_
  simp only [hset_at0, List.set_cons_zero, List.append_assoc, List.cons_append, List.nil_append, List.length_append, List.length_cons, List.length_nil, Nat.zero_add]
  refine ARun.rangeIter (g := g) (p := p) (q := q) (L := L) (σ0 := σ) (by simp [aeval, Fr.get, lookA, Try.kp73]) hI (by simp) (fun k hk => hget_app hk) ⟨7, rfl, by simp [Try.EN]⟩
    (fun k => k = σ.length ∨ k = σ.length + 1) (fun k hk => by simp; omega) (fun D τ => hget τ σ.length = some (.cells [.list (.own (σ.length + 1)) 3 D]) ∧ hget τ (σ.length + 1) = some (.tail D.length 3)) (fun _ _ => False)
    (by simp [hget_at0, hget_at]) (fun {D τ τ'} hc hk => by rw [hk _ (.inl rfl), hk _ (.inr rfl)]; exact hc) (fun {j τ τ'} hc _ => hc) ?_ ?_ (fun τ j _ _ hc => hc.elim)
  · rintro D v R fn τ hD ⟨c1, c2⟩ hlt hrec
    have hlen : (σ ++ [AObj.cells [.list (.own (σ.length + 1)) 3 []], .tail 0 3]).length = σ.length + 2 := by simp
    rw [hlen] at hrec hlt ⊢
    obtain ⟨cs, rfl, hcs⟩ := hf v (by rw [hD]; simp)
    have hcs' : List.take 3 cs = cs := List.take_of_length_le (by omega)
    have hDl : D.length + 1 ≤ 4294967296 := by have := congrArg List.length hD; simp at this; omega
    refine ev_sound (Try.envOK 13 (fun _ => ([], [])) fs0 fs0_ok) (n := 1000) (by kernel_rfl) ?_
    have e0 : ∀ x y z : AV, putAt 0 cs [x, y, z] = cs := fun x y z => by simp [putAt, hcs]
    simp -implicitDefEqProofs (maxSteps := 2000000) (disch := omega) only [go_sem, reduceCtorEq, Nat.reduceAdd, Nat.reduceSub, Nat.reduceMul, Nat.reduceLT, Nat.reduceLeDiff, Nat.reduceEqDiff, Nat.reduceBEq, Int.reduceToNat, Int.reduceLT, Int.reduceLE, Int.reduceEq, Int.reduceNeg, Int.reduceAdd, Int.reduceSub, Int.reduceMul, ↓reduceIte, Int.reduceBEq, Int.reduceBNe, frIn, hcs, e0]
    refine ARun.beginRound' (by rw [hget_app (by omega)]; exact hrec) fun τ2 hl2 hs2 hr2 => ?_
    rw [List.length_append, List.length_singleton] at hl2
    have k1 : hget τ2 σ.length = some (.cells [.list (.own (σ.length + 1)) 3 D]) := by rw [hs2 _ (by omega), hget_app (by omega)]; exact c1
    have k2 : hget τ2 (σ.length + 1) = some (.tail D.length 3) := by rw [hs2 _ (by omega), hget_app (by omega)]; exact c2
    have k3 : hget τ2 τ.length = some (.cells cs) := by rw [hs2 _ (by omega)]; exact hget_at0
    refine ev_sound (Try.envOK 13 (fun _ => ([], [])) fs0 fs0_ok) (n := 1000) (by kernel_rfl) ?_
    simp -implicitDefEqProofs (maxSteps := 2000000) (disch := omega) only [go_sem, reduceCtorEq, Nat.reduceAdd, Nat.reduceSub, Nat.reduceMul, Nat.reduceLT, Nat.reduceLeDiff, Nat.reduceEqDiff, Nat.reduceBEq, Int.reduceToNat, Int.reduceLT, Int.reduceLE, Int.reduceEq, Int.reduceNeg, Int.reduceAdd, Int.reduceSub, Int.reduceMul, ↓reduceIte, Int.reduceBEq, Int.reduceBNe, k1, k2, k3, hcs, hcs', hDl, hget_hset]
    refine ⟨⟨by simp only [length_hset]; omega, fun q hq hm => ?_⟩, none, hr2⟩
    rw [hget_ne (by omega), hget_ne (by omega), hs2 q (by omega), hget_app hq]
  · rintro τ hlt hold ⟨c1, c2⟩
    refine ev_sound (Try.envOK 13 (fun _ => ([], [])) fs0 fs0_ok) (n := 1000) (by kernel_rfl) ?_
    simp -implicitDefEqProofs (maxSteps := 2000000) (disch := omega) only [go_sem, reduceCtorEq, Nat.reduceAdd, Nat.reduceSub, Nat.reduceMul, Nat.reduceLT, Nat.reduceLeDiff, Nat.reduceEqDiff, Nat.reduceBEq, Int.reduceToNat, Int.reduceLT, Int.reduceLE, Int.reduceEq, Int.reduceNeg, Int.reduceAdd, Int.reduceSub, Int.reduceMul, ↓reduceIte, Int.reduceBEq, Int.reduceBNe, c1]
    simp only [List.length_append, List.length_cons, List.length_nil] at hlt hold
    exact gives_same (by omega) (fun q hq => by rw [hold q (by omega) (by omega)]; exact hget_app hq) ⟨rfl, .inl rfl, .inl rfl⟩
theorem collect_c {g : FuncId} {p q L : List AV} {σ : List AObj} (hI : Iter Try.prog g p q σ L) (hL : L.length ≤ 4294967296) (hf : ∀ v ∈ L, ∃ cs, v = .agg cs ∧ cs.length = 3) (hp : Plain (.list .no 3 L)) {Q : AV → List AObj → Prop} (h : Q (.list .no 3 L) σ) :
    ACalls Try.prog 65 [.fn (.func g) p q] σ Q := by
  refine ACalls.of_ev (E := Try.E 5 (fun _ => ([], [])) fs0) (Try.envOK 5 (fun _ => ([], [])) fs0 fs0_ok) Try.kp65 Try.func65 rfl (by kernel_rfl) (by simp [Try.E]) (Callable.of Try.func65 (by kernel_rfl) (by kernel_rfl)) (by kernel_rfl) ?_
  simp -implicitDefEqProofs (maxSteps := 2000000) (disch := omega) only [go_sem, reduceCtorEq, Nat.reduceAdd, Nat.reduceSub, Nat.reduceMul, Nat.reduceLT, Nat.reduceLeDiff, Nat.reduceEqDiff, Nat.reduceBEq, Int.reduceToNat, Int.reduceLT, Int.reduceLE, Int.reduceEq, Int.reduceNeg, Int.reduceAdd, Int.reduceSub, Int.reduceMul, ↓reduceIte, Int.reduceBEq, Int.reduceBNe]
  refine appendSeq_c hI hL hf hp ?_
  simp -implicitDefEqProofs (maxSteps := 2000000) (disch := omega) only [go_sem, reduceCtorEq, Nat.reduceAdd, Nat.reduceSub, Nat.reduceMul, Nat.reduceLT, Nat.reduceLeDiff, Nat.reduceEqDiff, Nat.reduceBEq, Int.reduceToNat, Int.reduceLT, Int.reduceLE, Int.reduceEq, Int.reduceNeg, Int.reduceAdd, Int.reduceSub, Int.reduceMul, ↓reduceIte, Int.reduceBEq, Int.reduceBNe, h]
end Go.Proofs
