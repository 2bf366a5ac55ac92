/- Texts of a proof: lemmas. -/
import Derived.Test.YtbkjffpembflcaaGreatA1
set_option linter.unusedSimpArgs false
set_option linter.unusedVariables false
set_option maxRecDepth 100000
namespace Go.Proofs
open Go Go.Mu

def fs2 (f : FuncId) (xs : List AV) : Option AV := if f = 61 then ckR_s xs else fs1 f xs
theorem fs2_ok : ∀ f xs v, fs2 f xs = some v → PureV Tryz.prog f xs v := by
  intro f xs v h
  unfold fs2 at h
  split at h
  · rename_i e; subst e; exact ckR_ok _ _ h
  exact fs1_ok _ _ _ h
attribute [go_sem] fs2 ckR_s
theorem drop_cons {α : Type} {l : List α} {i : Nat} (h : i < l.length) : l.drop i = l[i] :: l.drop (i + 1) := List.drop_eq_getElem_cons h
theorem firstE_drop {α : Type} {f : α → Int} {l : List α} {i : Nat} (h : i < l.length) : firstE f (l.drop i) = if f l[i] = 0 then firstE f (l.drop (i + 1)) else f l[i] := by rw [drop_cons h]; rfl
theorem firstE_end {α : Type} {f : α → Int} {l : List α} : firstE f (l.drop l.length) = 0 := by simp [firstE]

set_option maxHeartbeats 1000000 in
theorem check_p (e : Ear) (h1 : e.tones.length ≤ 4294967296) (h2 : e.rds.length ≤ 4294967296) : PureV Tryz.prog 18 [e.av] (.int .i64 (ck e)) := by
  refine PureV.of_ev (E := Tryz.E 73 (fun _ => ([], [])) fs2) (Tryz.envOK 73 (fun _ => ([], [])) fs2 fs2_ok) (.int) Tryz.kp18 Tryz.func18 rfl (by kernel_rfl) (by simp [Tryz.E]) (Callable.of Tryz.func18 (by kernel_rfl) (by kernel_rfl)) (by kernel_rfl) ?_
  intro σ
  obtain ⟨s, ts, rs⟩ := e
  simp only [Ear.av] at *
  simp -implicitDefEqProofs (maxSteps := 2000000) (disch := omega) only [go_sem, reduceCtorEq, Nat.reduceAdd, Nat.reduceSub, Nat.reduceMul, Nat.reduceLT, Nat.reduceLeDiff, Nat.reduceEqDiff, Nat.reduceBEq, Int.reduceToNat, Int.reduceLT, Int.reduceLE, Int.reduceEq, Int.reduceNeg, Int.reduceAdd, Int.reduceSub, Int.reduceMul, ↓reduceIte, Int.reduceBEq, Int.reduceBNe]
  refine ⟨fun g1 g2 => ⟨fun g3 => ?_, fun g3 => ⟨fun g4 => ?_, fun g4 => ?_⟩⟩, fun g1 => ?_⟩
  · simp only [ck]; grind
  · simp only [ck]; grind
  · refine ARun.forS (Tryz.envOK 73 (fun _ => ([], [])) fs2 fs2_ok) ts.length (fun i => firstE ckT (ts.drop i) = firstE ckT ts) (fun i => [(26, .int .i64 i)]) (fun _ j => σ ++ (.cells [.int .i64 s, .list .no 2 (ts.map Rng.av), .list .no 6 (rs.map Rd.av)] :: j)) [] (by kernel_rfl) rfl (by simp [upd, ins, subF, lookA]) (by simp) ?_ ?_
    · intro i j hi hp ih
      rw [firstE_drop hi] at hp
      simp -implicitDefEqProofs (maxSteps := 2000000) (disch := omega) only [go_sem, reduceCtorEq, Nat.reduceAdd, Nat.reduceSub, Nat.reduceMul, Nat.reduceLT, Nat.reduceLeDiff, Nat.reduceEqDiff, Nat.reduceBEq, Int.reduceToNat, Int.reduceLT, Int.reduceLE, Int.reduceEq, Int.reduceNeg, Int.reduceAdd, Int.reduceSub, Int.reduceMul, ↓reduceIte, Int.reduceBEq, Int.reduceBNe, Rng.av]
      have hlh : ∀ a b : Int, 1 ≤ a → a ≤ 100000 → 1 ≤ b → b ≤ 100000 → IntKind.i64.wrap (b - a) = b - a := fun a b _ _ _ _ => wrap64 (by omega) (by omega)
      refine ⟨fun q1 q2 => ⟨fun q3 q4 => ⟨fun q5 => ?_, fun q5 => ?_⟩, fun q3 => ?_⟩, fun q1 => ?_⟩
      · simp only [ckT, ck] at *; grind
      · rw [hlh _ _ q1 q2 q3 q4]
        refine ⟨fun q6 => ?_, fun q6 => ?_⟩
        · simp only [ckT, ck] at *; grind
        · refine (ih (by simp only [ckT] at *; grind) (j ++ [_])).castS rfl (by simp [upd, ins, subF, lookA])
      · simp only [ckT, ck] at *; grind
      · simp only [ckT, ck] at *; grind
    · intro j hp
      rw [firstE_end] at hp
      simp -implicitDefEqProofs (maxSteps := 2000000) (disch := omega) only [go_sem, reduceCtorEq, Nat.reduceAdd, Nat.reduceSub, Nat.reduceMul, Nat.reduceLT, Nat.reduceLeDiff, Nat.reduceEqDiff, Nat.reduceBEq, Int.reduceToNat, Int.reduceLT, Int.reduceLE, Int.reduceEq, Int.reduceNeg, Int.reduceAdd, Int.reduceSub, Int.reduceMul, ↓reduceIte, Int.reduceBEq, Int.reduceBNe]
      refine ⟨fun q1 => ?_, fun q1 => ?_⟩
      · simp only [ck]; grind
      · refine ARun.forS (Tryz.envOK 73 (fun _ => ([], [])) fs2 fs2_ok) rs.length (fun i => firstE (fun r => ckR r ts.length) (rs.drop i) = firstE (fun r => ckR r ts.length) rs) (fun i => [(60, .int .i64 i)]) (fun _ j => σ ++ (.cells [.int .i64 s, .list .no 2 (ts.map Rng.av), .list .no 6 (rs.map Rd.av)] :: j)) j (by kernel_rfl) rfl (by simp [upd, ins, subF, lookA]) (by simp) ?_ ?_
        · intro i j hi hp ih
          rw [firstE_drop hi] at hp
          simp -implicitDefEqProofs (maxSteps := 2000000) (disch := omega) only [go_sem, reduceCtorEq, Nat.reduceAdd, Nat.reduceSub, Nat.reduceMul, Nat.reduceLT, Nat.reduceLeDiff, Nat.reduceEqDiff, Nat.reduceBEq, Int.reduceToNat, Int.reduceLT, Int.reduceLE, Int.reduceEq, Int.reduceNeg, Int.reduceAdd, Int.reduceSub, Int.reduceMul, ↓reduceIte, Int.reduceBEq, Int.reduceBNe, Rd.av]
          refine ⟨fun q2 => ?_, fun q2 => ?_⟩
          · simp only [ck]; grind
          · refine (ih (by grind) (j ++ [_])).castS rfl (by simp [upd, ins, subF, lookA])
        · intro j hp2
          rw [firstE_end] at hp2
          simp -implicitDefEqProofs (maxSteps := 2000000) (disch := omega) only [go_sem, reduceCtorEq, Nat.reduceAdd, Nat.reduceSub, Nat.reduceMul, Nat.reduceLT, Nat.reduceLeDiff, Nat.reduceEqDiff, Nat.reduceBEq, Int.reduceToNat, Int.reduceLT, Int.reduceLE, Int.reduceEq, Int.reduceNeg, Int.reduceAdd, Int.reduceSub, Int.reduceMul, ↓reduceIte, Int.reduceBEq, Int.reduceBNe]
          simp only [ck]; grind
  · simp only [ck]; grind
def check_s := spec1 tEar fun e => if e.tones.length ≤ 4294967296 ∧ e.rds.length ≤ 4294967296 then some (.int .i64 (ck e)) else none
theorem check_ok : ∀ xs v, check_s xs = some v → PureV Tryz.prog 18 xs v :=
  spec1_ok fun e v h => by have h := someIf h; rw [← h.2]; exact check_p e h.1.1 h.1.2

theorem one_p (e : Ear) (x : Int) (h1 : e.tones.length ≤ 4294967296) : PureV Tryz.prog 57 [e.av, .int .i64 x] (.int .i64 (if 0 ≤ x ∧ x ≤ e.tones.length - 1 then 0 else 3)) := by
  refine PureV.of_ev (E := Tryz.E 12 (fun _ => ([], [])) fs2) (Tryz.envOK 12 (fun _ => ([], [])) fs2 fs2_ok) (.int) Tryz.kp57 Tryz.func57 rfl (by kernel_rfl) (by simp [Tryz.E]) (Callable.of Tryz.func57 (by kernel_rfl) (by kernel_rfl)) (by kernel_rfl) ?_
  intro σ
  simp only [Ear.av]
  simp -implicitDefEqProofs (maxSteps := 2000000) (disch := omega) only [go_sem, reduceCtorEq, Nat.reduceAdd, Nat.reduceSub, Nat.reduceMul, Nat.reduceLT, Nat.reduceLeDiff, Nat.reduceEqDiff, Nat.reduceBEq, Int.reduceToNat, Int.reduceLT, Int.reduceLE, Int.reduceEq, Int.reduceNeg, Int.reduceAdd, Int.reduceSub, Int.reduceMul, ↓reduceIte, Int.reduceBEq, Int.reduceBNe]
  grind
def one_s := spec2 tEar tI fun e x => if e.tones.length ≤ 4294967296 then some (.int .i64 (if 0 ≤ x ∧ x ≤ e.tones.length - 1 then 0 else 3)) else none
theorem one_ok : ∀ xs v, one_s xs = some v → PureV Tryz.prog 57 xs v :=
  spec2_ok fun e x v h => by have h := someIf h; rw [← h.2]; exact one_p e x h.1
def ckTwo (m a b : Int) : Int := if ¬ (0 ≤ a ∧ a ≤ m - 1) ∨ ¬ (0 ≤ b ∧ b ≤ m - 1) then 3 else if a = b then 4 else 0
theorem two_p (e : Ear) (x y : Int) (h1 : e.tones.length ≤ 4294967296) : PureV Tryz.prog 71 [e.av, .int .i64 x, .int .i64 y] (.int .i64 (ckTwo e.tones.length x y)) := by
  refine PureV.of_ev (E := Tryz.E 26 (fun _ => ([], [])) fs2) (Tryz.envOK 26 (fun _ => ([], [])) fs2 fs2_ok) (.int) Tryz.kp71 Tryz.func71 rfl (by kernel_rfl) (by simp [Tryz.E]) (Callable.of Tryz.func71 (by kernel_rfl) (by kernel_rfl)) (by kernel_rfl) ?_
  intro σ
  simp only [Ear.av]
  simp -implicitDefEqProofs (maxSteps := 2000000) (disch := omega) only [go_sem, reduceCtorEq, Nat.reduceAdd, Nat.reduceSub, Nat.reduceMul, Nat.reduceLT, Nat.reduceLeDiff, Nat.reduceEqDiff, Nat.reduceBEq, Int.reduceToNat, Int.reduceLT, Int.reduceLE, Int.reduceEq, Int.reduceNeg, Int.reduceAdd, Int.reduceSub, Int.reduceMul, ↓reduceIte, Int.reduceBEq, Int.reduceBNe]
  simp only [ckTwo]; grind
def two_s := spec3 tEar tI tI fun e x y => if e.tones.length ≤ 4294967296 then some (.int .i64 (ckTwo e.tones.length x y)) else none
theorem two_ok : ∀ xs v, two_s xs = some v → PureV Tryz.prog 71 xs v :=
  spec3_ok fun e x y v h => by have h := someIf h; rw [← h.2]; exact two_p e x y h.1
def fs3 (f : FuncId) (xs : List AV) : Option AV := if f = 18 then check_s xs else if f = 57 then one_s xs else if f = 71 then two_s xs else fs2 f xs
theorem fs3_ok : ∀ f xs v, fs3 f xs = some v → PureV Tryz.prog f xs v := by
  intro f xs v h
  unfold fs3 at h
  split at h
  · rename_i e; subst e; exact check_ok _ _ h
  split at h
  · rename_i e; subst e; exact one_ok _ _ h
  split at h
  · rename_i e; subst e; exact two_ok _ _ h
  exact fs2_ok _ _ _ h
attribute [go_sem] fs3 check_s one_s two_s
def ckWant (m x : Int) (w : Rng) : Int := if ¬ (0 ≤ x ∧ x ≤ m - 1) then 3 else if w.lo > w.hi then 5 else 0
theorem wanted_p (e : Ear) (x : Int) (w : Rng) (h1 : e.tones.length ≤ 4294967296) : PureV Tryz.prog 68 [e.av, .int .i64 x, w.av] (.int .i64 (ckWant e.tones.length x w)) := by
  refine PureV.of_ev (E := Tryz.E 19 (fun _ => ([], [])) fs3) (Tryz.envOK 19 (fun _ => ([], [])) fs3 fs3_ok) (.int) Tryz.kp68 Tryz.func68 rfl (by kernel_rfl) (by simp [Tryz.E]) (Callable.of Tryz.func68 (by kernel_rfl) (by kernel_rfl)) (by kernel_rfl) ?_
  intro σ
  simp only [Ear.av, Rng.av]
  simp -implicitDefEqProofs (maxSteps := 2000000) (disch := omega) only [go_sem, reduceCtorEq, Nat.reduceAdd, Nat.reduceSub, Nat.reduceMul, Nat.reduceLT, Nat.reduceLeDiff, Nat.reduceEqDiff, Nat.reduceBEq, Int.reduceToNat, Int.reduceLT, Int.reduceLE, Int.reduceEq, Int.reduceNeg, Int.reduceAdd, Int.reduceSub, Int.reduceMul, ↓reduceIte, Int.reduceBEq, Int.reduceBNe]
  simp only [ckWant]; grind
def wanted_s := spec3 tEar tI tRng fun e x y => if e.tones.length ≤ 4294967296 then some (.int .i64 (ckWant e.tones.length x y)) else none
theorem wanted_ok : ∀ xs v, wanted_s xs = some v → PureV Tryz.prog 68 xs v :=
  spec3_ok fun e x y v h => by have h := someIf h; rw [← h.2]; exact wanted_p e x y h.1

def ckG (g : List Int) (i : Nat) : Int :=
  if ¬ (1 ≤ tg g i ∧ tg g i ≤ 20) then 1
  else if 0 < i ∧ tg g i ≤ tg g ((i : Int) - 1) then 5 else 0
def ckGates (g : List Int) : Int :=
  if g.length = 0 then 7 else if g.length > 3 then 6 else firstE (ckG g) (List.range g.length)
theorem tgE {g : List Int} {i : Nat} (h : i < g.length) : tg g i = g[i] := by
  simp [tg, List.getD, List.getElem?_eq_getElem h]
theorem gates_p (g : List Int) (h1 : g.length ≤ 4294967296) : PureV Tryz.prog 82 [tIs.av g] (.int .i64 (ckGates g)) := by
  refine PureV.of_ev (E := Tryz.E 37 (fun _ => ([], [])) fs3) (Tryz.envOK 37 (fun _ => ([], [])) fs3 fs3_ok) (.int) Tryz.kp82 Tryz.func82 rfl (by kernel_rfl) (by simp [Tryz.E]) (Callable.of Tryz.func82 (by kernel_rfl) (by kernel_rfl)) (by kernel_rfl) ?_
  intro σ
  simp only [tIs]
  simp -implicitDefEqProofs (maxSteps := 2000000) (disch := omega) only [go_sem, reduceCtorEq, Nat.reduceAdd, Nat.reduceSub, Nat.reduceMul, Nat.reduceLT, Nat.reduceLeDiff, Nat.reduceEqDiff, Nat.reduceBEq, Int.reduceToNat, Int.reduceLT, Int.reduceLE, Int.reduceEq, Int.reduceNeg, Int.reduceAdd, Int.reduceSub, Int.reduceMul, ↓reduceIte, Int.reduceBEq, Int.reduceBNe]
  refine ⟨fun q1 => ?_, fun q1 => ⟨fun q2 => ?_, fun q2 => ?_⟩⟩
  · simp only [ckGates]; grind
  · simp only [ckGates]; grind
  refine ARun.forS (Tryz.envOK 37 (fun _ => ([], [])) fs3 fs3_ok) g.length (fun i => firstE (ckG g) ((List.range g.length).drop i) = firstE (ckG g) (List.range g.length)) (fun i => [(15, .int .i64 i)]) (fun _ j => σ) [] (by kernel_rfl) rfl (by simp [upd, ins, subF, lookA]) (by simp) ?_ ?_
  · intro i j hi hp ih
    rw [firstE_drop (by simpa using hi), List.getElem_range] at hp
    rcases Nat.eq_zero_or_pos i with h0 | h0
    · subst h0
      simp -implicitDefEqProofs (maxSteps := 2000000) (disch := omega) only [go_sem, reduceCtorEq, Nat.reduceAdd, Nat.reduceSub, Nat.reduceMul, Nat.reduceLT, Nat.reduceLeDiff, Nat.reduceEqDiff, Nat.reduceBEq, Int.reduceToNat, Int.reduceLT, Int.reduceLE, Int.reduceEq, Int.reduceNeg, Int.reduceAdd, Int.reduceSub, Int.reduceMul, ↓reduceIte, Int.reduceBEq, Int.reduceBNe, idx_tg]
      refine ⟨fun r1 r2 => ?_, fun r1 => ?_⟩
      · refine (ih (by simp only [ckG] at *; grind) []).castS rfl (by simp [upd, ins, subF, lookA])
      · simp only [ckGates, ckG] at *; grind
    · have ht := tgE hi
      simp -implicitDefEqProofs (maxSteps := 2000000) (disch := omega) only [go_sem, reduceCtorEq, Nat.reduceAdd, Nat.reduceSub, Nat.reduceMul, Nat.reduceLT, Nat.reduceLeDiff, Nat.reduceEqDiff, Nat.reduceBEq, Int.reduceToNat, Int.reduceLT, Int.reduceLE, Int.reduceEq, Int.reduceNeg, Int.reduceAdd, Int.reduceSub, Int.reduceMul, ↓reduceIte, Int.reduceBEq, Int.reduceBNe, idx_tg]
      refine ⟨fun r1 r2 => ⟨fun r3 => ?_, fun r3 => ?_⟩, fun r1 => ?_⟩
      · simp only [ckGates, ckG] at *; grind
      · refine (ih (by simp only [ckG] at *; grind) []).castS rfl (by simp [upd, ins, subF, lookA])
      · simp only [ckGates, ckG] at *; grind
  · intro j hp
    have := firstE_end (f := ckG g) (l := List.range g.length)
    simp only [List.length_range] at this
    rw [this] at hp
    simp -implicitDefEqProofs (maxSteps := 2000000) (disch := omega) only [go_sem, reduceCtorEq, Nat.reduceAdd, Nat.reduceSub, Nat.reduceMul, Nat.reduceLT, Nat.reduceLeDiff, Nat.reduceEqDiff, Nat.reduceBEq, Int.reduceToNat, Int.reduceLT, Int.reduceLE, Int.reduceEq, Int.reduceNeg, Int.reduceAdd, Int.reduceSub, Int.reduceMul, ↓reduceIte, Int.reduceBEq, Int.reduceBNe]
    simp only [ckGates]; grind
def gates_s := spec1 tIs fun g => if g.length ≤ 4294967296 then some (.int .i64 (ckGates g)) else none
theorem gates_ok : ∀ xs v, gates_s xs = some v → PureV Tryz.prog 82 xs v :=
  spec1_ok fun e v h => by have h := someIf h; rw [← h.2]; exact gates_p e h.1

def apart_s := spec3 tT tI tI fun t a b => if t.length = 3 ∧ small t ∧ (0 ≤ a ∧ a ≤ 2) ∧ (0 ≤ b ∧ b ≤ 2) then some (.int .i64 (dist (tg t a) (tg t b))) else none
theorem apart_ok : ∀ xs v, apart_s xs = some v → PureV Tryz.prog 74 xs v :=
  spec3_ok fun t a b v h => by have h := someIf h; rw [← h.2]; exact apart_p t a b h.1.1 h.1.2.1 h.1.2.2.1 h.1.2.2.2
def fs4 (f : FuncId) (xs : List AV) : Option AV := if f = 68 then wanted_s xs else if f = 82 then gates_s xs else if f = 74 then apart_s xs else fs3 f xs
theorem fs4_ok : ∀ f xs v, fs4 f xs = some v → PureV Tryz.prog f xs v := by
  intro f xs v h
  unfold fs4 at h
  split at h
  · rename_i e; subst e; exact wanted_ok _ _ h
  split at h
  · rename_i e; subst e; exact gates_ok _ _ h
  split at h
  · rename_i e; subst e; exact apart_ok _ _ h
  exact fs3_ok _ _ _ h
attribute [go_sem] fs4 wanted_s gates_s apart_s
theorem dist_le {a b : Int} (ha : 0 ≤ a ∧ a ≤ 1000000) (hb : 0 ≤ b ∧ b ≤ 1000000) : 0 ≤ dist a b ∧ dist a b ≤ 1000000 := by unfold dist; omega
theorem mul_le {a s : Int} (ha : 0 ≤ a ∧ a ≤ 1000000) (h1 : 0 ≤ s ∧ s ≤ 20) : 0 ≤ a * s ∧ a * s ≤ 20000000 :=
  ⟨Int.mul_nonneg ha.1 h1.1, by have := Int.mul_le_mul ha.2 h1.2 h1.1 (by omega); omega⟩
theorem beat_p (r : Rd) (t : List Int) (sl : Int) (ht : t.length = 3) (hs : small t) (ha : 0 ≤ r.a ∧ r.a ≤ 2) (hb : 0 ≤ r.b ∧ r.b ≤ 2) (hk : r.kind = 2) (h1 : 0 ≤ r.sec ∧ r.sec ≤ 20) (h2 : 0 ≤ r.shown.lo ∧ r.shown.lo ≤ 100000) (h3 : 0 ≤ r.shown.hi ∧ r.shown.hi ≤ 100000) :
    PureV Tryz.prog 149 [r.av, tav t] (.bool (isR r sl t)) := by
  refine PureV.of_ev (E := Tryz.E 28 Tryz.ord149 fs4) (Tryz.envOK 28 Tryz.ord149 fs4 fs4_ok) (.bool) Tryz.kp149 Tryz.func149 rfl (by kernel_rfl) (by simp [Tryz.E]) (Callable.of Tryz.func149 (by kernel_rfl) (by kernel_rfl)) (by kernel_rfl) ?_
  intro σ
  simp only [tav, Rd.av]
  have h6 := mul_le (dist_le (small_tg hs r.a) (small_tg hs r.b)) h1
  simp -implicitDefEqProofs (maxSteps := 2000000) (disch := omega) only [go_sem, reduceCtorEq, Nat.reduceAdd, Nat.reduceSub, Nat.reduceMul, Nat.reduceLT, Nat.reduceLeDiff, Nat.reduceEqDiff, Nat.reduceBEq, Int.reduceToNat, Int.reduceLT, Int.reduceLE, Int.reduceEq, Int.reduceNeg, Int.reduceAdd, Int.reduceSub, Int.reduceMul, ↓reduceIte, Int.reduceBEq, Int.reduceBNe, hs]
  simp only [isR]; grind
theorem higher_p (r : Rd) (t : List Int) (sl : Int) (ht : t.length = 3) (ha : 0 ≤ r.a ∧ r.a ≤ 2) (hb : 0 ≤ r.b ∧ r.b ≤ 2) (hk : r.kind = 3) :
    PureV Tryz.prog 150 [r.av, tav t] (.bool (isR r sl t)) := by
  refine PureV.of_ev (E := Tryz.E 16 Tryz.ord150 fs4) (Tryz.envOK 16 Tryz.ord150 fs4 fs4_ok) (.bool) Tryz.kp150 Tryz.func150 rfl (by kernel_rfl) (by simp [Tryz.E]) (Callable.of Tryz.func150 (by kernel_rfl) (by kernel_rfl)) (by kernel_rfl) ?_
  intro σ
  simp only [tav, Rd.av]
  simp -implicitDefEqProofs (maxSteps := 2000000) (disch := omega) only [go_sem, reduceCtorEq, Nat.reduceAdd, Nat.reduceSub, Nat.reduceMul, Nat.reduceLT, Nat.reduceLeDiff, Nat.reduceEqDiff, Nat.reduceBEq, Int.reduceToNat, Int.reduceLT, Int.reduceLE, Int.reduceEq, Int.reduceNeg, Int.reduceAdd, Int.reduceSub, Int.reduceMul, ↓reduceIte, Int.reduceBEq, Int.reduceBNe]
  simp only [isR]; grind
def rdv (r : Rd) (sl : Int) : AV :=
  if r.kind = 1 then .iface 134 (.agg [.int .i64 r.kind, .int .i64 r.a, .int .i64 r.b, .int .i64 r.sec, .int .i64 r.shown.lo, .int .i64 r.shown.hi, .int .i64 sl])
  else if r.kind = 2 then .iface 136 r.av else .iface 137 r.av
theorem rdv_plain (r : Rd) (sl : Int) : Plain (rdv r sl) := by
  unfold rdv
  split
  · exact .iface (.agg (by simp; exact ⟨.int, .int, .int, .int, .int, .int, .int⟩))
  · split
    · exact .iface (Rd.plain r)
    · exact .iface (Rd.plain r)
theorem readingOf_p (r : Rd) (sl : Int) : PureV Tryz.prog 79 [r.av, .int .i64 sl] (rdv r sl) := by
  refine PureV.of_ev (E := Tryz.E 21 (fun _ => ([], [])) fs4) (Tryz.envOK 21 (fun _ => ([], [])) fs4 fs4_ok) (rdv_plain r sl) Tryz.kp79 Tryz.func79 rfl (by kernel_rfl) (by simp [Tryz.E]) (Callable.of Tryz.func79 (by kernel_rfl) (by kernel_rfl)) (by kernel_rfl) ?_
  intro σ
  simp only [Rd.av]
  simp -implicitDefEqProofs (maxSteps := 2000000) (disch := omega) only [go_sem, reduceCtorEq, Nat.reduceAdd, Nat.reduceSub, Nat.reduceMul, Nat.reduceLT, Nat.reduceLeDiff, Nat.reduceEqDiff, Nat.reduceBEq, Int.reduceToNat, Int.reduceLT, Int.reduceLE, Int.reduceEq, Int.reduceNeg, Int.reduceAdd, Int.reduceSub, Int.reduceMul, ↓reduceIte, Int.reduceBEq, Int.reduceBNe]
  refine ⟨fun h => ?_, fun h => ⟨fun h2 => ?_, fun h2 => ?_⟩⟩ <;> simp [rdv, h, *, wk, wk1, wk0, Rd.av]
def readingOf_s := spec2 tRd tI fun r sl => some (rdv r sl)
theorem readingOf_ok : ∀ xs v, readingOf_s xs = some v → PureV Tryz.prog 79 xs v :=
  spec2_ok fun r sl v h => by simp only [Option.some.injEq] at h; rw [← h]; exact readingOf_p r sl
def decC : AV → Option (Rd × Int)
  | .agg [.int .i64 k, .int .i64 a, .int .i64 b, .int .i64 s, .int .i64 x, .int .i64 y, .int .i64 sl] => some (⟨k, a, b, s, ⟨x, y⟩⟩, sl)
  | _ => none
def tC : Ty (Rd × Int) := ⟨decC, fun p => .agg [.int .i64 p.1.kind, .int .i64 p.1.a, .int .i64 p.1.b, .int .i64 p.1.sec, .int .i64 p.1.shown.lo, .int .i64 p.1.shown.hi, .int .i64 p.2], fun {a x} h => by
  unfold decC at h; split at h
  · simp at h; subst h; exact ⟨rfl, rfl, rfl, rfl, rfl, rfl, rfl, trivial⟩
  · cases h⟩
theorem tC_dec {a : AV} : tC.dec a = decC a := rfl
def count_s := spec2 tC tT fun p t => if t.length = 3 ∧ small t ∧ okR p.1 ∧ p.1.kind = 1 ∧ (0 ≤ p.2 ∧ p.2 ≤ 3) then some (.bool (isR p.1 p.2 t)) else none
theorem count_ok : ∀ xs v, count_s xs = some v → PureV Tryz.prog 122 xs v :=
  spec2_ok fun p t v h => by
    obtain ⟨⟨a, b, ⟨c1, c2, c3, c4, c5, c6⟩, d, e⟩, h⟩ := someIf h
    rw [← h]; exact count_p p.1 p.2 t a b c2 d c4 c5 c6 e
def beat_s := spec2 tRd tT fun r t => if t.length = 3 ∧ small t ∧ okR r ∧ r.kind = 2 then some (.bool (isR r 0 t)) else none
theorem beat_ok : ∀ xs v, beat_s xs = some v → PureV Tryz.prog 149 xs v :=
  spec2_ok fun r t v h => by
    obtain ⟨⟨a, b, ⟨c1, c2, c3, c4, c5, c6⟩, d⟩, h⟩ := someIf h
    rw [← h]; exact beat_p r t 0 a b c2 c3 d c4 c5 c6
def higher_s := spec2 tRd tT fun r t => if t.length = 3 ∧ okR r ∧ r.kind = 3 then some (.bool (isR r 0 t)) else none
theorem higher_ok : ∀ xs v, higher_s xs = some v → PureV Tryz.prog 150 xs v :=
  spec2_ok fun r t v h => by
    obtain ⟨⟨a, ⟨c1, c2, c3, c4, c5, c6⟩, d⟩, h⟩ := someIf h
    rw [← h]; exact higher_p r t 0 a c2 c3 d
def fs5 (f : FuncId) (xs : List AV) : Option AV := if f = 79 then readingOf_s xs else if f = 122 then count_s xs else if f = 149 then beat_s xs else if f = 150 then higher_s xs else fs4 f xs
theorem fs5_ok : ∀ f xs v, fs5 f xs = some v → PureV Tryz.prog f xs v := by
  intro f xs v h
  unfold fs5 at h
  split at h
  · rename_i e; subst e; exact readingOf_ok _ _ h
  split at h
  · rename_i e; subst e; exact count_ok _ _ h
  split at h
  · rename_i e; subst e; exact beat_ok _ _ h
  split at h
  · rename_i e; subst e; exact higher_ok _ _ h
  exact fs4_ok _ _ _ h
attribute [go_sem] fs5 readingOf_s count_s beat_s higher_s
theorem isR_slack {r : Rd} {sl : Int} {t : List Int} (h : r.kind ≠ 1) : isR r sl t = isR r 0 t := by simp [isR, h]
/-- A reading is asked through the interface. -/
theorem invoke_is {N : Nat} {ord : Nat → List Nat × List (Nat × List Nat)} {fs : FuncId → List AV → Option AV} (hf : ∀ xs, fs 122 xs = count_s xs ∧ fs 149 xs = beat_s xs ∧ fs 150 xs = higher_s xs) {r : Rd} {sl : Int} {t : List Int} {σ : List AObj} {X : AV → List AObj → Prop}
    (hr : okR r) (hsl : 0 ≤ sl ∧ sl ≤ 3) (ht : t.length = 3) (hs : small t) : callI (Tryz.E N ord fs) σ X "musette/meter.is" (some (rdv r sl)) (some [.agg (t.map (AV.int .i64))]) = giveC X σ (isR r sl t) := by
  have hk := hr.1
  rcases (by omega : r.kind = 1 ∨ r.kind = 2 ∨ r.kind = 3) with k | k | k
  · obtain ⟨rk, ra, rb, rs, rx, ry⟩ := r
    simp only at k
    subst k
    simp only [rdv, if_true, callI_some, Tryz.Emt, Tryz.mt_count, callM_some, callA_eq, Tryz.Efs, (hf _).1, count_s, spec2, tC_dec, decC, tT_dec, decT_agg, Option.bind_some, ht, hs, hr, hsl, true_and, and_self, if_true, callO_give, giveB_giveC]
  · simp only [rdv, k, if_true, callI_some, Tryz.Emt, Tryz.mt_beat, callM_some, callA_eq, Tryz.Efs, (hf _).2.1, beat_s, spec2, tRd_dec, decRd_av, tT_dec, decT_agg, Option.bind_some, ht, hs, hr, and_self, if_true, callO_give, giveB_giveC, isR_slack (r := r) (sl := sl) (by omega), (by decide : ¬ (2 : Int) = 1), if_false]
  · simp only [rdv, k, if_true, callI_some, Tryz.Emt, Tryz.mt_higher, callM_some, callA_eq, Tryz.Efs, (hf _).2.2, higher_s, spec2, tRd_dec, decRd_av, tT_dec, decT_agg, Option.bind_some, ht, hs, hr, and_self, if_true, callO_give, giveB_giveC, isR_slack (r := r) (sl := sl) (by omega), (by decide : ¬ (3 : Int) = 1), (by decide : ¬ (3 : Int) = 2), if_false]
end Go.Proofs
