/- Texts of a proof: lemmas. -/
import Derived.Test.YtbkjffpembflcaaGreatA13
set_option linter.unusedSimpArgs false
set_option linter.unusedVariables false
set_option maxRecDepth 100000
namespace Go.Proofs
open Go Go.Mu

def gate_s := spec3 tEar tI tI fun e a b => if e.tones.length ≤ 4294967296 ∧ e.rds.length ≤ 4294967296 then some (.tup [.int .i64 (gateL e a b).1, .int .i64 (gateL e a b).2]) else none
theorem gate_ok : ∀ xs v, gate_s xs = some v → PureV Tryz.prog 41 xs v :=
  spec3_ok fun e a b v h => by have h := someIf h; rw [← h.2]; exact gate_p e a b h.1.1 h.1.2
def fs10 (f : FuncId) (xs : List AV) : Option AV := if f = 41 then gate_s xs else fs9 f xs
theorem fs10_ok : ∀ f xs v, fs10 f xs = some v → PureV Tryz.prog f xs v := by
  intro f xs v h
  unfold fs10 at h
  split at h
  · rename_i e; subst e; exact gate_ok _ _ h
  exact fs9_ok _ _ _ h
attribute [go_sem] fs10 gate_s
/-- A question: a tongue, a range, readings. -/
def qav (x : Int) (w : Rng) (rs : AV) : AV := .agg [.int .i64 x, .int .i64 w.lo, .int .i64 w.hi, rs]
def qis (x : Int) (w : Rng) (t : List Int) : Bool := decide (w.lo ≤ tg t x ∧ tg t x ≤ w.hi)
def qin (x : Int) (w : Rng) (l : List (List Int)) : Bool := decide (verd (l.filter (qis x w)).length l.length ≠ 3)
theorem qis_c (x : Int) (w : Rng) (tk : Tok) (sz : Nat) (rs : List AV) (t : List Int) (hx : 0 ≤ x ∧ x ≤ 2) (ht : t.length = 3) : PureV Tryz.prog 102 [qav x w (.list tk sz rs), tav t] (.bool (qis x w t)) := by
  refine PureV.of_ev (E := Tryz.E 16 Tryz.ord102 fs5) (Tryz.envOK 16 Tryz.ord102 fs5 fs5_ok) (.bool) Tryz.kp102 Tryz.func102 rfl (by kernel_rfl) (by simp [Tryz.E]) (Callable.of Tryz.func102 (by kernel_rfl) (by kernel_rfl)) (by kernel_rfl) ?_
  intro σ
  simp only [qav, tav]
  simp -implicitDefEqProofs (maxSteps := 2000000) (disch := omega) only [go_sem, reduceCtorEq, Nat.reduceAdd, Nat.reduceSub, Nat.reduceMul, Nat.reduceLT, Nat.reduceLeDiff, Nat.reduceEqDiff, Nat.reduceBEq, Int.reduceToNat, Int.reduceLT, Int.reduceLE, Int.reduceEq, Int.reduceNeg, Int.reduceAdd, Int.reduceSub, Int.reduceMul, ↓reduceIte, Int.reduceBEq, Int.reduceBNe]
  refine ⟨fun h1 h2 => ?_, fun h1 => ?_⟩ <;> simp [qis, *]
theorem decided_c (x : Int) (w : Rng) (tk : Tok) (sz : Nat) (rs : List AV) (l : List (List Int)) (hx : 0 ≤ x ∧ x ≤ 2) (hl : l.length ≤ 4294967296) (h3 : ∀ t ∈ l, t.length = 3) : PureV Tryz.prog 87 [qav x w (.list tk sz rs), tavs l] (.bool (qin x w l)) := by
  refine PureV.of_ev (E := Tryz.E 10 (fun _ => ([], [])) fs5) (Tryz.envOK 10 (fun _ => ([], [])) fs5 fs5_ok) (.bool) Tryz.kp87 Tryz.func87 rfl (by kernel_rfl) (by simp [Tryz.E]) (Callable.of Tryz.func87 (by kernel_rfl) (by kernel_rfl)) (by kernel_rfl) ?_
  intro σ
  simp only [qav]
  simp -implicitDefEqProofs (maxSteps := 2000000) (disch := omega) only [go_sem, reduceCtorEq, Nat.reduceAdd, Nat.reduceSub, Nat.reduceMul, Nat.reduceLT, Nat.reduceLeDiff, Nat.reduceEqDiff, Nat.reduceBEq, Int.reduceToNat, Int.reduceLT, Int.reduceLE, Int.reduceEq, Int.reduceNeg, Int.reduceAdd, Int.reduceSub, Int.reduceMul, ↓reduceIte, Int.reduceBEq, Int.reduceBNe]
  refine verdict_c (qis x w) l hl h3 (fun t ht => fun σ' hl' hs Q hq => ?_) _ ?_
  · have := qis_c x w tk sz rs t hx (h3 t ht) σ' Q hq
    simpa [qav] using this
  · simp -implicitDefEqProofs (maxSteps := 2000000) (disch := omega) only [go_sem, reduceCtorEq, Nat.reduceAdd, Nat.reduceSub, Nat.reduceMul, Nat.reduceLT, Nat.reduceLeDiff, Nat.reduceEqDiff, Nat.reduceBEq, Int.reduceToNat, Int.reduceLT, Int.reduceLE, Int.reduceEq, Int.reduceNeg, Int.reduceAdd, Int.reduceSub, Int.reduceMul, ↓reduceIte, Int.reduceBEq, Int.reduceBNe]
    simp only [qin]
    refine ⟨fun h => ?_, fun h => ?_⟩ <;> simp [h]
def stepD (b : Bool) (m : Option (List (Int × Bool))) (k : Int) : Option (List (Int × Bool)) := match m with
  | none => none
  | some m => if mget m k = some (!b) then none else some (mset m k b)
def decS (x : Int) (w : Rng) (r : Rd) (sl : Int) (m : Option (List (Int × Bool))) (t : List Int) : Option (List (Int × Bool)) := (showsL r sl t).foldl (stepD (qis x w t)) m
/-- Whether a reading decides, whatever it shows. -/
def decidesL (x : Int) (w : Rng) (r : Rd) (sl : Int) (l : List (List Int)) : Bool := (l.foldl (decS x w r sl) (some [])).isSome
theorem foldl_none {α β : Type} {f : Option β → α → Option β} (hf : ∀ a, f none a = none) : ∀ (l : List α), l.foldl f none = none
  | [] => rfl
  | a :: l => by rw [List.foldl_cons, hf]; exact foldl_none hf l
theorem foldl_part {α β : Type} {f : Option β → α → Option β} (hf : ∀ a, f none a = none) {l : List α} {i : Nat} {s : Option β} (h : (l.take i).foldl f s = none) : l.foldl f s = none := by
  rw [← List.take_append_drop i l, List.foldl_append, h]; exact foldl_none hf _
theorem decS_none {x : Int} {w : Rng} {r : Rd} {sl : Int} (t : List Int) : decS x w r sl none t = none := foldl_none (fun _ => rfl) _
set_option maxHeartbeats 1000000 in
theorem decides_p (x : Int) (w : Rng) (tk : Tok) (sz : Nat) (rs : List AV) (r : Rd) (sl : Int) (l : List (List Int)) (hx : 0 ≤ x ∧ x ≤ 2) (hr : okR r) (hsl : 0 ≤ sl ∧ sl ≤ 3) (hl : l.length ≤ 4294967296) (h3 : ∀ t ∈ l, t.length = 3 ∧ small t) : PureV Tryz.prog 105 [qav x w (.list tk sz rs), tavs l, rdv r sl] (.bool (decidesL x w r sl l)) := by
  refine PureV.of_ev (E := Tryz.E 50 (fun _ => ([], [])) fs5) (Tryz.envOK 50 (fun _ => ([], [])) fs5 fs5_ok) (.bool) Tryz.kp105 Tryz.func105 rfl (by kernel_rfl) (by simp [Tryz.E]) (Callable.of Tryz.func105 (by kernel_rfl) (by kernel_rfl)) (by kernel_rfl) ?_
  intro σ
  simp only [tavs, qav]
  simp -implicitDefEqProofs (maxSteps := 2000000) (disch := omega) only [go_sem, reduceCtorEq, Nat.reduceAdd, Nat.reduceSub, Nat.reduceMul, Nat.reduceLT, Nat.reduceLeDiff, Nat.reduceEqDiff, Nat.reduceBEq, Int.reduceToNat, Int.reduceLT, Int.reduceLE, Int.reduceEq, Int.reduceNeg, Int.reduceAdd, Int.reduceSub, Int.reduceMul, ↓reduceIte, Int.reduceBEq, Int.reduceBNe, tav]
  refine ARun.forJ (Tryz.envOK 50 (fun _ => ([], [])) fs5 fs5_ok) l.length (fun i τ => ∃ m j, (l.take i).foldl (decS x w r sl) (some []) = some m ∧ τ = σ ++ (.cells [.int .i64 x, .int .i64 w.lo, .int .i64 w.hi, .list tk sz rs] :: .map (mapB m) :: j)) (fun i => [(18, .int .i64 i)]) (by kernel_rfl) (by simp [upd, ins, subF, lookA]) ⟨[], [], rfl, rfl⟩ ?_ ?_
  · rintro i τ hi ⟨m, j, hm, rfl⟩ ih
    have hmi : l[i] ∈ l := List.getElem_mem hi
    obtain ⟨h3i, hsi⟩ := h3 _ hmi
    rw [foldl_take _ _ _ _ hi, hm] at ih
    simp -implicitDefEqProofs (maxSteps := 2000000) (disch := omega) only [go_sem, reduceCtorEq, Nat.reduceAdd, Nat.reduceSub, Nat.reduceMul, Nat.reduceLT, Nat.reduceLeDiff, Nat.reduceEqDiff, Nat.reduceBEq, Int.reduceToNat, Int.reduceLT, Int.reduceLE, Int.reduceEq, Int.reduceNeg, Int.reduceAdd, Int.reduceSub, Int.reduceMul, ↓reduceIte, Int.reduceBEq, Int.reduceBNe, tav]
    refine qis_c x w tk sz rs l[i] hx h3i _ _ ?_
    simp -implicitDefEqProofs (maxSteps := 2000000) (disch := omega) only [go_sem, reduceCtorEq, Nat.reduceAdd, Nat.reduceSub, Nat.reduceMul, Nat.reduceLT, Nat.reduceLeDiff, Nat.reduceEqDiff, Nat.reduceBEq, Int.reduceToNat, Int.reduceLT, Int.reduceLE, Int.reduceEq, Int.reduceNeg, Int.reduceAdd, Int.reduceSub, Int.reduceMul, ↓reduceIte, Int.reduceBEq, Int.reduceBNe, tav]
    refine shows_p r sl l[i] hr hsl h3i hsi _ _ ?_
    simp only [tIs]
    have hsl2 := showsL_len (r := r) (sl := sl) (t := l[i])
    have n1 : (true != false) = true := rfl
    have n2 : (false != true) = true := rfl
    generalize hb0 : qis x w l[i] = b0
    have hdS : ∀ m, decS x w r sl m l[i] = (showsL r sl l[i]).foldl (stepD b0) m := fun m => by rw [decS, hb0]
    rw [hdS] at ih
    simp -implicitDefEqProofs (maxSteps := 2000000) (disch := omega) only [go_sem, reduceCtorEq, Nat.reduceAdd, Nat.reduceSub, Nat.reduceMul, Nat.reduceLT, Nat.reduceLeDiff, Nat.reduceEqDiff, Nat.reduceBEq, Int.reduceToNat, Int.reduceLT, Int.reduceLE, Int.reduceEq, Int.reduceNeg, Int.reduceAdd, Int.reduceSub, Int.reduceMul, ↓reduceIte, Int.reduceBEq, Int.reduceBNe, tav]
    refine ARun.forJ (Tryz.envOK 50 (fun _ => ([], [])) fs5 fs5_ok) (showsL r sl l[i]).length (fun i2 τ2 => ∃ m2 j2, ((showsL r sl l[i]).take i2).foldl (stepD b0) (some m) = some m2 ∧ τ2 = σ ++ (.cells [.int .i64 x, .int .i64 w.lo, .int .i64 w.hi, .list tk sz rs] :: .map (mapB m2) :: j2)) (fun i2 => [(29, .int .i64 i2)]) (by kernel_rfl) (by simp [upd, ins, subF, lookA]) ⟨m, _, rfl, rfl⟩ ?_ ?_
    · rintro i2 τ2 hi2 ⟨m2, j2, hm2, rfl⟩ ih2
      have hft := foldl_take (stepD b0) (some m) (showsL r sl l[i]) i2 hi2
      rw [hm2] at hft
      rw [hft] at ih2
      generalize hkk : (showsL r sl l[i])[i2] = kk at ih2 hft
      have hbad : mget m2 kk = some (!b0) → decidesL x w r sl l = false := fun hg => by
        have e1 : stepD b0 (some m2) kk = none := by simp [stepD, hg]
        have e2 : (showsL r sl l[i]).foldl (stepD b0) (some m) = none := foldl_part (i := i2 + 1) (fun _ => rfl) (by rw [hft, e1])
        have e3 : (l.take (i + 1)).foldl (decS x w r sl) (some []) = none := by rw [foldl_take _ _ _ _ hi, hm, hdS, e2]
        simp [decidesL, foldl_part decS_none e3]
      have hgood : mget m2 kk ≠ some (!b0) → stepD b0 (some m2) kk = some (mset m2 kk b0) := fun hg => by simp [stepD, hg]
      cases hg : mget m2 kk with
      | none =>
        rw [hgood (by rw [hg]; simp)] at ih2
        cases b0
        · simp -implicitDefEqProofs (maxSteps := 2000000) (disch := omega) only [go_sem, reduceCtorEq, Nat.reduceAdd, Nat.reduceSub, Nat.reduceMul, Nat.reduceLT, Nat.reduceLeDiff, Nat.reduceEqDiff, Nat.reduceBEq, Int.reduceToNat, Int.reduceLT, Int.reduceLE, Int.reduceEq, Int.reduceNeg, Int.reduceAdd, Int.reduceSub, Int.reduceMul, ↓reduceIte, Int.reduceBEq, Int.reduceBNe, tav, hkk, hg, n1, n2, Option.getD_none, Option.isSome_none]
          refine (ih2 _ ⟨_, _, rfl, rfl⟩).castS rfl (by simp [upd, ins, subF, lookA])
        · simp -implicitDefEqProofs (maxSteps := 2000000) (disch := omega) only [go_sem, reduceCtorEq, Nat.reduceAdd, Nat.reduceSub, Nat.reduceMul, Nat.reduceLT, Nat.reduceLeDiff, Nat.reduceEqDiff, Nat.reduceBEq, Int.reduceToNat, Int.reduceLT, Int.reduceLE, Int.reduceEq, Int.reduceNeg, Int.reduceAdd, Int.reduceSub, Int.reduceMul, ↓reduceIte, Int.reduceBEq, Int.reduceBNe, tav, hkk, hg, n1, n2, Option.getD_none, Option.isSome_none]
          refine (ih2 _ ⟨_, _, rfl, rfl⟩).castS rfl (by simp [upd, ins, subF, lookA])
      | some b =>
        cases b <;> cases b0
        · rw [hgood (by rw [hg]; simp)] at ih2
          simp -implicitDefEqProofs (maxSteps := 2000000) (disch := omega) only [go_sem, reduceCtorEq, Nat.reduceAdd, Nat.reduceSub, Nat.reduceMul, Nat.reduceLT, Nat.reduceLeDiff, Nat.reduceEqDiff, Nat.reduceBEq, Int.reduceToNat, Int.reduceLT, Int.reduceLE, Int.reduceEq, Int.reduceNeg, Int.reduceAdd, Int.reduceSub, Int.reduceMul, ↓reduceIte, Int.reduceBEq, Int.reduceBNe, tav, hkk, hg, n1, n2]
          refine (ih2 _ ⟨_, _, rfl, rfl⟩).castS rfl (by simp [upd, ins, subF, lookA])
        · simp -implicitDefEqProofs (maxSteps := 2000000) (disch := omega) only [go_sem, reduceCtorEq, Nat.reduceAdd, Nat.reduceSub, Nat.reduceMul, Nat.reduceLT, Nat.reduceLeDiff, Nat.reduceEqDiff, Nat.reduceBEq, Int.reduceToNat, Int.reduceLT, Int.reduceLE, Int.reduceEq, Int.reduceNeg, Int.reduceAdd, Int.reduceSub, Int.reduceMul, ↓reduceIte, Int.reduceBEq, Int.reduceBNe, tav, hkk, hg, n1, n2]
          exact (hbad hg).symm
        · simp -implicitDefEqProofs (maxSteps := 2000000) (disch := omega) only [go_sem, reduceCtorEq, Nat.reduceAdd, Nat.reduceSub, Nat.reduceMul, Nat.reduceLT, Nat.reduceLeDiff, Nat.reduceEqDiff, Nat.reduceBEq, Int.reduceToNat, Int.reduceLT, Int.reduceLE, Int.reduceEq, Int.reduceNeg, Int.reduceAdd, Int.reduceSub, Int.reduceMul, ↓reduceIte, Int.reduceBEq, Int.reduceBNe, tav, hkk, hg, n1, n2]
          exact (hbad hg).symm
        · rw [hgood (by rw [hg]; simp)] at ih2
          simp -implicitDefEqProofs (maxSteps := 2000000) (disch := omega) only [go_sem, reduceCtorEq, Nat.reduceAdd, Nat.reduceSub, Nat.reduceMul, Nat.reduceLT, Nat.reduceLeDiff, Nat.reduceEqDiff, Nat.reduceBEq, Int.reduceToNat, Int.reduceLT, Int.reduceLE, Int.reduceEq, Int.reduceNeg, Int.reduceAdd, Int.reduceSub, Int.reduceMul, ↓reduceIte, Int.reduceBEq, Int.reduceBNe, tav, hkk, hg, n1, n2]
          refine (ih2 _ ⟨_, _, rfl, rfl⟩).castS rfl (by simp [upd, ins, subF, lookA])
    · rintro τ2 ⟨m2, j2, hm2, rfl⟩
      rw [List.take_length] at hm2
      simp -implicitDefEqProofs (maxSteps := 2000000) (disch := omega) only [go_sem, reduceCtorEq, Nat.reduceAdd, Nat.reduceSub, Nat.reduceMul, Nat.reduceLT, Nat.reduceLeDiff, Nat.reduceEqDiff, Nat.reduceBEq, Int.reduceToNat, Int.reduceLT, Int.reduceLE, Int.reduceEq, Int.reduceNeg, Int.reduceAdd, Int.reduceSub, Int.reduceMul, ↓reduceIte, Int.reduceBEq, Int.reduceBNe, tav]
      refine (ih _ ⟨m2, j2, hm2, rfl⟩).castS rfl (by simp [upd, ins, subF, lookA])
  · rintro τ ⟨m, j, hm, rfl⟩
    rw [List.take_length] at hm
    simp -implicitDefEqProofs (maxSteps := 2000000) (disch := omega) only [go_sem, reduceCtorEq, Nat.reduceAdd, Nat.reduceSub, Nat.reduceMul, Nat.reduceLT, Nat.reduceLeDiff, Nat.reduceEqDiff, Nat.reduceBEq, Int.reduceToNat, Int.reduceLT, Int.reduceLE, Int.reduceEq, Int.reduceNeg, Int.reduceAdd, Int.reduceSub, Int.reduceMul, ↓reduceIte, Int.reduceBEq, Int.reduceBNe, tav]
    simp [decidesL, hm]
end Go.Proofs
