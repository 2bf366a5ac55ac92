/- Texts of a proof: lemmas. -/
import Derived.Test.YtbkjffpembflcaaGreatA7
set_option linter.unusedSimpArgs false
set_option linter.unusedVariables false
set_option maxRecDepth 100000
namespace Go.Proofs
open Go Go.Mu

def withS (r : Rd) (c : Int) : Rd := ⟨r.kind, r.a, r.b, r.sec, ⟨c, c⟩⟩
def cLo (n sl : Int) : Int := mx 0 (n / 100 - sl - 1)
def cHi (n sl : Int) : Int := mn 25000 (n / 100 + sl + 2)
def outAt (r : Rd) (sl : Int) (t : List Int) (i : Nat) : List Int := ((List.range i).map fun k : Nat => cLo (tg t r.a * r.sec) sl + k).filter fun c => isR (withS r c) sl t
/-- All that a reading can show of some tones. -/
def showsL (r : Rd) (sl : Int) (t : List Int) : List Int :=
  if r.kind = 1 then outAt r sl t (cHi (tg t r.a * r.sec) sl - cLo (tg t r.a * r.sec) sl + 1).toNat
  else if r.kind = 2 then [dist (tg t r.a) (tg t r.b) * r.sec / 100] else [if isR r sl t then 1 else 0]
theorem outAt_succ {r : Rd} {sl : Int} {t : List Int} {i : Nat} : outAt r sl t (i + 1) = outAt r sl t i ++ (if isR (withS r (cLo (tg t r.a * r.sec) sl + i)) sl t then [cLo (tg t r.a * r.sec) sl + i] else []) := by
  simp only [outAt, List.range_succ, List.map_append, List.filter_append, List.map_cons, List.map_nil, List.filter_cons, List.filter_nil]
theorem outAt_len {r : Rd} {sl : Int} {t : List Int} {i : Nat} : (outAt r sl t i).length ≤ i := by
  unfold outAt
  exact Nat.le_trans (List.length_filter_le _ _) (by simp)
set_option maxHeartbeats 1000000 in
theorem shows1_p (a b s x y sl : Int) (t : List Int) (hr : okR ⟨1, a, b, s, ⟨x, y⟩⟩) (hsl : 0 ≤ sl ∧ sl ≤ 3) (ht : t.length = 3) (hs : small t) : PureV Tryz.prog 100 [rdv ⟨1, a, b, s, ⟨x, y⟩⟩ sl, tav t] (tIs.av (showsL ⟨1, a, b, s, ⟨x, y⟩⟩ sl t)) := by
  refine PureV.of_ev (E := Tryz.E 76 Tryz.ord100 fs5) (Tryz.envOK 76 Tryz.ord100 fs5 fs5_ok) (Plain.ints) Tryz.kp100 Tryz.func100 rfl (by kernel_rfl) (by simp [Tryz.E]) (Callable.of Tryz.func100 (by kernel_rfl) (by kernel_rfl)) (by kernel_rfl) ?_
  intro σ
  simp only [rdv, tav, if_true]
  obtain ⟨ha, hb, hsec, hx, hy⟩ := hr.2
  simp only at ha hb hsec hx hy
  have hn := mul_le (small_tg hs a) hsec
  obtain ⟨q, hq⟩ : ∃ q, (tg t a * s).tdiv 100 = q := ⟨_, rfl⟩
  have hq2 : q = tg t a * s / 100 := by rw [← hq]; exact Int.tdiv_eq_ediv_of_nonneg hn.1
  obtain ⟨lo, hlo⟩ : ∃ lo, (if 0 < q - sl - 1 then q - sl - 1 else 0) = lo := ⟨_, rfl⟩
  obtain ⟨hi, hhi⟩ : ∃ hi, (if q + sl + 2 < 25000 then q + sl + 2 else 25000) = hi := ⟨_, rfl⟩
  have elo : cLo (tg t a * s) sl = lo := by rw [← hlo, hq2]; rfl
  have ehi : cHi (tg t a * s) sl = hi := by rw [← hhi, hq2]; rfl
  have blo : 0 ≤ lo ∧ lo ≤ 300000 := by rw [← hlo]; split <;> omega
  have bhi : 0 ≤ hi ∧ hi ≤ 25000 := by rw [← hhi]; split <;> omega
  simp -implicitDefEqProofs (maxSteps := 2000000) (disch := omega) only [go_sem, reduceCtorEq, Nat.reduceAdd, Nat.reduceSub, Nat.reduceMul, Nat.reduceLT, Nat.reduceLeDiff, Nat.reduceEqDiff, Nat.reduceBEq, Int.reduceToNat, Int.reduceLT, Int.reduceLE, Int.reduceEq, Int.reduceNeg, Int.reduceAdd, Int.reduceSub, Int.reduceMul, ↓reduceIte, Int.reduceBEq, Int.reduceBNe, hq, hlo, tC_dec]
  refine ARun.ghost 7 1 (sz0 := 0) rfl (by simp [lookA]) ?_
  simp only [ins, ↓reduceIte, List.append_assoc, List.cons_append, List.nil_append, List.length_append, List.length_cons, List.length_nil, Nat.zero_add, Nat.reduceEqDiff, Nat.reduceAdd]
  refine ARun.forJ (Tryz.envOK 76 Tryz.ord100 fs5 fs5_ok) (hi - lo + 1).toNat (fun i σ' => ∃ x y j, σ' = σ ++ (.cells (t.map (AV.int .i64)) :: .cells [.int .i64 1, .int .i64 a, .int .i64 b, .int .i64 s, .int .i64 x, .int .i64 y, .int .i64 sl] :: .tail (outAt ⟨1, a, b, s, ⟨x, y⟩⟩ sl t i).length 1 :: j)) (fun i => [(7, .list (.own (σ.length + 2)) 1 ((outAt ⟨1, a, b, s, ⟨x, y⟩⟩ sl t i).map (AV.int .i64))), (8, .int .i64 (lo + i))]) (by kernel_rfl) (by simp [upd, ins, subF, lookA, outAt]) ⟨x, y, [], by simp [outAt]⟩ ?_ ?_
  · rintro i σ' hi' ⟨x', y', j, rfl⟩ ih
    have hokc : okR ⟨1, a, b, s, ⟨lo + i, lo + i⟩⟩ := ⟨hr.1, ha, hb, hsec, by simp only; omega, by simp only; omega⟩
    have hsu := outAt_succ (r := ⟨1, a, b, s, ⟨x, y⟩⟩) (sl := sl) (t := t) (i := i)
    simp only [elo, withS] at hsu
    have hol := outAt_len (r := ⟨1, a, b, s, ⟨x, y⟩⟩) (sl := sl) (t := t) (i := i)
    have hE : ∀ x' y' i, outAt ⟨1, a, b, s, ⟨x', y'⟩⟩ sl t i = outAt ⟨1, a, b, s, ⟨x, y⟩⟩ sl t i := fun _ _ _ => rfl
    simp only [hE]
    cases hb2 : isR ⟨1, a, b, s, ⟨lo + i, lo + i⟩⟩ sl t
    · rw [hb2] at hsu
      simp -implicitDefEqProofs (maxSteps := 2000000) (disch := omega) only [go_sem, reduceCtorEq, Nat.reduceAdd, Nat.reduceSub, Nat.reduceMul, Nat.reduceLT, Nat.reduceLeDiff, Nat.reduceEqDiff, Nat.reduceBEq, Int.reduceToNat, Int.reduceLT, Int.reduceLE, Int.reduceEq, Int.reduceNeg, Int.reduceAdd, Int.reduceSub, Int.reduceMul, ↓reduceIte, Int.reduceBEq, Int.reduceBNe, hq, hlo, hhi, hokc, hs, hb2, tC_dec, decC]
      refine (ih _ ⟨lo + i, lo + i, j, ?_⟩).castS rfl (by simp [upd, ins, subF, lookA, hsu, Int.add_assoc])
      simp [hE, hsu]
    · rw [hb2] at hsu
      simp -implicitDefEqProofs (maxSteps := 2000000) (disch := omega) only [go_sem, reduceCtorEq, Nat.reduceAdd, Nat.reduceSub, Nat.reduceMul, Nat.reduceLT, Nat.reduceLeDiff, Nat.reduceEqDiff, Nat.reduceBEq, Int.reduceToNat, Int.reduceLT, Int.reduceLE, Int.reduceEq, Int.reduceNeg, Int.reduceAdd, Int.reduceSub, Int.reduceMul, ↓reduceIte, Int.reduceBEq, Int.reduceBNe, hq, hlo, hhi, hokc, hs, hb2, tC_dec, decC]
      refine (ih _ ⟨lo + i, lo + i, j, ?_⟩).castS rfl (by simp [upd, ins, subF, lookA, hsu, Int.add_assoc])
      simp [hE, hsu]
  · rintro σ' ⟨x', y', j, rfl⟩
    simp -implicitDefEqProofs (maxSteps := 2000000) (disch := omega) only [go_sem, reduceCtorEq, Nat.reduceAdd, Nat.reduceSub, Nat.reduceMul, Nat.reduceLT, Nat.reduceLeDiff, Nat.reduceEqDiff, Nat.reduceBEq, Int.reduceToNat, Int.reduceLT, Int.reduceLE, Int.reduceEq, Int.reduceNeg, Int.reduceAdd, Int.reduceSub, Int.reduceMul, ↓reduceIte, Int.reduceBEq, Int.reduceBNe, hq, hlo, hhi]
    exact ⟨by simp [showsL, elo, ehi], .inl rfl, .inl rfl⟩
theorem shows2_p (r : Rd) (sl : Int) (t : List Int) (hr : okR r) (hk : r.kind = 2) (ht : t.length = 3) (hs : small t) : PureV Tryz.prog 100 [.iface 136 r.av, tav t] (tIs.av (showsL r sl t)) := by
  refine PureV.of_ev (E := Tryz.E 76 Tryz.ord100 fs5) (Tryz.envOK 76 Tryz.ord100 fs5 fs5_ok) (Plain.ints) Tryz.kp100 Tryz.func100 rfl (by kernel_rfl) (by simp [Tryz.E]) (Callable.of Tryz.func100 (by kernel_rfl) (by kernel_rfl)) (by kernel_rfl) ?_
  intro σ
  obtain ⟨k, a, b, s, x, y⟩ := r
  simp only at hk
  subst hk
  simp only [Rd.av, tav]
  obtain ⟨ha, hb, hsec, hx, hy⟩ := hr.2
  simp only at ha hb hsec hx hy
  have hn := mul_le (dist_le (small_tg hs a) (small_tg hs b)) hsec
  have hq : (dist (tg t a) (tg t b) * s).tdiv 100 = dist (tg t a) (tg t b) * s / 100 := Int.tdiv_eq_ediv_of_nonneg hn.1
  simp -implicitDefEqProofs (maxSteps := 2000000) (disch := omega) only [go_sem, reduceCtorEq, Nat.reduceAdd, Nat.reduceSub, Nat.reduceMul, Nat.reduceLT, Nat.reduceLeDiff, Nat.reduceEqDiff, Nat.reduceBEq, Int.reduceToNat, Int.reduceLT, Int.reduceLE, Int.reduceEq, Int.reduceNeg, Int.reduceAdd, Int.reduceSub, Int.reduceMul, ↓reduceIte, Int.reduceBEq, Int.reduceBNe, hs, hq]
  exact ⟨by simp [showsL], .inl rfl, .inl rfl⟩
theorem shows3_p (r : Rd) (sl : Int) (t : List Int) (hr : okR r) (hsl : 0 ≤ sl ∧ sl ≤ 3) (hk : r.kind = 3) (ht : t.length = 3) (hs : small t) : PureV Tryz.prog 100 [.iface 137 r.av, tav t] (tIs.av (showsL r sl t)) := by
  refine PureV.of_ev (E := Tryz.E 76 Tryz.ord100 fs5) (Tryz.envOK 76 Tryz.ord100 fs5 fs5_ok) (Plain.ints) Tryz.kp100 Tryz.func100 rfl (by kernel_rfl) (by simp [Tryz.E]) (Callable.of Tryz.func100 (by kernel_rfl) (by kernel_rfl)) (by kernel_rfl) ?_
  intro σ
  have hinv := @invoke_is 76 Tryz.ord100 fs5 (fun _ => ⟨rfl, rfl, rfl⟩) r sl t
  have hrd : rdv r sl = .iface 137 r.av := by simp [rdv, hk]
  rw [hrd] at hinv
  simp only [tav]
  cases hb : isR r sl t
  · simp -implicitDefEqProofs (maxSteps := 2000000) (disch := omega) only [go_sem, reduceCtorEq, Nat.reduceAdd, Nat.reduceSub, Nat.reduceMul, Nat.reduceLT, Nat.reduceLeDiff, Nat.reduceEqDiff, Nat.reduceBEq, Int.reduceToNat, Int.reduceLT, Int.reduceLE, Int.reduceEq, Int.reduceNeg, Int.reduceAdd, Int.reduceSub, Int.reduceMul, ↓reduceIte, Int.reduceBEq, Int.reduceBNe, hinv hr hsl ht hs, hb]
    exact ⟨by simp [showsL, hk, hb], .inl rfl, .inl rfl⟩
  · simp -implicitDefEqProofs (maxSteps := 2000000) (disch := omega) only [go_sem, reduceCtorEq, Nat.reduceAdd, Nat.reduceSub, Nat.reduceMul, Nat.reduceLT, Nat.reduceLeDiff, Nat.reduceEqDiff, Nat.reduceBEq, Int.reduceToNat, Int.reduceLT, Int.reduceLE, Int.reduceEq, Int.reduceNeg, Int.reduceAdd, Int.reduceSub, Int.reduceMul, ↓reduceIte, Int.reduceBEq, Int.reduceBNe, hinv hr hsl ht hs, hb]
    exact ⟨by simp [showsL, hk, hb], .inl rfl, .inl rfl⟩
theorem shows_p (r : Rd) (sl : Int) (t : List Int) (hr : okR r) (hsl : 0 ≤ sl ∧ sl ≤ 3) (ht : t.length = 3) (hs : small t) : PureV Tryz.prog 100 [rdv r sl, tav t] (tIs.av (showsL r sl t)) := by
  have hk := hr.1
  rcases (by omega : r.kind = 1 ∨ r.kind = 2 ∨ r.kind = 3) with k | k | k
  · obtain ⟨rk, a, b, s, x, y⟩ := r
    simp only at k
    subst k
    exact shows1_p a b s x y sl t hr hsl ht hs
  · have := shows2_p r sl t hr k ht hs
    simpa [rdv, k] using this
  · have := shows3_p r sl t hr hsl k ht hs
    simpa [rdv, k] using this
theorem showsL_len {r : Rd} {sl : Int} {t : List Int} : (showsL r sl t).length ≤ 30001 := by
  unfold showsL
  split
  · refine Nat.le_trans outAt_len ?_
    have h1 : 0 ≤ cLo (tg t r.a * r.sec) sl := by unfold cLo mx; split <;> omega
    have h2 : cHi (tg t r.a * r.sec) sl ≤ 25000 := by unfold cHi mn; split <;> omega
    omega
  · split <;> simp
end Go.Proofs
