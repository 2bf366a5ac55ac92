/- Texts of a proof: lemmas. -/
import Derived.Test.YtpodkdondibbfaaAE
set_option linter.unusedSimpArgs false
set_option linter.unusedVariables false
set_option maxRecDepth 100000
namespace Go.Proofs
open Go Go.Mu

/-- What a reading can show, and the truths that it leaves then. -/
def pushO (t : List Int) (m : List (Int × List (List Int))) (k : Int) : List (Int × List (List Int)) := mset m k ((mget m k).getD [] ++ [t])
def outS (r : Rd) (sl : Int) (m : List (Int × List (List Int))) (t : List Int) : List (Int × List (List Int)) := (showsL r sl t).foldl (pushO t) m
def outcomesL (r : Rd) (sl : Int) (l : List (List Int)) : List (Int × List (List Int)) := l.foldl (outS r sl) []
abbrev MT := List (Int × (Nat × List (List Int)))
def mapT (m : MT) : List (AV × AV) := m.map fun p => (AV.int .i64 p.1, AV.list (.own p.2.1) 3 (p.2.2.map tav))
def strip (m : MT) : List (Int × List (List Int)) := m.map fun p => (p.1, p.2.2)
theorem fIdx_strip {k : Int} : ∀ {m : MT} {i : Nat}, fIdx k (strip m) i = (fIdx k m i).map fun q => (q.1, q.2.2)
  | [], _ => rfl
  | (k', v) :: m, i => by
    simp only [strip, List.map_cons, fIdx]
    split
    · rfl
    · exact fIdx_strip (m := m)
theorem mget_strip {k : Int} {m : MT} : mget (strip m) k = (mget m k).map (·.2) := by
  unfold mget; rw [fIdx_strip]; cases fIdx k m 0 <;> rfl
theorem strip_mset {k : Int} {m : MT} {v : Nat × List (List Int)} : strip (mset m k v) = mset (strip m) k v.2 := by
  unfold mset; rw [fIdx_strip]
  cases fIdx k m 0 with
  | none => simp [strip]
  | some q => simp [strip, List.map_set]
theorem lookT_none {m : MT} {k : Int} {σ : List AObj} (h : mget m k = none) : lookR false (.list .full 0 []) σ (findA (.int .i64 k) (mapT m) 0) = some (.list .full 0 [], σ) := by
  have := lookR_map (f := fun v : Nat × List (List Int) => AV.list (.own v.1) 3 (v.2.map tav)) (m := m) (k := k) (ok := false) (z := .list .full 0 []) (σ := σ)
  unfold mapT; rw [this, h]; rfl
theorem lookT_some {m : MT} {k : Int} {σ : List AObj} {v : Nat × List (List Int)} (h : mget m k = some v) : lookR false (.list .full 0 []) σ (findA (.int .i64 k) (mapT m) 0) = some (.list (.own v.1) 3 (v.2.map tav), σ) := by
  have := lookR_map (f := fun v : Nat × List (List Int) => AV.list (.own v.1) 3 (v.2.map tav)) (m := m) (k := k) (ok := false) (z := .list .full 0 []) (σ := σ)
  unfold mapT; rw [this, h]; rfl
theorem updT {m : MT} {k : Int} {r id : Nat} {ts : List (List Int)} {xs : List AV} {σ : List AObj} (h : xs = ts.map tav) : updR r (mapT m) (.int .i64 k) (.list (.own id) 3 xs) σ (findA (.int .i64 k) (mapT m) 0) = some (.tup [], hset σ r (.map (mapT (mset m k (id, ts))))) := by
  subst h
  exact updR_map (f := fun v : Nat × List (List Int) => AV.list (.own v.1) 3 (v.2.map tav)) (v := (id, ts))
/-- The objects of the outcomes. -/
structure OutOK (B : Nat) (σ : List AObj) (m : MT) (τ : List AObj) : Prop where
  len : σ.length < τ.length
  old : ∀ k, k < σ.length → hget τ k = hget σ k
  map : hget τ σ.length = some (.map (mapT m))
  tl : ∀ p ∈ m, σ.length < p.2.1 ∧ hget τ p.2.1 = some (.tail p.2.2.length 3) ∧ p.2.2.length ≤ B
  nd : (m.map fun p => p.2.1).Nodup
theorem OutOK.lt {B : Nat} {σ : List AObj} {m : MT} {τ : List AObj} (h : OutOK B σ m τ) {p : Int × (Nat × List (List Int))} (hp : p ∈ m) : p.2.1 < τ.length := hget_lt (h.tl p hp).2.1
theorem OutOK.app {B : Nat} {σ : List AObj} {m : MT} {τ l : List AObj} (h : OutOK B σ m τ) : OutOK B σ m (τ ++ l) :=
  ⟨by have := h.len; simp; omega, fun k hk => by rw [hget_app (by have := h.len; omega)]; exact h.old k hk, by rw [hget_app h.len]; exact h.map, fun p hp => ⟨(h.tl p hp).1, by rw [hget_app (h.lt hp)]; exact (h.tl p hp).2.1, (h.tl p hp).2.2⟩, h.nd⟩
theorem OutOK.mono {B C : Nat} {σ : List AObj} {m : MT} {τ : List AObj} (h : OutOK B σ m τ) (hc : B ≤ C) : OutOK C σ m τ := ⟨h.len, h.old, h.map, fun p hp => ⟨(h.tl p hp).1, (h.tl p hp).2.1, Nat.le_trans (h.tl p hp).2.2 hc⟩, h.nd⟩
/-- A new outcome. -/
theorem OutOK.new {B : Nat} (hB : 1 ≤ B) {σ : List AObj} {m : MT} {τ : List AObj} (h : OutOK B σ m τ) {k : Int} {t : List Int} (hg : mget m k = none) : OutOK B σ (mset m k (τ.length, [t])) (hset (τ ++ [.tail 1 3]) σ.length (.map (mapT (mset m k (τ.length, [t]))))) := by
  have hf : fIdx k m 0 = none := by unfold mget at hg; cases hx : fIdx k m 0 with | none => rfl | some q => rw [hx] at hg; cases hg
  have hm : mset m k (τ.length, [t]) = m ++ [(k, (τ.length, [t]))] := by unfold mset; rw [hf]
  have hl := h.len
  refine ⟨by rw [length_hset]; simp; omega, fun q hq => by rw [hget_ne (by omega), hget_app (by omega)]; exact h.old q hq, hget_set (by rw [hget_app hl]; exact h.map) _, fun p hp => ?_, ?_⟩
  · rw [hm] at hp
    rcases List.mem_append.1 hp with hp | hp
    · have h2 := h.tl p hp
      have h3 := h.lt hp
      exact ⟨h2.1, by rw [hget_ne (by omega), hget_app h3]; exact h2.2.1, h2.2.2⟩
    · simp at hp; subst hp
      exact ⟨hl, by rw [hget_ne (by simp only; omega)]; exact hget_at0, hB⟩
  · rw [hm, List.map_append, List.nodup_append]
    refine ⟨h.nd, by simp, fun a ha b hb => ?_⟩
    simp at hb; subst hb
    obtain ⟨p, hp, rfl⟩ := List.mem_map.1 ha
    have := h.lt hp
    omega
/-- An outcome once more. -/
theorem OutOK.more {B : Nat} {σ : List AObj} {m : MT} {τ : List AObj} (h : OutOK B σ m τ) {k : Int} {t : List Int} {id : Nat} {ts : List (List Int)} (hg : mget m k = some (id, ts)) :
    OutOK (B + 1) σ (mset m k (id, ts ++ [t])) (hset (hset τ id (.tail (ts.length + 1) 3)) σ.length (.map (mapT (mset m k (id, ts ++ [t]))))) := by
  obtain ⟨j, hf⟩ : ∃ j, fIdx k m 0 = some (j, (id, ts)) := by
    unfold mget at hg
    cases hx : fIdx k m 0 with
    | none => rw [hx] at hg; cases hg
    | some q => obtain ⟨j, v⟩ := q; rw [hx] at hg; simp at hg; subst hg; exact ⟨j, rfl⟩
  have hm : mset m k (id, ts ++ [t]) = m.set j (k, (id, ts ++ [t])) := by unfold mset; rw [hf]
  have hj := (fIdx_get hf).2
  simp only [Nat.sub_zero] at hj
  have hl := h.len
  have hmem : (k, (id, ts)) ∈ m := List.mem_of_getElem? hj
  obtain ⟨i1, i2, i3⟩ := h.tl _ hmem
  simp only at i1 i2 i3
  obtain ⟨hjl, hje⟩ := List.getElem?_eq_some_iff.1 hj
  refine ⟨by simp only [length_hset]; exact hl, fun q hq => by rw [hget_ne (by omega), hget_ne (by omega)]; exact h.old q hq, hget_set (by rw [hget_ne (by omega)]; exact h.map) _, fun p hp => ?_, ?_⟩
  · rw [hm] at hp
    obtain ⟨i, hi, rfl⟩ := List.mem_iff_getElem.1 hp
    rw [List.getElem_set]
    by_cases e : j = i
    · rw [if_pos e]
      exact ⟨i1, by simp only; rw [hget_ne (by omega)]; simpa using hget_set i2 _, by simp; omega⟩
    · rw [if_neg e]
      have hi' : i < m.length := by simpa using hi
      have h2 := h.tl _ (List.getElem_mem hi')
      have hne : m[i].2.1 ≠ id := fun e2 => by
        have := h.nd
        rw [List.nodup_iff_pairwise_ne, List.pairwise_iff_getElem] at this
        rcases Nat.lt_or_gt_of_ne e with h4 | h4
        · have := this j i (by simpa using hjl) (by simpa using hi') h4
          simp [hje] at this; exact this e2.symm
        · have := this i j (by simpa using hi') (by simpa using hjl) h4
          simp [hje] at this; exact this e2
      exact ⟨h2.1, by rw [hget_ne (by omega), hget_ne (fun e2 => hne e2.symm)]; exact h2.2.1, by omega⟩
  · have : (mset m k (id, ts ++ [t])).map (fun p => p.2.1) = m.map fun p => p.2.1 := by
      rw [hm, List.map_set]
      apply List.ext_getElem?
      intro i
      rw [List.getElem?_set]
      by_cases e : j = i
      · subst e; simp [hjl, hje]
      · simp [e]
    rw [this]; exact h.nd
set_option maxHeartbeats 1000000 in
theorem outcomes_c (r : Rd) (sl : Int) (l : List (List Int)) (hr : okR r) (hsl : 0 ≤ sl ∧ sl ≤ 3) (hl : l.length ≤ 10000) (h3 : ∀ t ∈ l, t.length = 3 ∧ small t) (σ : List AObj) (Q : AV → List AObj → Prop) (h : ∀ τ m, OutOK 300010000 σ m τ → strip m = outcomesL r sl l → Q (.map σ.length) τ) :
    ACalls Try.prog 45 [tavs l, rdv r sl] σ Q := by
  refine ACalls.of_ev (E := Try.E 36 (fun _ => ([], [])) fs5) (Try.envOK 36 (fun _ => ([], [])) fs5 fs5_ok) Try.kp45 Try.func45 rfl (by kernel_rfl) (by simp [Try.E]) (Callable.of Try.func45 (by kernel_rfl) (by kernel_rfl)) (by kernel_rfl) ?_
  simp only [tavs]
  simp -implicitDefEqProofs (maxSteps := 2000000) (disch := omega) only [go_sem, reduceCtorEq, Nat.reduceAdd, Nat.reduceSub, Nat.reduceMul, Nat.reduceLT, Nat.reduceLeDiff, Nat.reduceEqDiff, Nat.reduceBEq, Int.reduceToNat, Int.reduceLT, Int.reduceLE, Int.reduceEq, Int.reduceNeg, Int.reduceAdd, Int.reduceSub, Int.reduceMul, ↓reduceIte, Int.reduceBEq, Int.reduceBNe, tav]
  refine ARun.forJ (Try.envOK 36 (fun _ => ([], [])) fs5 fs5_ok) l.length (fun i τ => ∃ m, OutOK (i * 30001) σ m τ ∧ strip m = (l.take i).foldl (outS r sl) []) (fun i => [(13, .int .i64 i)]) (by kernel_rfl) (by simp [upd, ins, subF, lookA]) ⟨[], ⟨by simp, fun k hk => hget_app hk, hget_at0, by simp, by simp⟩, rfl⟩ ?_ ?_
  · rintro i τ hi ⟨m, hO, hm⟩ ih
    have hmi : l[i] ∈ l := List.getElem_mem hi
    obtain ⟨h3i, hsi⟩ := h3 _ hmi
    rw [foldl_take _ _ _ _ hi, ← hm] at ih
    simp -implicitDefEqProofs (maxSteps := 2000000) (disch := omega) only [go_sem, reduceCtorEq, Nat.reduceAdd, Nat.reduceSub, Nat.reduceMul, Nat.reduceLT, Nat.reduceLeDiff, Nat.reduceEqDiff, Nat.reduceBEq, Int.reduceToNat, Int.reduceLT, Int.reduceLE, Int.reduceEq, Int.reduceNeg, Int.reduceAdd, Int.reduceSub, Int.reduceMul, ↓reduceIte, Int.reduceBEq, Int.reduceBNe, tav]
    refine shows_p r sl l[i] hr hsl h3i hsi _ _ ?_
    simp only [tIs]
    have hsl2 := showsL_len (r := r) (sl := sl) (t := l[i])
    simp -implicitDefEqProofs (maxSteps := 2000000) (disch := omega) only [go_sem, reduceCtorEq, Nat.reduceAdd, Nat.reduceSub, Nat.reduceMul, Nat.reduceLT, Nat.reduceLeDiff, Nat.reduceEqDiff, Nat.reduceBEq, Int.reduceToNat, Int.reduceLT, Int.reduceLE, Int.reduceEq, Int.reduceNeg, Int.reduceAdd, Int.reduceSub, Int.reduceMul, ↓reduceIte, Int.reduceBEq, Int.reduceBNe, tav]
    refine ARun.forJ (Try.envOK 36 (fun _ => ([], [])) fs5 fs5_ok) (showsL r sl l[i]).length (fun i2 τ2 => ∃ m2, OutOK (i * 30001 + i2) σ m2 τ2 ∧ strip m2 = ((showsL r sl l[i]).take i2).foldl (pushO l[i]) (strip m) ∧ hget τ2 τ.length = some (.cells (l[i].map (AV.int .i64)))) (fun i2 => [(21, .int .i64 i2)]) (by kernel_rfl) (by simp [upd, ins, subF, lookA]) ⟨m, hO.app, rfl, hget_at0⟩ ?_ ?_
    · rintro i2 τ2 hi2 ⟨m2, hO2, hm2, hb⟩ ih2
      rw [foldl_take _ _ _ _ hi2, ← hm2] at ih2
      generalize hkk : (showsL r sl l[i])[i2] = kk at ih2
      have hmap := hO2.map
      cases hg : mget m2 kk with
      | none =>
        have hmap' : ∀ l, hget (τ2 ++ l) σ.length = some (.map (mapT m2)) := fun l => by rw [hget_app hO2.len]; exact hmap
        have hu : ∀ r id σ, updR r (mapT m2) (.int .i64 kk) (.list (.own id) 3 [.agg (l[i].map (AV.int .i64))]) σ (findA (.int .i64 kk) (mapT m2) 0) = some (.tup [], hset σ r (.map (mapT (mset m2 kk (id, [l[i]]))))) := fun _ _ _ => updT rfl
        simp -implicitDefEqProofs (maxSteps := 2000000) (disch := omega) only [go_sem, reduceCtorEq, Nat.reduceAdd, Nat.reduceSub, Nat.reduceMul, Nat.reduceLT, Nat.reduceLeDiff, Nat.reduceEqDiff, Nat.reduceBEq, Int.reduceToNat, Int.reduceLT, Int.reduceLE, Int.reduceEq, Int.reduceNeg, Int.reduceAdd, Int.reduceSub, Int.reduceMul, ↓reduceIte, Int.reduceBEq, Int.reduceBNe, tav, hkk, hmap, hmap', hb, lookT_none hg, hu]
        have hbl := hget_lt hb
        have hτ : σ.length < τ.length := hO.len
        refine (ih2 _ ⟨_, (hO2.mono (by omega)).new (by omega) hg, ?_, ?_⟩).castS rfl (by simp [upd, ins, subF, lookA])
        · rw [strip_mset, pushO, mget_strip, hg]; rfl
        · rw [hget_ne (by omega), hget_app hbl]; exact hb
      | some v =>
        obtain ⟨id, ts⟩ := v
        obtain ⟨t1, t2, t3⟩ := hO2.tl _ (mget_mem hg)
        simp only at t1 t2 t3
        have hu : ∀ r id σ, updR r (mapT m2) (.int .i64 kk) (.list (.own id) 3 (ts.map tav ++ [.agg (l[i].map (AV.int .i64))])) σ (findA (.int .i64 kk) (mapT m2) 0) = some (.tup [], hset σ r (.map (mapT (mset m2 kk (id, ts ++ [l[i]]))))) := fun _ _ _ => updT (by simp [tav])
        have hmap' : ∀ o, hget (hset τ2 id o) σ.length = some (.map (mapT m2)) := fun o => by rw [hget_ne (by omega)]; exact hmap
        simp -implicitDefEqProofs (maxSteps := 2000000) (disch := omega) only [go_sem, reduceCtorEq, Nat.reduceAdd, Nat.reduceSub, Nat.reduceMul, Nat.reduceLT, Nat.reduceLeDiff, Nat.reduceEqDiff, Nat.reduceBEq, Int.reduceToNat, Int.reduceLT, Int.reduceLE, Int.reduceEq, Int.reduceNeg, Int.reduceAdd, Int.reduceSub, Int.reduceMul, ↓reduceIte, Int.reduceBEq, Int.reduceBNe, tav, hkk, hmap, hmap', hb, lookT_some hg, hu, t2]
        have hbl := hget_lt hb
        have hτ : σ.length < τ.length := hO.len
        have hne : id ≠ τ.length := fun e => by rw [e] at t2; rw [hb] at t2; cases t2
        refine (ih2 _ ⟨_, (hO2.more hg).mono (by omega), ?_, ?_⟩).castS rfl (by simp [upd, ins, subF, lookA])
        · rw [strip_mset, pushO, mget_strip, hg]; rfl
        · rw [hget_ne (by omega), hget_ne hne]; exact hb
    · rintro τ2 ⟨m2, hO2, hm2, hb⟩
      rw [List.take_length] at hm2
      simp -implicitDefEqProofs (maxSteps := 2000000) (disch := omega) only [go_sem, reduceCtorEq, Nat.reduceAdd, Nat.reduceSub, Nat.reduceMul, Nat.reduceLT, Nat.reduceLeDiff, Nat.reduceEqDiff, Nat.reduceBEq, Int.reduceToNat, Int.reduceLT, Int.reduceLE, Int.reduceEq, Int.reduceNeg, Int.reduceAdd, Int.reduceSub, Int.reduceMul, ↓reduceIte, Int.reduceBEq, Int.reduceBNe, tav]
      refine (ih τ2 ⟨m2, hO2.mono (by rw [Nat.succ_mul]; omega), hm2⟩).castS rfl (by simp [upd, ins, subF, lookA])
  · rintro τ ⟨m, hO, hm⟩
    rw [List.take_length] at hm
    simp -implicitDefEqProofs (maxSteps := 2000000) (disch := omega) only [go_sem, reduceCtorEq, Nat.reduceAdd, Nat.reduceSub, Nat.reduceMul, Nat.reduceLT, Nat.reduceLeDiff, Nat.reduceEqDiff, Nat.reduceBEq, Int.reduceToNat, Int.reduceLT, Int.reduceLE, Int.reduceEq, Int.reduceNeg, Int.reduceAdd, Int.reduceSub, Int.reduceMul, ↓reduceIte, Int.reduceBEq, Int.reduceBNe, tav]
    exact h τ m (hO.mono (by omega)) hm
end Go.Proofs
